import Derived.Test.YtehjfmjibiafdaaGreatZooLoadsJ19
import Derived.Shelf.SlSortCmp.QuietGrown
import Derived.Test.YtehjfmjibiafdaaGreatZooLoadsJ11
/- The order of handles: Compare; bonds and handles sorted. -/
namespace Go.Proofs.YtehjfmjibiafdaaGreat
open Go Go.RowKit Go.Shelf Go.Sort
attribute [local go_sem] AllFrom.cons_eq AllFrom.nil_eq putF_nil putF_cons wantedL_none wantedL_some OpGoalT OpGoalV OpGoalQ OpGoalA OpGoalK YieldsR preF_nil preF_cons

/-- V is W with blocks behind it, and draws. -/
def Grown (W V : World) : Prop := ∃ q os, V = grow (W.drewN q) os
theorem Grown.refl (W : World) : Grown W W := ⟨0, #[], by rw [grow_empty]; rfl⟩
theorem Grown.alloc {W V : World} (h : Grown W V) (o : Obj) : Grown W (V.alloc o) := by
  obtain ⟨q, os, rfl⟩ := h
  exact ⟨q, os ++ #[o], by rw [alloc_eq_grow, grow_grow]⟩
theorem Grown.drew {W V : World} (h : Grown W V) : Grown W V.drew := by
  obtain ⟨q, os, rfl⟩ := h
  exact ⟨q + 1, os, rfl⟩
theorem Grown.trans {W V U : World} (h : Grown W V) (k : Grown V U) : Grown W U := by
  obtain ⟨q, os, rfl⟩ := h
  obtain ⟨q', os', rfl⟩ := k
  exact ⟨q + q', os ++ os', by simp [grow, World.drewN, Array.append_assoc, Nat.add_assoc]⟩

def cmpH (a b : Hd) : Int := if Lib.compareInt a.1 b.1 ≠ 0 then Lib.compareInt a.1 b.1 else Lib.compareInt a.2 b.2
theorem cmpH_lt (a b : Hd) : cmpH a b < 0 ↔ ltH a b = true := by
  rw [ltH_iff]
  unfold cmpH Lib.compareInt
  repeat' split
  all_goals omega

set_option maxRecDepth 20000 in
theorem compareI_any (x y : Int) (w : World) : Calls Tryz.prog 64 #[.int .i64 x, .int .i64 y] w fun e w' => e = .returned (.int .i64 (Lib.compareInt x y)) ∧ w = w' := by
  unfold Lib.compareInt
  by_cases h1 : x < y
  · rw [if_pos h1]
    go_enter Tryz.func64, Tryz.ntmps64
    go_wp2
    go_ret
    exact ⟨rfl, rfl⟩
  · rw [if_neg h1]
    by_cases h2 : y < x
    · rw [if_pos h2]
      go_enter Tryz.func64, Tryz.ntmps64
      go_wp2
      go_ret
      exact ⟨rfl, rfl⟩
    · rw [if_neg h2]
      go_enter Tryz.func64, Tryz.ntmps64
      go_wp2
      go_ret
      exact ⟨rfl, rfl⟩
def orI (x y : Int) : Int := if x ≠ 0 then x else y
set_option maxRecDepth 20000 in
theorem or_any (b : Nat) (x y : Int) (w : World) (h0 : w.cell? ⟨b, 0, none⟩ = some (.int .i64 x)) (h1 : w.cell? ⟨b, 1, none⟩ = some (.int .i64 y)) (hb : b < w.heap.size) :
    Calls Tryz.prog 135 #[.slice (some ⟨b, 0, none⟩) 2 2] w fun e w' => e = .returned (.int .i64 (orI x y)) ∧ w = w' := by
  have h1' : x ≠ 0 → orI x y = x := fun h => by unfold orI; rw [if_pos h]
  have h2' : x = 0 → orI x y = y := fun h => by unfold orI; rw [if_neg (by simpa using h)]
  have H1 := Lib.hid h1'; have H2 := Lib.hid h2'
  clear h1' h2'
  generalize orI x y = r at *
  go_enter Tryz.func135, Tryz.ntmps135
  go_wp2_with fail
  go_loopw [8] (fun i wr => ∃ k : Nat, i = .int .i64 k ∧ k ≤ 2 ∧ (k ≠ 0 → x = 0) ∧ (k = 2 → y = 0) ∧ wr = w) (fun i _ => 2 - (intOf i).toNat)
  case atStart => exact ⟨0, rfl, by omega, by simp, by simp, rfl⟩
  case round =>
    obtain ⟨k, rfl, hk, hx, hy, rfl⟩ := hrel
    have h3 : k = 0 ∨ k = 1 ∨ k = 2 := by omega
    rcases h3 with rfl | rfl | rfl
    · clear hx hy hk
      by_cases hx0 : x = 0
      · go_wp2
        go_roundw
        case rel => exact ⟨1, rfl, by omega, fun _ => hx0, fun h => by omega, by first | rfl | trivial⟩
        case measure => simp [intOf]
      · obtain rfl : r = x := H1.out hx0
        clear H1 H2
        go_wp2
        go_ret
        exact ⟨rfl, by first | rfl | trivial⟩
    · have hx0 := hx (by omega)
      clear hx hy hk
      by_cases hy0 : y = 0
      · go_wp2
        go_roundw
        case rel => exact ⟨2, rfl, by omega, fun _ => hx0, fun _ => hy0, by first | rfl | trivial⟩
        case measure => simp [intOf]
      · obtain rfl : r = y := H2.out hx0
        clear H1 H2
        go_wp2
        go_ret
        exact ⟨rfl, by first | rfl | trivial⟩
    · have hx0 := hx (by omega)
      have hy0 := hy rfl
      obtain rfl : r = 0 := (H2.out hx0).trans hy0
      clear hx hy hk H1 H2
      go_wp2
      go_ret
      exact ⟨rfl, by first | rfl | trivial⟩

def CmpPost (r : Int) (w : World) (e : Ending) (w' : World) : Prop := e = .returned (.int .i64 r) ∧ Grown w w'
set_option maxRecDepth 20000 in
set_option maxHeartbeats 2000000 in
theorem cmpHd_any (s g t u : Int) (w : World) : Calls Tryz.prog 90 #[.agg #[.int .i64 s, .int .i64 g], .agg #[.int .i64 t, .int .i64 u]] w (CmpPost (cmpH (s, g) (t, u)) w) := by
  obtain ⟨w0, hw0, hb0, hz0, hs0⟩ := box1 w (.cells #[.int .i64 s, .int .i64 g] 41)
  obtain ⟨w1, hw1, hb1, hz1, hs1⟩ := box1 w0 (.cells #[.int .i64 t, .int .i64 u] 41)
  have hz01 := (Mod.ofBelow hb1).keep hz0 (by simp)
  have hG : Grown w w1 := by rw [← hw1, ← hw0]; exact ((Grown.refl w).alloc _).alloc _
  have hc1 := compareI_any s t
  have hc2 := compareI_any g u
  have hfin : cmpH (s, g) (t, u) = orI (Lib.compareInt s t) (Lib.compareInt g u) := rfl
  rw [hfin]
  generalize Lib.compareInt s t = c1 at *
  generalize Lib.compareInt g u = c2 at *
  have q0 := blk_cell hz01 0
  have q1 := blk_cell hz01 1
  simp only [List.getElem?_toArray, List.getElem?_cons_zero, List.getElem?_cons_succ] at q0 q1
  have ql := blk_lt hz01
  have u0 := blk_cell hz1 0
  have u1 := blk_cell hz1 1
  simp only [List.getElem?_toArray, List.getElem?_cons_zero, List.getElem?_cons_succ] at u0 u1
  have ul := blk_lt hz1
  have HC1 := Lib.hid hc1; have HC2 := Lib.hid hc2; have HG := Lib.hid hG
  clear hc1 hc2 hG
  clear hz0 hz01 hz1 hb0 hb1 hs0 hs1 hfin
  go_enter Tryz.func90, Tryz.ntmps90
  go_wp2_with fail
  clear hw0 hw1
  refine wp_planR 10 [] [some 5, some 6, some 7, some 8, some 9, some 10, some 11, some 12, some 13, some 14, some 15, some 16, some 4] [[], [0], [], [2], [0, 1, 2, 3], [], [5], [], [7], [0, 1, 2, 3, 4, 5, 6, 7, 8], [0, 1, 2, 3, 4, 5, 6, 7, 8, 9], [0, 1, 2, 3, 4, 5, 6, 7, 8, 9, 10], [0, 1, 2, 3, 4, 5, 6, 7, 8, 9, 10, 11]] [0, 1, 2, 3, 4, 5, 6, 7, 8, 9] mixed rfl (by kernel_rfl) (by decide) (by decide) rfl ?_
  iterate 10 apply Exists.intro
  refine ⟨rfl, ?_, ?_⟩
  · simp only [List.take_succ_cons, List.take_zero, AllFrom.cons_eq, AllFrom.nil_eq, OpGoalQ]
    refine ⟨?_, ?_, ?_, ?_, ?_, ?_, ?_, ?_, ?_, ?_, trivial⟩
    all_goals (intro σ hp; (try simp only [List.getD_cons_zero, List.getD_cons_succ, List.map_cons, List.map_nil, preF_cons, preF_nil, isV, and_true] at hp); (first | (have hq : True := hp; clear hq hp) | skip))
    · (go_simp; exact ⟨rfl, rfl⟩)
    · (go_simp; exact ⟨rfl, rfl⟩)
    · (go_simp; exact ⟨rfl, rfl⟩)
    · (go_simp; exact ⟨rfl, rfl⟩)
    · (go_simp; refine (HC1.out _).mono ?_; rintro e w' ⟨rfl, rfl⟩; exact ⟨_, rfl, rfl, rfl⟩)
    · (go_simp; exact ⟨rfl, rfl⟩)
    · (go_simp; exact ⟨rfl, rfl⟩)
    · (go_simp; exact ⟨rfl, rfl⟩)
    · (go_simp; exact ⟨rfl, rfl⟩)
    · (go_simp; refine (HC2.out _).mono ?_; rintro e w' ⟨rfl, rfl⟩; exact ⟨_, rfl, rfl, rfl⟩)
  intro σ hp
  simp only [List.getD_cons_zero, List.getD_cons_succ, List.map_cons, List.map_nil, preF_cons, preF_nil, isV, and_true] at hp
  simp only [List.drop_succ_cons, List.drop_zero]
  go_simp
  clear hp
  obtain ⟨w2, hw2, -, hz2, -⟩ := box1 w1.drew (.cells #[.int .i64 c1, .int .i64 c2] 3)
  have hG2 : Grown w w2 := by rw [← hw2]; exact (HG.out.drew).alloc _
  have e0 := blk_cell hz2 0
  have e1 := blk_cell hz2 1
  simp only [List.getElem?_toArray, List.getElem?_cons_zero, List.getElem?_cons_succ] at e0 e1
  have HOr := Lib.hid (or_any _ c1 c2 w2 e0 e1 (blk_lt hz2))
  have HG2 := Lib.hid hG2
  clear hG2
  clear e0 e1 hz2
  go_wp2_with fail
  clear hw2
  refine HOr.out.mono ?_
  rintro e w' ⟨rfl, rfl⟩
  go_wp2
  refine ⟨rfl, ?_⟩
  go_wp2
  go_ret
  exact ⟨rfl, HG2.out⟩
  all_goals exact undef

theorem ltHd_eq (x y : Hd) : ltOf cmpH x y = ltH x y := by
  unfold ltOf
  cases h : ltH x y with
  | true => exact decide_eq_true ((cmpH_lt x y).2 h)
  | false => exact decide_eq_false (fun e => by rw [(cmpH_lt x y).1 e] at h; cases h)
theorem swoHd {α : Type} (f : α → Hd) : SWO (ltOf fun x y : α => cmpH (f x) (f y)) where
  irrefl x := by show ltOf cmpH (f x) (f x) = _; rw [ltHd_eq]; exact ltH_irrefl _
  trans x y z h1 h2 := by
    have h1 : ltOf cmpH (f x) (f y) = true := h1
    have h2 : ltOf cmpH (f y) (f z) = true := h2
    show ltOf cmpH (f x) (f z) = true
    rw [ltHd_eq] at *
    exact ltH_trans h1 h2
  ntrans x y z h1 h2 := by
    have h1 : ltOf cmpH (f x) (f y) = false := h1
    have h2 : ltOf cmpH (f y) (f z) = false := h2
    show ltOf cmpH (f x) (f z) = false
    rw [ltHd_eq] at *
    cases h3 : ltH (f x) (f z) with
    | false => rfl
    | true =>
      cases h4 : ltH (f y) (f x) with
      | true => rw [ltH_trans h4 h3] at h2; cases h2
      | false =>
        have e := ltH_tri h1 h4
        rw [e] at h3; rw [h3] at h2; cases h2

def sortBondL_ren : Go.Shelf.Ren := ⟨fun | 6 => 88 | 15 => 115 | 14 => 134 | 28 => 154 | 29 => 155 | 20 => 162 | 21 => 163 | 22 => 164 | 23 => 165 | 24 => 166 | 25 => 167 | 26 => 168 | 27 => 169 | 46 => 178 | 47 => 174 | 48 => 175 | 49 => 179 | 50 => 180 | 57 => 183 | n => n, fun | 22 => 24 | 24 => 84 | 25 => 162 | 3 => 3 | 39 => 184 | 0 => 0 | 53 => 213 | 55 => 215 | 4 => 4 | 46 => 206 | 45 => 205 | 50 => 210 | 5 => 5 | 9 => 9 | 66 => 228 | 70 => 232 | 76 => 238 | 77 => 239 | n => n, fun | n => n⟩
theorem sortBondL : Go.Proofs.SlLaysF0.n6 Tryz.prog sortBondL_ren := {
  mixed := by kernel_rfl,
  f6 := ⟨Tryz.f88.name, by decide, Tryz.func88.trans (congrArg some (by kernel_rfl))⟩,
  f14 := ⟨Tryz.f134.name, by decide, Tryz.func134.trans (congrArg some (by kernel_rfl))⟩,
  f15 := Tryz.func115.trans (congrArg some (by kernel_rfl)),
  f20 := ⟨Tryz.f162.name, by decide, Tryz.func162.trans (congrArg some (by kernel_rfl))⟩,
  f21 := ⟨Tryz.f163.name, by decide, Tryz.func163.trans (congrArg some (by kernel_rfl))⟩,
  f22 := ⟨Tryz.f164.name, by decide, Tryz.func164.trans (congrArg some (by kernel_rfl))⟩,
  f23 := ⟨Tryz.f165.name, by decide, Tryz.func165.trans (congrArg some (by kernel_rfl))⟩,
  f24 := ⟨Tryz.f166.name, by decide, Tryz.func166.trans (congrArg some (by kernel_rfl))⟩,
  f25 := ⟨Tryz.f167.name, by decide, Tryz.func167.trans (congrArg some (by kernel_rfl))⟩,
  f26 := ⟨Tryz.f168.name, by decide, Tryz.func168.trans (congrArg some (by kernel_rfl))⟩,
  f27 := ⟨Tryz.f169.name, by decide, Tryz.func169.trans (congrArg some (by kernel_rfl))⟩,
  f28 := Tryz.func154.trans (congrArg some (by kernel_rfl)),
  f29 := Tryz.func155.trans (congrArg some (by kernel_rfl)),
  f46 := ⟨Tryz.f178.name, by decide, Tryz.func178.trans (congrArg some (by kernel_rfl))⟩,
  f47 := Tryz.func174.trans (congrArg some (by kernel_rfl)),
  f48 := Tryz.func175.trans (congrArg some (by kernel_rfl)),
  f49 := ⟨Tryz.f179.name, by decide, Tryz.func179.trans (congrArg some (by kernel_rfl))⟩,
  f50 := ⟨Tryz.f180.name, by decide, Tryz.func180.trans (congrArg some (by kernel_rfl))⟩,
  f57 := ⟨Tryz.f183.name, by decide, Tryz.func183.trans (congrArg some (by kernel_rfl))⟩,
  t0 := Tryz.underlying0,
  a0 := Tryz.isAgg0,
  z0 := Tryz.sizeOf0,
  v0 := Tryz.zeroValue0,
  t3 := Tryz.underlying3,
  a3 := Tryz.isAgg3,
  z3 := Tryz.sizeOf3,
  v3 := Tryz.zeroValue3,
  t4 := Tryz.underlying4,
  a4 := Tryz.isAgg4,
  z4 := Tryz.sizeOf4,
  v4 := Tryz.zeroValue4,
  t5 := Tryz.underlying5,
  a5 := Tryz.isAgg5,
  z5 := Tryz.sizeOf5,
  v5 := Tryz.zeroValue5,
  t9 := Tryz.underlying9,
  a9 := Tryz.isAgg9,
  z9 := Tryz.sizeOf9,
  v9 := Tryz.zeroValue9,
  t22 := Tryz.underlying24,
  a22 := Tryz.isAgg24,
  z22 := Tryz.sizeOf24,
  v22 := Tryz.zeroValue24,
  t25 := Tryz.underlying162,
  a25 := Tryz.isAgg162,
  z25 := Tryz.sizeOf162,
  v25 := Tryz.zeroValue162,
  t39 := Tryz.underlying184,
  a39 := Tryz.isAgg184,
  z39 := Tryz.sizeOf184,
  v39 := Tryz.zeroValue184,
  t45 := Tryz.underlying205,
  a45 := Tryz.isAgg205,
  z45 := Tryz.sizeOf205,
  v45 := Tryz.zeroValue205,
  t46 := Tryz.underlying206,
  a46 := Tryz.isAgg206,
  z46 := Tryz.sizeOf206,
  v46 := Tryz.zeroValue206,
  t50 := Tryz.underlying210,
  a50 := Tryz.isAgg210,
  z50 := Tryz.sizeOf210,
  v50 := Tryz.zeroValue210,
  t53 := Tryz.underlying213,
  a53 := Tryz.isAgg213,
  z53 := Tryz.sizeOf213,
  v53 := Tryz.zeroValue213,
  t55 := Tryz.underlying215,
  a55 := Tryz.isAgg215,
  z55 := Tryz.sizeOf215,
  v55 := Tryz.zeroValue215,
  t66 := Tryz.underlying228,
  a66 := Tryz.isAgg228,
  z66 := Tryz.sizeOf228,
  v66 := Tryz.zeroValue228,
  t70 := Tryz.underlying232,
  a70 := Tryz.isAgg232,
  z70 := Tryz.sizeOf232,
  v70 := Tryz.zeroValue232,
  t76 := Tryz.underlying238,
  a76 := Tryz.isAgg238,
  z76 := Tryz.sizeOf238,
  v76 := Tryz.zeroValue238,
  t77 := Tryz.underlying239,
  a77 := Tryz.isAgg239,
  z77 := Tryz.sizeOf239,
  v77 := Tryz.zeroValue239 }
set_option maxRecDepth 20000 in
set_option maxHeartbeats 2000000 in
theorem cmpBd_sort (x y : Bd) (W : World) : Calls Tryz.prog 89 #[.agg (bdC x).toArray, .agg (bdC y).toArray] W (CmpPost (cmpH x.1 y.1) W) := by
  obtain ⟨⟨s, g⟩, ⟨s1, g1⟩⟩ := x
  obtain ⟨⟨t, u⟩, ⟨t1, u1⟩⟩ := y
  show Calls Tryz.prog 89 #[.agg #[.int .i64 s, .int .i64 g, .int .i64 s1, .int .i64 g1], .agg #[.int .i64 t, .int .i64 u, .int .i64 t1, .int .i64 u1]] W (CmpPost (cmpH (s, g) (t, u)) W)
  have HC := Lib.hid (cmpHd_any s g t u)
  go_enter Tryz.func89, Tryz.ntmps89
  go_wp2_with fail
  refine (HC.out _).mono ?_
  rintro e w' ⟨rfl, hG⟩
  have HG := Lib.hid ((((Grown.refl W).alloc _).alloc _).trans hG)
  clear hG
  go_wp2
  go_ret
  exact ⟨rfl, HG.out⟩
theorem sortBonds_any {w : World} {B : Nat} {v : Value} {l : List Bd} (hown : w.ownsRow B 84 4 v l.length (l.flatMap bdC)) (hl : l.length ≤ 1200000000000) :
    Calls Tryz.prog 88 #[v, .func (.func 89) #[] #[]] w (SortedRow bdC 4 B 84 (ltOf fun x y : Bd => cmpH x.1 y.1) l v w) :=
  sort_own sortBondL Tryz.isAgg84 Tryz.sizeOf84 bdC_len bdC_one _ (swoHd (fun x : Bd => x.1)) 89 (enters_of Tryz.func89 (by kernel_rfl) rfl) cmpBd_sort hown (by omega)
end Go.Proofs.YtehjfmjibiafdaaGreat

/- Families: Gone, Bonds. -/
namespace Go.Proofs.YtehjfmjibiafdaaGreat
open Go Go.RowKit Go.Maps
attribute [local go_sem] AllFrom.cons_eq AllFrom.nil_eq putF_nil putF_cons wantedL_none wantedL_some OpGoalT OpGoalV OpGoalQ OpGoalA OpGoalK YieldsR preF_nil preF_cons

def BoolPost (r : Bool) (w : World) (e : Ending) (w' : World) : Prop := e = .returned (.bool r) ∧ Below w.heap.size w w'
theorem mid_perm {α : Type} (D t1 t2 : List α) (x : α) : (D ++ (t1 ++ x :: t2)).Perm (D ++ [x] ++ (t1 ++ t2)) := by
  rw [List.append_assoc]
  exact List.Perm.append_left D List.perm_middle
section
variable {w : World} {f : Nat} {B : List Bd} {F : List Nat}
theorem app_bond {w : World} {ops : Array Oper} {rest : List Oper} {o : Oper} {a : Act} {Q : Exit → Act → World → Prop} (hgd : o.guard = none) (s x : Operand)
    (ho : o.op = .call { callee := .builtin .append, args := #[s, x], argTypes := #[24, 24] }) (base : Nat) (v : Value) (l : List Bd) (y : Bd) (ad : Addr) (c : Nat)
    (hs : a.eval s = v) (hown : w.ownsRow base 84 4 v l.length (l.flatMap bdC)) (hx : a.eval x = .slice (some ad) 1 c) (hc : ∀ j u, (bdC y)[j]? = some u → w.cell? (ad.add j) = some u)
    (hlen : l.length < 4000000000000) (hbase : base ≤ w.heap.size)
    (h : ∀ v' w', w'.ownsRow base 84 4 v' (l ++ [y]).length ((l ++ [y]).flatMap bdC) → w.grownBy w' v.ownBlock → wpList Tryz.prog ops Q rest (a.put o.dst v') w') : wpList Tryz.prog ops Q (o :: rest) a w := by
  refine app_rec (enc := bdC) (n := 4) (bytes := 32) hgd s x 24 84 ho Tryz.underlying24 inf_Bond rfl (by omega) (by omega) bdC_one bdC_len base v l y ad c hs hown hx hc (by omega) hbase ?_
  intro v' w' h1 h2 _
  exact h v' w' h1 h2
theorem own_ne_range {P : Program} {kt : TypeId} {w : World} {B E k n b r : Nat} {v : Value} {xs : List Value} {l todo : List (Value × Value)} (h : w.ownsRow B E k v n xs) (hR : RangeAt P kt w b r l todo) : r ∉ v.ownBlock.toList ∧ b ∉ v.ownBlock.toList := by
  obtain ⟨es, clock, since, seen, c0, h1, h2, h3, -⟩ := hR
  obtain ⟨-, ⟨rfl, -⟩ | ⟨g, cap, cur, rfl, -, hb, -⟩⟩ := h
  · simp [Value.ownBlock]
  · simp only [Value.ownBlock, Option.toList_some, List.mem_singleton]
    constructor
    · rintro rfl; rw [hb] at h3; cases h3
    · rintro rfl; rw [hb] at h1; cases h1
set_option maxRecDepth 20000 in
set_option maxHeartbeats 4000000 in
theorem bonds_any (h : RepF w f B F) (hB : B.length ≤ 1200000000000) : Calls Tryz.prog 38 #[.pointer (some ⟨f, 0, none⟩)] w (MadeRecs 84 4 bdC B w) := by
  obtain ⟨ho, hr, m, l, h1, h2, h3, hF, h5⟩ := h
  obtain ⟨o, hrun, hR⟩ := h2.range Tryz.underlying115
  obtain ⟨w1, hw1, hb1, -, hs1⟩ := box1 w o
  rw [hw1] at hR
  have e0 := blk_cell h1 0
  simp only [List.getElem?_toArray, List.getElem?_cons_zero] at e0
  have hfl := blk_lt h1
  have hll : l.length ≤ 1200000000000 := by rw [h3.length_eq]; exact hB
  have HR := Lib.hid hR; have Hb1 := Lib.hid hb1; have Hs1 := Lib.hid hs1; have Ho := Lib.hid ho; have H3 := Lib.hid h3; have Hll := Lib.hid hll
  clear hR hb1 hs1 ho h3 hll
  clear h1 h2 hr hF h5 hB
  go_enter Tryz.func38, Tryz.ntmps38
  go_wp2_with fail
  clear hrun hw1 e0 hfl
  go_loopw [3, 12] (fun v _ wr => ∃ (D ts : List Bd), RangeAt Tryz.prog 41 wr m w.heap.size (l.map bdPr) (ts.map bdPr) ∧ (D ++ ts).Perm l ∧ wr.ownsRow w.heap.size 84 4 v D.length (D.flatMap bdC) ∧ Below w.heap.size w wr) (fun _ _ wr => wr.rangeLeft m w.heap.size)
  case atStart => exact ⟨[], l, HR.out, .refl _, ⟨rfl, .inl ⟨rfl, rfl⟩⟩, Hb1.out⟩
  case round =>
    obtain ⟨D, ts, hR, hp, hown, hB⟩ := hrel
    obtain ⟨A, cap, rfl, -, -⟩ := row_slice hown
    have hlen : D.length + ts.length = l.length := by rw [← List.length_append]; exact hp.length_eq
    by_cases hts : ts = []
    · subst hts
      have hov := fun ty => RangeAt.over (P := Tryz.prog) (by simpa using hR) ty
      simp only [List.append_nil] at hp
      have H1 := Lib.hid (sortBonds_any hown (by have := Hll.out; rw [hp.length_eq]; exact this))
      have Hp := Lib.hid hp; have HB := Lib.hid hB; have Hown := Lib.hid hown
      clear hp hB hown
      clear hR hlen
      go_wp2_with fail
      refine H1.out.mono ?_
      rintro e w2 ⟨rfl, l', hp', hs', hown', hmod⟩
      have hl' : l' = B := sortB_eq Ho.out.so ((hp'.trans Hp.out).trans H3.out) (hs'.imp fun {x y} h => by
        have h : ltOf cmpH y.1 x.1 = false := h
        rw [ltHd_eq] at h; exact h)
      have hB2 : Below w.heap.size w w2 := HB.out.trans (hmod.toBelow (fun x hx => own_ge Hown.out x (by simpa using hx)) HB.out.size)
      rw [hl'] at hown'
      have hDl : D.length = B.length := (Hp.out.trans H3.out).length_eq
      have HB2 := Lib.hid hB2; have HO2 := Lib.hid hown'
      clear hB2 hown'
      clear hp' hs' hmod hl'
      go_wp2
      refine bodyPost_ret (v := .slice A D.length cap) (by unfold results; try go_simp) rfl ?_
      exact ⟨_, rfl, HO2.out, HB2.out⟩
    · obtain ⟨t1, x, t2, w2, rfl, hn, hen, hx, hR2, hm2, hs2⟩ := hR.nextE hts
      have hmeas := hR.left_eq
      obtain ⟨⟨c0, c1⟩, p0, p1⟩ := x
      have hne := own_ne_range hown hR
      have hrl := hR.lt
      have hown2 := row_mod hown hm2 (fun k hk e => by
        have hk' : k = w.heap.size := by simpa using e
        subst hk'; exact hne.1 (by rw [hk]; simp))
      have hB2 : Below w.heap.size w w2 := hB.trans (hm2.toBelow (by simp) hB.size)
      simp only [bdPr, hdV, handleC] at hn hen
      have hDl : D.length < 1200000000000 := by have := Hll.out; simp at hlen; omega
      have HR := Lib.hid hR; have Hp := Lib.hid hp; have Hown := Lib.hid hown; have HB := Lib.hid hB; have HR2 := Lib.hid hR2; have Hm2 := Lib.hid hm2; have Hs2 := Lib.hid hs2; have Hmeas := Lib.hid hmeas; have HNe := Lib.hid hne; have Hown2 := Lib.hid hown2; have HB2 := Lib.hid hB2; have Hx := Lib.hid hx; have HDl := Lib.hid hDl
      clear hR hp hown hB hR2 hm2 hs2 hmeas hne hown2 hB2 hx hDl
      clear hlen
      go_wp2_with (at_builtin; refine app_bond rfl _ _ rfl w.heap.size (.slice A D.length cap) D ((c0, c1), (p0, p1)) ⟨w2.heap.size + 2, 0, none⟩ 1 rfl (((Hown2.out.alloc _).alloc _).alloc _) rfl (new_rec (by simp) rfl) (by have := HDl.out; omega) (by have := HB2.out.size; simp; omega) ?_; intro v' w3 hown3 hg3)
      go_roundw
      case rel =>
        refine ⟨D ++ [((c0, c1), (p0, p1))], t1 ++ t2, ?_, (mid_perm D t1 t2 _).symm.trans Hp.out, hown3, ?_⟩
        · refine (HR2.out.mod ((((Mod.refl [] w2).alloc _).alloc _).alloc _) (by simp) (by simp)).mod (grown_mod hg3) HNe.out.2 HNe.out.1
        · exact (((HB2.out.alloc HB2.out.size _).alloc (by have := HB2.out.size; simp; omega) _).alloc (by have := HB2.out.size; simp; omega) _).trans ((Below.refl _ _).grown hg3 (by have := HB2.out.size; simp; omega) (own_ge Hown.out))
      case measure =>
        have h3 := (HR2.out.mod ((((Mod.refl [] w2).alloc _).alloc _).alloc _) (by simp) (by simp)).mod (grown_mod hg3) HNe.out.2 HNe.out.1
        rw [h3.left_eq, Hmeas.out]; simp
end
end Go.Proofs.YtehjfmjibiafdaaGreat
