import Derived.Test.YtehjfmjibiafdaaGreatZooDoesJ32
import Derived.Shelf.SlSortCmp.QuietGrown
/- The order of handles: Compare; bonds and handles sorted. -/
namespace Go.Proofs.YtehjfmjibiafdaaGreat
open Go Go.RowKit Go.Shelf Go.Sort
attribute [local go_sem] AllFrom.cons_eq AllFrom.nil_eq putF_nil putF_cons wantedL_none wantedL_some OpGoalT OpGoalV OpGoalQ OpGoalA OpGoalK YieldsR preF_nil preF_cons

/-- V is W with blocks behind it, and draws. -/
def Grown (W V : World) : Prop := ∃ q os, V = grow (W.drewN q) os
theorem Grown.refl (W : World) : Grown W W := ⟨0, #[], by rw [grow_empty]; rfl⟩
theorem Grown.alloc {W V : World} (h : Grown W V) (o : Obj) : Grown W (V.alloc o) := by
  obtain ⟨q, os, rfl⟩ := h
  exact ⟨q, os ++ #[o], by rw [alloc_eq_grow, grow_grow]⟩
theorem Grown.drew {W V : World} (h : Grown W V) : Grown W V.drew := by
  obtain ⟨q, os, rfl⟩ := h
  exact ⟨q + 1, os, rfl⟩
theorem Grown.trans {W V U : World} (h : Grown W V) (k : Grown V U) : Grown W U := by
  obtain ⟨q, os, rfl⟩ := h
  obtain ⟨q', os', rfl⟩ := k
  exact ⟨q + q', os ++ os', by simp [grow, World.drewN, Array.append_assoc, Nat.add_assoc]⟩

def cmpH (a b : Hd) : Int := if Lib.compareInt a.1 b.1 ≠ 0 then Lib.compareInt a.1 b.1 else Lib.compareInt a.2 b.2
theorem cmpH_lt (a b : Hd) : cmpH a b < 0 ↔ ltH a b = true := by
  rw [ltH_iff]
  unfold cmpH Lib.compareInt
  repeat' split
  all_goals omega

set_option maxRecDepth 20000 in
theorem compareI_any (x y : Int) (w : World) : Calls Tryz.prog 64 #[.int .i64 x, .int .i64 y] w fun e w' => e = .returned (.int .i64 (Lib.compareInt x y)) ∧ w = w' := by
  unfold Lib.compareInt
  by_cases h1 : x < y
  · rw [if_pos h1]
    go_enter Tryz.func64, Tryz.ntmps64
    go_wp2
    go_ret
    exact ⟨rfl, rfl⟩
  · rw [if_neg h1]
    by_cases h2 : y < x
    · rw [if_pos h2]
      go_enter Tryz.func64, Tryz.ntmps64
      go_wp2
      go_ret
      exact ⟨rfl, rfl⟩
    · rw [if_neg h2]
      go_enter Tryz.func64, Tryz.ntmps64
      go_wp2
      go_ret
      exact ⟨rfl, rfl⟩
def orI (x y : Int) : Int := if x ≠ 0 then x else y
set_option maxRecDepth 20000 in
theorem or_any (b : Nat) (x y : Int) (w : World) (h0 : w.cell? ⟨b, 0, none⟩ = some (.int .i64 x)) (h1 : w.cell? ⟨b, 1, none⟩ = some (.int .i64 y)) (hb : b < w.heap.size) :
    Calls Tryz.prog 135 #[.slice (some ⟨b, 0, none⟩) 2 2] w fun e w' => e = .returned (.int .i64 (orI x y)) ∧ w = w' := by
  have h1' : x ≠ 0 → orI x y = x := fun h => by unfold orI; rw [if_pos h]
  have h2' : x = 0 → orI x y = y := fun h => by unfold orI; rw [if_neg (by simpa using h)]
  have H1 := Lib.hid h1'; have H2 := Lib.hid h2'
  clear h1' h2'
  generalize orI x y = r at *
  go_enter Tryz.func135, Tryz.ntmps135
  go_wp2_with fail
  go_loopw [8] (fun i wr => ∃ k : Nat, i = .int .i64 k ∧ k ≤ 2 ∧ (k ≠ 0 → x = 0) ∧ (k = 2 → y = 0) ∧ wr = w) (fun i _ => 2 - (intOf i).toNat)
  case atStart => exact ⟨0, rfl, by omega, by simp, by simp, rfl⟩
  case round =>
    obtain ⟨k, rfl, hk, hx, hy, rfl⟩ := hrel
    have h3 : k = 0 ∨ k = 1 ∨ k = 2 := by omega
    rcases h3 with rfl | rfl | rfl
    · clear hx hy hk
      by_cases hx0 : x = 0
      · go_wp2
        go_roundw
        case rel => exact ⟨1, rfl, by omega, fun _ => hx0, fun h => by omega, by first | rfl | trivial⟩
        case measure => simp [intOf]
      · obtain rfl : r = x := H1.out hx0
        clear H1 H2
        go_wp2
        go_ret
        exact ⟨rfl, by first | rfl | trivial⟩
    · have hx0 := hx (by omega)
      clear hx hy hk
      by_cases hy0 : y = 0
      · go_wp2
        go_roundw
        case rel => exact ⟨2, rfl, by omega, fun _ => hx0, fun _ => hy0, by first | rfl | trivial⟩
        case measure => simp [intOf]
      · obtain rfl : r = y := H2.out hx0
        clear H1 H2
        go_wp2
        go_ret
        exact ⟨rfl, by first | rfl | trivial⟩
    · have hx0 := hx (by omega)
      have hy0 := hy rfl
      obtain rfl : r = 0 := (H2.out hx0).trans hy0
      clear hx hy hk H1 H2
      go_wp2
      go_ret
      exact ⟨rfl, by first | rfl | trivial⟩

def CmpPost (r : Int) (w : World) (e : Ending) (w' : World) : Prop := e = .returned (.int .i64 r) ∧ Grown w w'
set_option maxRecDepth 20000 in
set_option maxHeartbeats 2000000 in
theorem cmpHd_any (s g t u : Int) (w : World) : Calls Tryz.prog 90 #[.agg #[.int .i64 s, .int .i64 g], .agg #[.int .i64 t, .int .i64 u]] w (CmpPost (cmpH (s, g) (t, u)) w) := by
  obtain ⟨w0, hw0, hb0, hz0, hs0⟩ := box1 w (.cells #[.int .i64 s, .int .i64 g] 41)
  obtain ⟨w1, hw1, hb1, hz1, hs1⟩ := box1 w0 (.cells #[.int .i64 t, .int .i64 u] 41)
  have hz01 := (Mod.ofBelow hb1).keep hz0 (by simp)
  have hG : Grown w w1 := by rw [← hw1, ← hw0]; exact ((Grown.refl w).alloc _).alloc _
  have hc1 := compareI_any s t
  have hc2 := compareI_any g u
  have hfin : cmpH (s, g) (t, u) = orI (Lib.compareInt s t) (Lib.compareInt g u) := rfl
  rw [hfin]
  generalize Lib.compareInt s t = c1 at *
  generalize Lib.compareInt g u = c2 at *
  have q0 := blk_cell hz01 0
  have q1 := blk_cell hz01 1
  simp only [List.getElem?_toArray, List.getElem?_cons_zero, List.getElem?_cons_succ] at q0 q1
  have ql := blk_lt hz01
  have u0 := blk_cell hz1 0
  have u1 := blk_cell hz1 1
  simp only [List.getElem?_toArray, List.getElem?_cons_zero, List.getElem?_cons_succ] at u0 u1
  have ul := blk_lt hz1
  have HC1 := Lib.hid hc1; have HC2 := Lib.hid hc2; have HG := Lib.hid hG
  clear hc1 hc2 hG
  clear hz0 hz01 hz1 hb0 hb1 hs0 hs1 hfin
  go_enter Tryz.func90, Tryz.ntmps90
  go_wp2_with fail
  clear hw0 hw1
  refine wp_planR 10 [] [some 5, some 6, some 7, some 8, some 9, some 10, some 11, some 12, some 13, some 14, some 15, some 16, some 4] [[], [0], [], [2], [0, 1, 2, 3], [], [5], [], [7], [0, 1, 2, 3, 4, 5, 6, 7, 8], [0, 1, 2, 3, 4, 5, 6, 7, 8, 9], [0, 1, 2, 3, 4, 5, 6, 7, 8, 9, 10], [0, 1, 2, 3, 4, 5, 6, 7, 8, 9, 10, 11]] [0, 1, 2, 3, 4, 5, 6, 7, 8, 9] mixed rfl (by kernel_rfl) (by decide) (by decide) rfl ?_
  iterate 10 apply Exists.intro
  refine ⟨rfl, ?_, ?_⟩
  · simp only [List.take_succ_cons, List.take_zero, AllFrom.cons_eq, AllFrom.nil_eq, OpGoalQ]
    refine ⟨?_, ?_, ?_, ?_, ?_, ?_, ?_, ?_, ?_, ?_, trivial⟩
    all_goals (intro σ hp; (try simp only [List.getD_cons_zero, List.getD_cons_succ, List.map_cons, List.map_nil, preF_cons, preF_nil, isV, and_true] at hp); (first | (have hq : True := hp; clear hq hp) | skip))
    · (go_simp; exact ⟨rfl, rfl⟩)
    · (go_simp; exact ⟨rfl, rfl⟩)
    · (go_simp; exact ⟨rfl, rfl⟩)
    · (go_simp; exact ⟨rfl, rfl⟩)
    · (go_simp; refine (HC1.out _).mono ?_; rintro e w' ⟨rfl, rfl⟩; exact ⟨_, rfl, rfl, rfl⟩)
    · (go_simp; exact ⟨rfl, rfl⟩)
    · (go_simp; exact ⟨rfl, rfl⟩)
    · (go_simp; exact ⟨rfl, rfl⟩)
    · (go_simp; exact ⟨rfl, rfl⟩)
    · (go_simp; refine (HC2.out _).mono ?_; rintro e w' ⟨rfl, rfl⟩; exact ⟨_, rfl, rfl, rfl⟩)
  intro σ hp
  simp only [List.getD_cons_zero, List.getD_cons_succ, List.map_cons, List.map_nil, preF_cons, preF_nil, isV, and_true] at hp
  simp only [List.drop_succ_cons, List.drop_zero]
  go_simp
  clear hp
  obtain ⟨w2, hw2, -, hz2, -⟩ := box1 w1.drew (.cells #[.int .i64 c1, .int .i64 c2] 3)
  have hG2 : Grown w w2 := by rw [← hw2]; exact (HG.out.drew).alloc _
  have e0 := blk_cell hz2 0
  have e1 := blk_cell hz2 1
  simp only [List.getElem?_toArray, List.getElem?_cons_zero, List.getElem?_cons_succ] at e0 e1
  have HOr := Lib.hid (or_any _ c1 c2 w2 e0 e1 (blk_lt hz2))
  have HG2 := Lib.hid hG2
  clear hG2
  clear e0 e1 hz2
  go_wp2_with fail
  clear hw2
  refine HOr.out.mono ?_
  rintro e w' ⟨rfl, rfl⟩
  go_wp2
  refine ⟨rfl, ?_⟩
  go_wp2
  go_ret
  exact ⟨rfl, HG2.out⟩
  all_goals exact undef

theorem ltHd_eq (x y : Hd) : ltOf cmpH x y = ltH x y := by
  unfold ltOf
  cases h : ltH x y with
  | true => exact decide_eq_true ((cmpH_lt x y).2 h)
  | false => exact decide_eq_false (fun e => by rw [(cmpH_lt x y).1 e] at h; cases h)
theorem swoHd {α : Type} (f : α → Hd) : SWO (ltOf fun x y : α => cmpH (f x) (f y)) where
  irrefl x := by show ltOf cmpH (f x) (f x) = _; rw [ltHd_eq]; exact ltH_irrefl _
  trans x y z h1 h2 := by
    have h1 : ltOf cmpH (f x) (f y) = true := h1
    have h2 : ltOf cmpH (f y) (f z) = true := h2
    show ltOf cmpH (f x) (f z) = true
    rw [ltHd_eq] at *
    exact ltH_trans h1 h2
  ntrans x y z h1 h2 := by
    have h1 : ltOf cmpH (f x) (f y) = false := h1
    have h2 : ltOf cmpH (f y) (f z) = false := h2
    show ltOf cmpH (f x) (f z) = false
    rw [ltHd_eq] at *
    cases h3 : ltH (f x) (f z) with
    | false => rfl
    | true =>
      cases h4 : ltH (f y) (f x) with
      | true => rw [ltH_trans h4 h3] at h2; cases h2
      | false =>
        have e := ltH_tri h1 h4
        rw [e] at h3; rw [h3] at h2; cases h2

def sortBondL_ren : Go.Shelf.Ren := ⟨fun | 6 => 88 | 15 => 115 | 14 => 134 | 28 => 154 | 29 => 155 | 20 => 162 | 21 => 163 | 22 => 164 | 23 => 165 | 24 => 166 | 25 => 167 | 26 => 168 | 27 => 169 | 46 => 178 | 47 => 174 | 48 => 175 | 49 => 179 | 50 => 180 | 57 => 183 | n => n, fun | 22 => 24 | 24 => 84 | 25 => 162 | 3 => 3 | 39 => 184 | 0 => 0 | 53 => 213 | 55 => 215 | 4 => 4 | 46 => 206 | 45 => 205 | 50 => 210 | 5 => 5 | 9 => 9 | 66 => 228 | 70 => 232 | 76 => 238 | 77 => 239 | n => n, fun | n => n⟩
theorem sortBondL : Go.Proofs.SlLaysF0.n6 Tryz.prog sortBondL_ren := {
  mixed := by kernel_rfl,
  f6 := ⟨Tryz.f88.name, by decide, Tryz.func88.trans (congrArg some (by kernel_rfl))⟩,
  f14 := ⟨Tryz.f134.name, by decide, Tryz.func134.trans (congrArg some (by kernel_rfl))⟩,
  f15 := Tryz.func115.trans (congrArg some (by kernel_rfl)),
  f20 := ⟨Tryz.f162.name, by decide, Tryz.func162.trans (congrArg some (by kernel_rfl))⟩,
  f21 := ⟨Tryz.f163.name, by decide, Tryz.func163.trans (congrArg some (by kernel_rfl))⟩,
  f22 := ⟨Tryz.f164.name, by decide, Tryz.func164.trans (congrArg some (by kernel_rfl))⟩,
  f23 := ⟨Tryz.f165.name, by decide, Tryz.func165.trans (congrArg some (by kernel_rfl))⟩,
  f24 := ⟨Tryz.f166.name, by decide, Tryz.func166.trans (congrArg some (by kernel_rfl))⟩,
  f25 := ⟨Tryz.f167.name, by decide, Tryz.func167.trans (congrArg some (by kernel_rfl))⟩,
  f26 := ⟨Tryz.f168.name, by decide, Tryz.func168.trans (congrArg some (by kernel_rfl))⟩,
  f27 := ⟨Tryz.f169.name, by decide, Tryz.func169.trans (congrArg some (by kernel_rfl))⟩,
  f28 := Tryz.func154.trans (congrArg some (by kernel_rfl)),
  f29 := Tryz.func155.trans (congrArg some (by kernel_rfl)),
  f46 := ⟨Tryz.f178.name, by decide, Tryz.func178.trans (congrArg some (by kernel_rfl))⟩,
  f47 := Tryz.func174.trans (congrArg some (by kernel_rfl)),
  f48 := Tryz.func175.trans (congrArg some (by kernel_rfl)),
  f49 := ⟨Tryz.f179.name, by decide, Tryz.func179.trans (congrArg some (by kernel_rfl))⟩,
  f50 := ⟨Tryz.f180.name, by decide, Tryz.func180.trans (congrArg some (by kernel_rfl))⟩,
  f57 := ⟨Tryz.f183.name, by decide, Tryz.func183.trans (congrArg some (by kernel_rfl))⟩,
  t0 := Tryz.underlying0,
  a0 := Tryz.isAgg0,
  z0 := Tryz.sizeOf0,
  v0 := Tryz.zeroValue0,
  t3 := Tryz.underlying3,
  a3 := Tryz.isAgg3,
  z3 := Tryz.sizeOf3,
  v3 := Tryz.zeroValue3,
  t4 := Tryz.underlying4,
  a4 := Tryz.isAgg4,
  z4 := Tryz.sizeOf4,
  v4 := Tryz.zeroValue4,
  t5 := Tryz.underlying5,
  a5 := Tryz.isAgg5,
  z5 := Tryz.sizeOf5,
  v5 := Tryz.zeroValue5,
  t9 := Tryz.underlying9,
  a9 := Tryz.isAgg9,
  z9 := Tryz.sizeOf9,
  v9 := Tryz.zeroValue9,
  t22 := Tryz.underlying24,
  a22 := Tryz.isAgg24,
  z22 := Tryz.sizeOf24,
  v22 := Tryz.zeroValue24,
  t25 := Tryz.underlying162,
  a25 := Tryz.isAgg162,
  z25 := Tryz.sizeOf162,
  v25 := Tryz.zeroValue162,
  t39 := Tryz.underlying184,
  a39 := Tryz.isAgg184,
  z39 := Tryz.sizeOf184,
  v39 := Tryz.zeroValue184,
  t45 := Tryz.underlying205,
  a45 := Tryz.isAgg205,
  z45 := Tryz.sizeOf205,
  v45 := Tryz.zeroValue205,
  t46 := Tryz.underlying206,
  a46 := Tryz.isAgg206,
  z46 := Tryz.sizeOf206,
  v46 := Tryz.zeroValue206,
  t50 := Tryz.underlying210,
  a50 := Tryz.isAgg210,
  z50 := Tryz.sizeOf210,
  v50 := Tryz.zeroValue210,
  t53 := Tryz.underlying213,
  a53 := Tryz.isAgg213,
  z53 := Tryz.sizeOf213,
  v53 := Tryz.zeroValue213,
  t55 := Tryz.underlying215,
  a55 := Tryz.isAgg215,
  z55 := Tryz.sizeOf215,
  v55 := Tryz.zeroValue215,
  t66 := Tryz.underlying228,
  a66 := Tryz.isAgg228,
  z66 := Tryz.sizeOf228,
  v66 := Tryz.zeroValue228,
  t70 := Tryz.underlying232,
  a70 := Tryz.isAgg232,
  z70 := Tryz.sizeOf232,
  v70 := Tryz.zeroValue232,
  t76 := Tryz.underlying238,
  a76 := Tryz.isAgg238,
  z76 := Tryz.sizeOf238,
  v76 := Tryz.zeroValue238,
  t77 := Tryz.underlying239,
  a77 := Tryz.isAgg239,
  z77 := Tryz.sizeOf239,
  v77 := Tryz.zeroValue239 }
def sortHandleL_ren : Go.Shelf.Ren := ⟨fun | 6 => 170 | 15 => 115 | 14 => 181 | 28 => 154 | 29 => 155 | 20 => 184 | 21 => 185 | 22 => 186 | 23 => 187 | 24 => 188 | 25 => 189 | 26 => 190 | 27 => 191 | 46 => 192 | 47 => 174 | 48 => 175 | 49 => 193 | 50 => 194 | 57 => 195 | n => n, fun | 22 => 55 | 24 => 41 | 25 => 161 | 3 => 3 | 39 => 184 | 0 => 0 | 53 => 213 | 55 => 215 | 4 => 4 | 46 => 206 | 45 => 205 | 50 => 210 | 5 => 5 | 9 => 9 | 66 => 228 | 70 => 232 | 76 => 238 | 77 => 239 | n => n, fun | n => n⟩
theorem sortHandleL : Go.Proofs.SlLaysF0.n6 Tryz.prog sortHandleL_ren := {
  mixed := by kernel_rfl,
  f6 := ⟨Tryz.f170.name, by decide, Tryz.func170.trans (congrArg some (by kernel_rfl))⟩,
  f14 := ⟨Tryz.f181.name, by decide, Tryz.func181.trans (congrArg some (by kernel_rfl))⟩,
  f15 := Tryz.func115.trans (congrArg some (by kernel_rfl)),
  f20 := ⟨Tryz.f184.name, by decide, Tryz.func184.trans (congrArg some (by kernel_rfl))⟩,
  f21 := ⟨Tryz.f185.name, by decide, Tryz.func185.trans (congrArg some (by kernel_rfl))⟩,
  f22 := ⟨Tryz.f186.name, by decide, Tryz.func186.trans (congrArg some (by kernel_rfl))⟩,
  f23 := ⟨Tryz.f187.name, by decide, Tryz.func187.trans (congrArg some (by kernel_rfl))⟩,
  f24 := ⟨Tryz.f188.name, by decide, Tryz.func188.trans (congrArg some (by kernel_rfl))⟩,
  f25 := ⟨Tryz.f189.name, by decide, Tryz.func189.trans (congrArg some (by kernel_rfl))⟩,
  f26 := ⟨Tryz.f190.name, by decide, Tryz.func190.trans (congrArg some (by kernel_rfl))⟩,
  f27 := ⟨Tryz.f191.name, by decide, Tryz.func191.trans (congrArg some (by kernel_rfl))⟩,
  f28 := Tryz.func154.trans (congrArg some (by kernel_rfl)),
  f29 := Tryz.func155.trans (congrArg some (by kernel_rfl)),
  f46 := ⟨Tryz.f192.name, by decide, Tryz.func192.trans (congrArg some (by kernel_rfl))⟩,
  f47 := Tryz.func174.trans (congrArg some (by kernel_rfl)),
  f48 := Tryz.func175.trans (congrArg some (by kernel_rfl)),
  f49 := ⟨Tryz.f193.name, by decide, Tryz.func193.trans (congrArg some (by kernel_rfl))⟩,
  f50 := ⟨Tryz.f194.name, by decide, Tryz.func194.trans (congrArg some (by kernel_rfl))⟩,
  f57 := ⟨Tryz.f195.name, by decide, Tryz.func195.trans (congrArg some (by kernel_rfl))⟩,
  t0 := Tryz.underlying0,
  a0 := Tryz.isAgg0,
  z0 := Tryz.sizeOf0,
  v0 := Tryz.zeroValue0,
  t3 := Tryz.underlying3,
  a3 := Tryz.isAgg3,
  z3 := Tryz.sizeOf3,
  v3 := Tryz.zeroValue3,
  t4 := Tryz.underlying4,
  a4 := Tryz.isAgg4,
  z4 := Tryz.sizeOf4,
  v4 := Tryz.zeroValue4,
  t5 := Tryz.underlying5,
  a5 := Tryz.isAgg5,
  z5 := Tryz.sizeOf5,
  v5 := Tryz.zeroValue5,
  t9 := Tryz.underlying9,
  a9 := Tryz.isAgg9,
  z9 := Tryz.sizeOf9,
  v9 := Tryz.zeroValue9,
  t22 := Tryz.underlying55,
  a22 := Tryz.isAgg55,
  z22 := Tryz.sizeOf55,
  v22 := Tryz.zeroValue55,
  t25 := Tryz.underlying161,
  a25 := Tryz.isAgg161,
  z25 := Tryz.sizeOf161,
  v25 := Tryz.zeroValue161,
  t39 := Tryz.underlying184,
  a39 := Tryz.isAgg184,
  z39 := Tryz.sizeOf184,
  v39 := Tryz.zeroValue184,
  t45 := Tryz.underlying205,
  a45 := Tryz.isAgg205,
  z45 := Tryz.sizeOf205,
  v45 := Tryz.zeroValue205,
  t46 := Tryz.underlying206,
  a46 := Tryz.isAgg206,
  z46 := Tryz.sizeOf206,
  v46 := Tryz.zeroValue206,
  t50 := Tryz.underlying210,
  a50 := Tryz.isAgg210,
  z50 := Tryz.sizeOf210,
  v50 := Tryz.zeroValue210,
  t53 := Tryz.underlying213,
  a53 := Tryz.isAgg213,
  z53 := Tryz.sizeOf213,
  v53 := Tryz.zeroValue213,
  t55 := Tryz.underlying215,
  a55 := Tryz.isAgg215,
  z55 := Tryz.sizeOf215,
  v55 := Tryz.zeroValue215,
  t66 := Tryz.underlying228,
  a66 := Tryz.isAgg228,
  z66 := Tryz.sizeOf228,
  v66 := Tryz.zeroValue228,
  t70 := Tryz.underlying232,
  a70 := Tryz.isAgg232,
  z70 := Tryz.sizeOf232,
  v70 := Tryz.zeroValue232,
  t76 := Tryz.underlying238,
  a76 := Tryz.isAgg238,
  z76 := Tryz.sizeOf238,
  v76 := Tryz.zeroValue238,
  t77 := Tryz.underlying239,
  a77 := Tryz.isAgg239,
  z77 := Tryz.sizeOf239,
  v77 := Tryz.zeroValue239 }

theorem cmpHd_sort (x y : Hd) (W : World) : Calls Tryz.prog 90 #[.agg (handleC x).toArray, .agg (handleC y).toArray] W fun e w' => e = .returned (.int .i64 (cmpH x y)) ∧ ∃ q os, w' = grow (W.drewN q) os :=
  cmpHd_any x.1 x.2 y.1 y.2 W
set_option maxRecDepth 20000 in
set_option maxHeartbeats 2000000 in
theorem cmpBd_sort (x y : Bd) (W : World) : Calls Tryz.prog 89 #[.agg (bdC x).toArray, .agg (bdC y).toArray] W (CmpPost (cmpH x.1 y.1) W) := by
  obtain ⟨⟨s, g⟩, ⟨s1, g1⟩⟩ := x
  obtain ⟨⟨t, u⟩, ⟨t1, u1⟩⟩ := y
  show Calls Tryz.prog 89 #[.agg #[.int .i64 s, .int .i64 g, .int .i64 s1, .int .i64 g1], .agg #[.int .i64 t, .int .i64 u, .int .i64 t1, .int .i64 u1]] W (CmpPost (cmpH (s, g) (t, u)) W)
  have HC := Lib.hid (cmpHd_any s g t u)
  go_enter Tryz.func89, Tryz.ntmps89
  go_wp2_with fail
  refine (HC.out _).mono ?_
  rintro e w' ⟨rfl, hG⟩
  have HG := Lib.hid ((((Grown.refl W).alloc _).alloc _).trans hG)
  clear hG
  go_wp2
  go_ret
  exact ⟨rfl, HG.out⟩
theorem sortBonds_any {w : World} {B : Nat} {v : Value} {l : List Bd} (hown : w.ownsRow B 84 4 v l.length (l.flatMap bdC)) (hl : l.length ≤ 1200000000000) :
    Calls Tryz.prog 88 #[v, .func (.func 89) #[] #[]] w (SortedRow bdC 4 B 84 (ltOf fun x y : Bd => cmpH x.1 y.1) l v w) :=
  sort_own sortBondL Tryz.isAgg84 Tryz.sizeOf84 bdC_len bdC_one _ (swoHd (fun x : Bd => x.1)) 89 (enters_of Tryz.func89 (by kernel_rfl) rfl) cmpBd_sort hown (by omega)
theorem sortHandles_any {w : World} {B : Nat} {v : Value} {l : List Hd} (hown : w.ownsRow B 41 2 v l.length (l.flatMap handleC)) (hl : l.length ≤ 1200000000000) :
    Calls Tryz.prog 170 #[v, .func (.func 90) #[] #[]] w (SortedRow handleC 2 B 41 (ltOf fun x y : Hd => cmpH x y) l v w) :=
  sort_own sortHandleL Tryz.isAgg41 Tryz.sizeOf41 (fun _ => rfl) handleC_one _ (swoHd (fun x : Hd => x)) 90 (enters_of Tryz.func90 (by kernel_rfl) rfl) cmpHd_sort hown (by omega)
end Go.Proofs.YtehjfmjibiafdaaGreat
