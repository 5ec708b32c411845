import Derived.Test.YtkcpmoinpdojjaaFamilyTellsJ28
import Derived.Shelf.SlSortCmp.QuietGrown
import Derived.Test.YtkcpmoinpdojjaaFamilyTellsJ10
import Derived.RangeFuncNested
import Derived.RangeFuncBound
import Derived.RangeFuncCalls
import Derived.Test.YtkcpmoinpdojjaaFamilyTellsJ3
/- The order of handles: Compare; bonds and handles sorted. -/
namespace Go.Proofs.Ytkcpmoinpdojjaa
open Go Go.RowKit Go.Shelf Go.Sort
attribute [local go_sem] AllFrom.cons_eq AllFrom.nil_eq putF_nil putF_cons wantedL_none wantedL_some OpGoalT OpGoalV OpGoalQ OpGoalA OpGoalK YieldsR preF_nil preF_cons

/-- V is W with blocks behind it, and draws. -/
def Grown (W V : World) : Prop := ∃ q os, V = grow (W.drewN q) os
theorem Grown.refl (W : World) : Grown W W := ⟨0, #[], by rw [grow_empty]; rfl⟩
theorem Grown.alloc {W V : World} (h : Grown W V) (o : Obj) : Grown W (V.alloc o) := by
  obtain ⟨q, os, rfl⟩ := h
  exact ⟨q, os ++ #[o], by rw [alloc_eq_grow, grow_grow]⟩
theorem Grown.drew {W V : World} (h : Grown W V) : Grown W V.drew := by
  obtain ⟨q, os, rfl⟩ := h
  exact ⟨q + 1, os, rfl⟩
theorem Grown.trans {W V U : World} (h : Grown W V) (k : Grown V U) : Grown W U := by
  obtain ⟨q, os, rfl⟩ := h
  obtain ⟨q', os', rfl⟩ := k
  exact ⟨q + q', os ++ os', by simp [grow, World.drewN, Array.append_assoc, Nat.add_assoc]⟩

def cmpH (a b : Hd) : Int := if Lib.compareInt a.1 b.1 ≠ 0 then Lib.compareInt a.1 b.1 else Lib.compareInt a.2 b.2
theorem cmpH_lt (a b : Hd) : cmpH a b < 0 ↔ ltH a b = true := by
  rw [ltH_iff]
  unfold cmpH Lib.compareInt
  repeat' split
  all_goals omega

set_option maxRecDepth 20000 in
theorem compareI_any (x y : Int) (w : World) : Calls Try.prog 122 #[.int .i64 x, .int .i64 y] w fun e w' => e = .returned (.int .i64 (Lib.compareInt x y)) ∧ w = w' := by
  unfold Lib.compareInt
  by_cases h1 : x < y
  · rw [if_pos h1]
    go_enter Try.func122, Try.ntmps122
    go_wp2
    go_ret
    exact ⟨rfl, rfl⟩
  · rw [if_neg h1]
    by_cases h2 : y < x
    · rw [if_pos h2]
      go_enter Try.func122, Try.ntmps122
      go_wp2
      go_ret
      exact ⟨rfl, rfl⟩
    · rw [if_neg h2]
      go_enter Try.func122, Try.ntmps122
      go_wp2
      go_ret
      exact ⟨rfl, rfl⟩
def orI (x y : Int) : Int := if x ≠ 0 then x else y
set_option maxRecDepth 20000 in
theorem or_any (b : Nat) (x y : Int) (w : World) (h0 : w.cell? ⟨b, 0, none⟩ = some (.int .i64 x)) (h1 : w.cell? ⟨b, 1, none⟩ = some (.int .i64 y)) (hb : b < w.heap.size) :
    Calls Try.prog 148 #[.slice (some ⟨b, 0, none⟩) 2 2] w fun e w' => e = .returned (.int .i64 (orI x y)) ∧ w = w' := by
  have h1' : x ≠ 0 → orI x y = x := fun h => by unfold orI; rw [if_pos h]
  have h2' : x = 0 → orI x y = y := fun h => by unfold orI; rw [if_neg (by simpa using h)]
  have H1 := Lib.hid h1'; have H2 := Lib.hid h2'
  clear h1' h2'
  generalize orI x y = r at *
  go_enter Try.func148, Try.ntmps148
  go_wp2_with fail
  go_loopw [8] (fun i wr => ∃ k : Nat, i = .int .i64 k ∧ k ≤ 2 ∧ (k ≠ 0 → x = 0) ∧ (k = 2 → y = 0) ∧ wr = w) (fun i _ => 2 - (intOf i).toNat)
  case atStart => exact ⟨0, rfl, by omega, by simp, by simp, rfl⟩
  case round =>
    obtain ⟨k, rfl, hk, hx, hy, rfl⟩ := hrel
    have h3 : k = 0 ∨ k = 1 ∨ k = 2 := by omega
    rcases h3 with rfl | rfl | rfl
    · clear hx hy hk
      by_cases hx0 : x = 0
      · go_wp2
        go_roundw
        case rel => exact ⟨1, rfl, by omega, fun _ => hx0, fun h => by omega, by first | rfl | trivial⟩
        case measure => simp [intOf]
      · obtain rfl : r = x := H1.out hx0
        clear H1 H2
        go_wp2
        go_ret
        exact ⟨rfl, by first | rfl | trivial⟩
    · have hx0 := hx (by omega)
      clear hx hy hk
      by_cases hy0 : y = 0
      · go_wp2
        go_roundw
        case rel => exact ⟨2, rfl, by omega, fun _ => hx0, fun _ => hy0, by first | rfl | trivial⟩
        case measure => simp [intOf]
      · obtain rfl : r = y := H2.out hx0
        clear H1 H2
        go_wp2
        go_ret
        exact ⟨rfl, by first | rfl | trivial⟩
    · have hx0 := hx (by omega)
      have hy0 := hy rfl
      obtain rfl : r = 0 := (H2.out hx0).trans hy0
      clear hx hy hk H1 H2
      go_wp2
      go_ret
      exact ⟨rfl, by first | rfl | trivial⟩

def CmpPost (r : Int) (w : World) (e : Ending) (w' : World) : Prop := e = .returned (.int .i64 r) ∧ Grown w w'
set_option maxRecDepth 20000 in
set_option maxHeartbeats 2000000 in
theorem cmpHd_any (s g t u : Int) (w : World) : Calls Try.prog 98 #[.agg #[.int .i64 s, .int .i64 g], .agg #[.int .i64 t, .int .i64 u]] w (CmpPost (cmpH (s, g) (t, u)) w) := by
  obtain ⟨w0, hw0, hb0, hz0, hs0⟩ := box1 w (.cells #[.int .i64 s, .int .i64 g] 45)
  obtain ⟨w1, hw1, hb1, hz1, hs1⟩ := box1 w0 (.cells #[.int .i64 t, .int .i64 u] 45)
  have hz01 := (Mod.ofBelow hb1).keep hz0 (by simp)
  have hG : Grown w w1 := by rw [← hw1, ← hw0]; exact ((Grown.refl w).alloc _).alloc _
  have hc1 := compareI_any s t
  have hc2 := compareI_any g u
  have hfin : cmpH (s, g) (t, u) = orI (Lib.compareInt s t) (Lib.compareInt g u) := rfl
  rw [hfin]
  generalize Lib.compareInt s t = c1 at *
  generalize Lib.compareInt g u = c2 at *
  have q0 := blk_cell hz01 0
  have q1 := blk_cell hz01 1
  simp only [List.getElem?_toArray, List.getElem?_cons_zero, List.getElem?_cons_succ] at q0 q1
  have ql := blk_lt hz01
  have u0 := blk_cell hz1 0
  have u1 := blk_cell hz1 1
  simp only [List.getElem?_toArray, List.getElem?_cons_zero, List.getElem?_cons_succ] at u0 u1
  have ul := blk_lt hz1
  have HC1 := Lib.hid hc1; have HC2 := Lib.hid hc2; have HG := Lib.hid hG
  clear hc1 hc2 hG
  clear hz0 hz01 hz1 hb0 hb1 hs0 hs1 hfin
  go_enter Try.func98, Try.ntmps98
  go_wp2_with fail
  clear hw0 hw1
  refine wp_planR 10 [] [some 5, some 6, some 7, some 8, some 9, some 10, some 11, some 12, some 13, some 14, some 15, some 16, some 4] [[], [0], [], [2], [0, 1, 2, 3], [], [5], [], [7], [0, 1, 2, 3, 4, 5, 6, 7, 8], [0, 1, 2, 3, 4, 5, 6, 7, 8, 9], [0, 1, 2, 3, 4, 5, 6, 7, 8, 9, 10], [0, 1, 2, 3, 4, 5, 6, 7, 8, 9, 10, 11]] [0, 1, 2, 3, 4, 5, 6, 7, 8, 9] mixed rfl (by kernel_rfl) (by decide) (by decide) rfl ?_
  iterate 10 apply Exists.intro
  refine ⟨rfl, ?_, ?_⟩
  · simp only [List.take_succ_cons, List.take_zero, AllFrom.cons_eq, AllFrom.nil_eq, OpGoalQ]
    refine ⟨?_, ?_, ?_, ?_, ?_, ?_, ?_, ?_, ?_, ?_, trivial⟩
    all_goals (intro σ hp; (try simp only [List.getD_cons_zero, List.getD_cons_succ, List.map_cons, List.map_nil, preF_cons, preF_nil, isV, and_true] at hp); (first | (have hq : True := hp; clear hq hp) | skip))
    · (go_simp; exact ⟨rfl, rfl⟩)
    · (go_simp; exact ⟨rfl, rfl⟩)
    · (go_simp; exact ⟨rfl, rfl⟩)
    · (go_simp; exact ⟨rfl, rfl⟩)
    · (go_simp; refine (HC1.out _).mono ?_; rintro e w' ⟨rfl, rfl⟩; exact ⟨_, rfl, rfl, rfl⟩)
    · (go_simp; exact ⟨rfl, rfl⟩)
    · (go_simp; exact ⟨rfl, rfl⟩)
    · (go_simp; exact ⟨rfl, rfl⟩)
    · (go_simp; exact ⟨rfl, rfl⟩)
    · (go_simp; refine (HC2.out _).mono ?_; rintro e w' ⟨rfl, rfl⟩; exact ⟨_, rfl, rfl, rfl⟩)
  intro σ hp
  simp only [List.getD_cons_zero, List.getD_cons_succ, List.map_cons, List.map_nil, preF_cons, preF_nil, isV, and_true] at hp
  simp only [List.drop_succ_cons, List.drop_zero]
  go_simp
  clear hp
  obtain ⟨w2, hw2, -, hz2, -⟩ := box1 w1.drew (.cells #[.int .i64 c1, .int .i64 c2] 3)
  have hG2 : Grown w w2 := by rw [← hw2]; exact (HG.out.drew).alloc _
  have e0 := blk_cell hz2 0
  have e1 := blk_cell hz2 1
  simp only [List.getElem?_toArray, List.getElem?_cons_zero, List.getElem?_cons_succ] at e0 e1
  have HOr := Lib.hid (or_any _ c1 c2 w2 e0 e1 (blk_lt hz2))
  have HG2 := Lib.hid hG2
  clear hG2
  clear e0 e1 hz2
  go_wp2_with fail
  clear hw2
  refine HOr.out.mono ?_
  rintro e w' ⟨rfl, rfl⟩
  go_wp2
  refine ⟨rfl, ?_⟩
  go_wp2
  go_ret
  exact ⟨rfl, HG2.out⟩
  all_goals exact undef

theorem ltHd_eq (x y : Hd) : ltOf cmpH x y = ltH x y := by
  unfold ltOf
  cases h : ltH x y with
  | true => exact decide_eq_true ((cmpH_lt x y).2 h)
  | false => exact decide_eq_false (fun e => by rw [(cmpH_lt x y).1 e] at h; cases h)
theorem swoHd {α : Type} (f : α → Hd) : SWO (ltOf fun x y : α => cmpH (f x) (f y)) where
  irrefl x := by show ltOf cmpH (f x) (f x) = _; rw [ltHd_eq]; exact ltH_irrefl _
  trans x y z h1 h2 := by
    have h1 : ltOf cmpH (f x) (f y) = true := h1
    have h2 : ltOf cmpH (f y) (f z) = true := h2
    show ltOf cmpH (f x) (f z) = true
    rw [ltHd_eq] at *
    exact ltH_trans h1 h2
  ntrans x y z h1 h2 := by
    have h1 : ltOf cmpH (f x) (f y) = false := h1
    have h2 : ltOf cmpH (f y) (f z) = false := h2
    show ltOf cmpH (f x) (f z) = false
    rw [ltHd_eq] at *
    cases h3 : ltH (f x) (f z) with
    | false => rfl
    | true =>
      cases h4 : ltH (f y) (f x) with
      | true => rw [ltH_trans h4 h3] at h2; cases h2
      | false =>
        have e := ltH_tri h1 h4
        rw [e] at h3; rw [h3] at h2; cases h2

def sortBondL_ren : Go.Shelf.Ren := ⟨fun | 6 => 96 | 15 => 147 | 14 => 146 | 28 => 176 | 29 => 177 | 20 => 168 | 21 => 169 | 22 => 170 | 23 => 171 | 24 => 172 | 25 => 173 | 26 => 174 | 27 => 175 | 46 => 198 | 47 => 199 | 48 => 200 | 49 => 201 | 50 => 202 | 57 => 209 | n => n, fun | 22 => 70 | 24 => 90 | 25 => 159 | 3 => 3 | 39 => 203 | 0 => 0 | 53 => 227 | 55 => 215 | 4 => 4 | 46 => 220 | 45 => 219 | 50 => 224 | 5 => 5 | 9 => 9 | 66 => 242 | 70 => 246 | 76 => 252 | 77 => 253 | n => n, fun | n => n⟩
theorem sortBondL : Go.Proofs.SlLaysF0.n6 Try.prog sortBondL_ren := {
  mixed := by kernel_rfl,
  f6 := ⟨Try.f96.name, by decide, Try.func96.trans (congrArg some (by kernel_rfl))⟩,
  f14 := ⟨Try.f146.name, by decide, Try.func146.trans (congrArg some (by kernel_rfl))⟩,
  f15 := Try.func147.trans (congrArg some (by kernel_rfl)),
  f20 := ⟨Try.f168.name, by decide, Try.func168.trans (congrArg some (by kernel_rfl))⟩,
  f21 := ⟨Try.f169.name, by decide, Try.func169.trans (congrArg some (by kernel_rfl))⟩,
  f22 := ⟨Try.f170.name, by decide, Try.func170.trans (congrArg some (by kernel_rfl))⟩,
  f23 := ⟨Try.f171.name, by decide, Try.func171.trans (congrArg some (by kernel_rfl))⟩,
  f24 := ⟨Try.f172.name, by decide, Try.func172.trans (congrArg some (by kernel_rfl))⟩,
  f25 := ⟨Try.f173.name, by decide, Try.func173.trans (congrArg some (by kernel_rfl))⟩,
  f26 := ⟨Try.f174.name, by decide, Try.func174.trans (congrArg some (by kernel_rfl))⟩,
  f27 := ⟨Try.f175.name, by decide, Try.func175.trans (congrArg some (by kernel_rfl))⟩,
  f28 := Try.func176.trans (congrArg some (by kernel_rfl)),
  f29 := Try.func177.trans (congrArg some (by kernel_rfl)),
  f46 := ⟨Try.f198.name, by decide, Try.func198.trans (congrArg some (by kernel_rfl))⟩,
  f47 := Try.func199.trans (congrArg some (by kernel_rfl)),
  f48 := Try.func200.trans (congrArg some (by kernel_rfl)),
  f49 := ⟨Try.f201.name, by decide, Try.func201.trans (congrArg some (by kernel_rfl))⟩,
  f50 := ⟨Try.f202.name, by decide, Try.func202.trans (congrArg some (by kernel_rfl))⟩,
  f57 := ⟨Try.f209.name, by decide, Try.func209.trans (congrArg some (by kernel_rfl))⟩,
  t0 := Try.underlying0,
  a0 := Try.isAgg0,
  z0 := Try.sizeOf0,
  v0 := Try.zeroValue0,
  t3 := Try.underlying3,
  a3 := Try.isAgg3,
  z3 := Try.sizeOf3,
  v3 := Try.zeroValue3,
  t4 := Try.underlying4,
  a4 := Try.isAgg4,
  z4 := Try.sizeOf4,
  v4 := Try.zeroValue4,
  t5 := Try.underlying5,
  a5 := Try.isAgg5,
  z5 := Try.sizeOf5,
  v5 := Try.zeroValue5,
  t9 := Try.underlying9,
  a9 := Try.isAgg9,
  z9 := Try.sizeOf9,
  v9 := Try.zeroValue9,
  t22 := Try.underlying70,
  a22 := Try.isAgg70,
  z22 := Try.sizeOf70,
  v22 := Try.zeroValue70,
  t25 := Try.underlying159,
  a25 := Try.isAgg159,
  z25 := Try.sizeOf159,
  v25 := Try.zeroValue159,
  t39 := Try.underlying203,
  a39 := Try.isAgg203,
  z39 := Try.sizeOf203,
  v39 := Try.zeroValue203,
  t45 := Try.underlying219,
  a45 := Try.isAgg219,
  z45 := Try.sizeOf219,
  v45 := Try.zeroValue219,
  t46 := Try.underlying220,
  a46 := Try.isAgg220,
  z46 := Try.sizeOf220,
  v46 := Try.zeroValue220,
  t50 := Try.underlying224,
  a50 := Try.isAgg224,
  z50 := Try.sizeOf224,
  v50 := Try.zeroValue224,
  t53 := Try.underlying227,
  a53 := Try.isAgg227,
  z53 := Try.sizeOf227,
  v53 := Try.zeroValue227,
  t55 := Try.underlying215,
  a55 := Try.isAgg215,
  z55 := Try.sizeOf215,
  v55 := Try.zeroValue215,
  t66 := Try.underlying242,
  a66 := Try.isAgg242,
  z66 := Try.sizeOf242,
  v66 := Try.zeroValue242,
  t70 := Try.underlying246,
  a70 := Try.isAgg246,
  z70 := Try.sizeOf246,
  v70 := Try.zeroValue246,
  t76 := Try.underlying252,
  a76 := Try.isAgg252,
  z76 := Try.sizeOf252,
  v76 := Try.zeroValue252,
  t77 := Try.underlying253,
  a77 := Try.isAgg253,
  z77 := Try.sizeOf253,
  v77 := Try.zeroValue253 }
def sortHandleL_ren : Go.Shelf.Ren := ⟨fun | 6 => 100 | 15 => 147 | 14 => 150 | 28 => 176 | 29 => 177 | 20 => 178 | 21 => 179 | 22 => 180 | 23 => 181 | 24 => 182 | 25 => 183 | 26 => 184 | 27 => 185 | 46 => 203 | 47 => 199 | 48 => 200 | 49 => 204 | 50 => 205 | 57 => 210 | n => n, fun | 22 => 59 | 24 => 45 | 25 => 158 | 3 => 3 | 39 => 203 | 0 => 0 | 53 => 227 | 55 => 215 | 4 => 4 | 46 => 220 | 45 => 219 | 50 => 224 | 5 => 5 | 9 => 9 | 66 => 242 | 70 => 246 | 76 => 252 | 77 => 253 | n => n, fun | n => n⟩
theorem sortHandleL : Go.Proofs.SlLaysF0.n6 Try.prog sortHandleL_ren := {
  mixed := by kernel_rfl,
  f6 := ⟨Try.f100.name, by decide, Try.func100.trans (congrArg some (by kernel_rfl))⟩,
  f14 := ⟨Try.f150.name, by decide, Try.func150.trans (congrArg some (by kernel_rfl))⟩,
  f15 := Try.func147.trans (congrArg some (by kernel_rfl)),
  f20 := ⟨Try.f178.name, by decide, Try.func178.trans (congrArg some (by kernel_rfl))⟩,
  f21 := ⟨Try.f179.name, by decide, Try.func179.trans (congrArg some (by kernel_rfl))⟩,
  f22 := ⟨Try.f180.name, by decide, Try.func180.trans (congrArg some (by kernel_rfl))⟩,
  f23 := ⟨Try.f181.name, by decide, Try.func181.trans (congrArg some (by kernel_rfl))⟩,
  f24 := ⟨Try.f182.name, by decide, Try.func182.trans (congrArg some (by kernel_rfl))⟩,
  f25 := ⟨Try.f183.name, by decide, Try.func183.trans (congrArg some (by kernel_rfl))⟩,
  f26 := ⟨Try.f184.name, by decide, Try.func184.trans (congrArg some (by kernel_rfl))⟩,
  f27 := ⟨Try.f185.name, by decide, Try.func185.trans (congrArg some (by kernel_rfl))⟩,
  f28 := Try.func176.trans (congrArg some (by kernel_rfl)),
  f29 := Try.func177.trans (congrArg some (by kernel_rfl)),
  f46 := ⟨Try.f203.name, by decide, Try.func203.trans (congrArg some (by kernel_rfl))⟩,
  f47 := Try.func199.trans (congrArg some (by kernel_rfl)),
  f48 := Try.func200.trans (congrArg some (by kernel_rfl)),
  f49 := ⟨Try.f204.name, by decide, Try.func204.trans (congrArg some (by kernel_rfl))⟩,
  f50 := ⟨Try.f205.name, by decide, Try.func205.trans (congrArg some (by kernel_rfl))⟩,
  f57 := ⟨Try.f210.name, by decide, Try.func210.trans (congrArg some (by kernel_rfl))⟩,
  t0 := Try.underlying0,
  a0 := Try.isAgg0,
  z0 := Try.sizeOf0,
  v0 := Try.zeroValue0,
  t3 := Try.underlying3,
  a3 := Try.isAgg3,
  z3 := Try.sizeOf3,
  v3 := Try.zeroValue3,
  t4 := Try.underlying4,
  a4 := Try.isAgg4,
  z4 := Try.sizeOf4,
  v4 := Try.zeroValue4,
  t5 := Try.underlying5,
  a5 := Try.isAgg5,
  z5 := Try.sizeOf5,
  v5 := Try.zeroValue5,
  t9 := Try.underlying9,
  a9 := Try.isAgg9,
  z9 := Try.sizeOf9,
  v9 := Try.zeroValue9,
  t22 := Try.underlying59,
  a22 := Try.isAgg59,
  z22 := Try.sizeOf59,
  v22 := Try.zeroValue59,
  t25 := Try.underlying158,
  a25 := Try.isAgg158,
  z25 := Try.sizeOf158,
  v25 := Try.zeroValue158,
  t39 := Try.underlying203,
  a39 := Try.isAgg203,
  z39 := Try.sizeOf203,
  v39 := Try.zeroValue203,
  t45 := Try.underlying219,
  a45 := Try.isAgg219,
  z45 := Try.sizeOf219,
  v45 := Try.zeroValue219,
  t46 := Try.underlying220,
  a46 := Try.isAgg220,
  z46 := Try.sizeOf220,
  v46 := Try.zeroValue220,
  t50 := Try.underlying224,
  a50 := Try.isAgg224,
  z50 := Try.sizeOf224,
  v50 := Try.zeroValue224,
  t53 := Try.underlying227,
  a53 := Try.isAgg227,
  z53 := Try.sizeOf227,
  v53 := Try.zeroValue227,
  t55 := Try.underlying215,
  a55 := Try.isAgg215,
  z55 := Try.sizeOf215,
  v55 := Try.zeroValue215,
  t66 := Try.underlying242,
  a66 := Try.isAgg242,
  z66 := Try.sizeOf242,
  v66 := Try.zeroValue242,
  t70 := Try.underlying246,
  a70 := Try.isAgg246,
  z70 := Try.sizeOf246,
  v70 := Try.zeroValue246,
  t76 := Try.underlying252,
  a76 := Try.isAgg252,
  z76 := Try.sizeOf252,
  v76 := Try.zeroValue252,
  t77 := Try.underlying253,
  a77 := Try.isAgg253,
  z77 := Try.sizeOf253,
  v77 := Try.zeroValue253 }

theorem cmpHd_sort (x y : Hd) (W : World) : Calls Try.prog 98 #[.agg (handleC x).toArray, .agg (handleC y).toArray] W fun e w' => e = .returned (.int .i64 (cmpH x y)) ∧ ∃ q os, w' = grow (W.drewN q) os :=
  cmpHd_any x.1 x.2 y.1 y.2 W
set_option maxRecDepth 20000 in
set_option maxHeartbeats 2000000 in
theorem cmpBd_sort (x y : Bd) (W : World) : Calls Try.prog 97 #[.agg (bdC x).toArray, .agg (bdC y).toArray] W (CmpPost (cmpH x.1 y.1) W) := by
  obtain ⟨⟨s, g⟩, ⟨s1, g1⟩⟩ := x
  obtain ⟨⟨t, u⟩, ⟨t1, u1⟩⟩ := y
  show Calls Try.prog 97 #[.agg #[.int .i64 s, .int .i64 g, .int .i64 s1, .int .i64 g1], .agg #[.int .i64 t, .int .i64 u, .int .i64 t1, .int .i64 u1]] W (CmpPost (cmpH (s, g) (t, u)) W)
  have HC := Lib.hid (cmpHd_any s g t u)
  go_enter Try.func97, Try.ntmps97
  go_wp2_with fail
  refine (HC.out _).mono ?_
  rintro e w' ⟨rfl, hG⟩
  have HG := Lib.hid ((((Grown.refl W).alloc _).alloc _).trans hG)
  clear hG
  go_wp2
  go_ret
  exact ⟨rfl, HG.out⟩
theorem sortBonds_any {w : World} {B : Nat} {v : Value} {l : List Bd} (hown : w.ownsRow B 90 4 v l.length (l.flatMap bdC)) (hl : l.length ≤ 1200000000000) :
    Calls Try.prog 96 #[v, .func (.func 97) #[] #[]] w (SortedRow bdC 4 B 90 (ltOf fun x y : Bd => cmpH x.1 y.1) l v w) :=
  sort_own sortBondL Try.isAgg90 Try.sizeOf90 bdC_len bdC_one _ (swoHd (fun x : Bd => x.1)) 97 (enters_of Try.func97 (by kernel_rfl) rfl) cmpBd_sort hown (by omega)
theorem sortHandles_any {w : World} {B : Nat} {v : Value} {l : List Hd} (hown : w.ownsRow B 45 2 v l.length (l.flatMap handleC)) (hl : l.length ≤ 1200000000000) :
    Calls Try.prog 100 #[v, .func (.func 98) #[] #[]] w (SortedRow handleC 2 B 45 (ltOf fun x y : Hd => cmpH x y) l v w) :=
  sort_own sortHandleL Try.isAgg45 Try.sizeOf45 (fun _ => rfl) handleC_one _ (swoHd (fun x : Hd => x)) 98 (enters_of Try.func98 (by kernel_rfl) rfl) cmpHd_sort hown (by omega)
end Go.Proofs.Ytkcpmoinpdojjaa

/- Families: Gone, Bonds. -/
namespace Go.Proofs.Ytkcpmoinpdojjaa
open Go Go.RowKit Go.Maps
attribute [local go_sem] AllFrom.cons_eq AllFrom.nil_eq putF_nil putF_cons wantedL_none wantedL_some OpGoalT OpGoalV OpGoalQ OpGoalA OpGoalK YieldsR preF_nil preF_cons

def ofH (h : Hd) (b : Bd) : Bool := eqB b.1 h || eqB b.2 h
def BoolPost (r : Bool) (w : World) (e : Ending) (w' : World) : Prop := e = .returned (.bool r) ∧ Below w.heap.size w w'
set_option maxRecDepth 20000 in
set_option maxHeartbeats 2000000 in
theorem goneF_any (c0 c1 p0 p1 s g : Int) (hb : Nat) (w : World) (hh : w.heap[hb]? = some (.cells #[.int .i64 s, .int .i64 g] 45 (0, 0))) :
    Calls Try.prog 144 #[.agg #[.int .i64 c0, .int .i64 c1], .agg #[.int .i64 p0, .int .i64 p1], .pointer (some ⟨hb, 0, none⟩)] w (BoolPost (ofH (s, g) ((c0, c1), (p0, p1))) w) := by
  obtain ⟨w0, hw0, hb0, hz0, hs0⟩ := box1 w (.cells #[.int .i64 c0, .int .i64 c1] 45)
  obtain ⟨w1, hw1, hb1, hz1, hs1⟩ := box1 w0 (.cells #[.int .i64 p0, .int .i64 p1] 45)
  have hz01 := (Mod.ofBelow hb1).keep hz0 (by simp)
  have hB := hb0.trans (hb1.mono hb0.size)
  have hh1 := (Mod.ofBelow hB).keep hh (by simp)
  unfold ofH
  have hq1 := fun w => eqlHandle w c0 c1 s g
  have hq2 := fun w => eqlHandle w p0 p1 s g
  generalize eqB (c0, c1) (s, g) = r1 at *
  generalize eqB (p0, p1) (s, g) = r2 at *
  have q0 := blk_cell hz01 0
  have q1 := blk_cell hz01 1
  simp only [List.getElem?_toArray, List.getElem?_cons_zero, List.getElem?_cons_succ] at q0 q1
  have ql := blk_lt hz01
  have u0 := blk_cell hz1 0
  have u1 := blk_cell hz1 1
  simp only [List.getElem?_toArray, List.getElem?_cons_zero, List.getElem?_cons_succ] at u0 u1
  have ul := blk_lt hz1
  have v0 := blk_cell hh1 0
  have v1 := blk_cell hh1 1
  simp only [List.getElem?_toArray, List.getElem?_cons_zero, List.getElem?_cons_succ] at v0 v1
  have vl := blk_lt hh1
  have HB := Lib.hid hB
  clear hB
  clear hz0 hz01 hz1 hb0 hb1 hs0 hs1 hh hh1
  cases r1 with
  | true =>
    go_enter Try.func144, Try.ntmps144
    go_wp2
    go_ret
    exact ⟨rfl, HB.out⟩
  | false =>
    go_enter Try.func144, Try.ntmps144
    go_wp2
    go_ret
    exact ⟨rfl, HB.out⟩

theorem mid_perm {α : Type} (D t1 t2 : List α) (x : α) : (D ++ (t1 ++ x :: t2)).Perm (D ++ [x] ++ (t1 ++ t2)) := by
  rw [List.append_assoc]
  exact List.Perm.append_left D List.perm_middle
theorem del_step {l' Dk t1 t2 : List Bd} {x : Bd} (ha : l'.Pairwise (fun a b => a.1 ≠ b.1)) (hp : l'.Perm (Dk ++ (t1 ++ x :: t2))) :
    ∃ l1 l2, l' = l1 ++ x :: l2 ∧ (l1 ++ l2).Perm (Dk ++ (t1 ++ t2)) ∧ ∀ y ∈ t1 ++ t2, y.1 ≠ x.1 := by
  have hx : x ∈ l' := hp.mem_iff.2 (by simp)
  obtain ⟨l1, l2, rfl⟩ := List.append_of_mem hx
  have h1 : (x :: (l1 ++ l2)).Perm (x :: (Dk ++ (t1 ++ t2))) := (List.perm_middle.symm.trans hp).trans ((mid_perm Dk t1 t2 x).trans (by rw [List.append_assoc]; exact List.perm_middle))
  refine ⟨l1, l2, rfl, h1.cons_inv, fun y hy => ?_⟩
  have h2 := ((List.Perm.pairwise_iff (fun h => Ne.symm h) (List.perm_middle.trans h1)).1 ha)
  exact (List.pairwise_cons.1 h2).1 y (List.mem_append_right _ hy) |>.symm
def DelPost (m : Nat) (l : List Bd) (h : Hd) (w : World) (e : Ending) (w' : World) : Prop :=
  e = .returned (.tuple #[]) ∧ (∃ l' : List Bd, MapAt Try.prog 45 w' m (l'.map bdPr) ∧ l'.Perm (l.filter (fun b => !ofH h b))) ∧ Mod [m] w w'
set_option maxRecDepth 20000 in
set_option maxHeartbeats 4000000 in
theorem delF_any (m hb : Nat) (l : List Bd) (s g : Int) (w : World) (hm : MapAt Try.prog 45 w m (l.map bdPr)) (hr : ∀ b ∈ l, HdR b.1) (hh : w.heap[hb]? = some (.cells #[.int .i64 s, .int .i64 g] 45 (0, 0))) :
    Calls Try.prog 143 #[.map (some m), .func (.func 144) #[] #[.pointer (some ⟨hb, 0, none⟩)]] w (DelPost m l (s, g) w) := by
  obtain ⟨o, hrun, hR⟩ := hm.range Try.underlying154
  obtain ⟨w1, hw1, hb1, -, hs1⟩ := box1 w o
  rw [hw1] at hR
  have hh1 := (Mod.ofBelow hb1).keep hh (by simp)
  have hlt := hm.lt
  have hbm : hb ≠ m := by
    rintro rfl
    obtain ⟨es, c, h1, -⟩ := hm
    rw [h1] at hh; cases hh
  have hbl := blk_lt hh
  have hm01 : Mod [m] w w1 := (Mod.ofBelow hb1).mono (by simp)
  go_enter Try.func143, Try.ntmps143
  have HR := Lib.hid hR; have Hb1 := Lib.hid hb1; have Hs1 := Lib.hid hs1; have Hh1 := Lib.hid hh1; have HR1 := Lib.hid hr; have Hbm := Lib.hid hbm; have Hbl := Lib.hid hbl; have Hlt := Lib.hid hlt; have Hm01 := Lib.hid hm01
  clear hR hb1 hs1 hh1 hr hbm hbl hlt hm01
  clear hm hh
  go_wp2_with fail
  clear hrun hw1
  generalize hrr : w.heap.size = r at *
  go_loopw [9] (fun _ wr => ∃ (l' D ts : List Bd), RangeAt Try.prog 45 wr m r (l'.map bdPr) (ts.map bdPr) ∧ l'.Perm (D.filter (fun b => !ofH (s, g) b) ++ ts) ∧ (D ++ ts).Perm l ∧ Mod [m, r] w1 wr) (fun _ wr => wr.rangeLeft m r)
  case atStart => exact ⟨l, [], l, HR.out, .refl _, .refl _, Mod.refl _ _⟩
  case round =>
    obtain ⟨l', D, ts, hR, hp1, hp2, hmod⟩ := hrel
    by_cases hts : ts = []
    · subst hts
      have hov := fun ty => RangeAt.over (P := Try.prog) (by simpa using hR) ty
      simp only [List.append_nil] at hp1 hp2
      have hfin : DelPost m l (s, g) w (.returned (.tuple #[])) wr := by
        refine ⟨rfl, ⟨l', hR.map, hp1.trans (hp2.filter _)⟩, ?_⟩
        exact Hm01.out.trans hmod (fun x hx => by
          simp at hx
          rcases hx with rfl | rfl
          · simp
          · exact .inr (by omega))
      have Hfin := Lib.hid hfin
      clear hfin
      clear hR hp1 hp2 hmod
      go_wp2
      refine bodyPost_end (v := .tuple #[]) ?_ rfl Hfin.out
      unfold results; try go_simp
    · obtain ⟨t1, x, t2, w2, rfl, hn, hen, hx, hR2, hm2, hs2⟩ := hR.nextE hts
      have hmeas := hR.left_eq
      obtain ⟨⟨c0, c1⟩, p0, p1⟩ := x
      have hm12 : Mod [m, r] w1 w2 := hmod.step (hm2.mono (by simp))
      have hsz2 := hm12.size
      have hh2 := hm12.keep Hh1.out (by have := Hbm.out; have := Hbl.out; simp; omega)
      have hmm : ((c0, c1), (p0, p1)) ∈ l := hp2.mem_iff.1 (by simp)
      have hc := HR1.out _ hmm
      simp only [bdPr, hdV, handleC] at hn hen
      have HR := Lib.hid hR; have Hp1 := Lib.hid hp1; have Hp2 := Lib.hid hp2; have Hmod := Lib.hid hmod; have Hx := Lib.hid hx; have HR2 := Lib.hid hR2; have Hm2 := Lib.hid hm2; have Hs2 := Lib.hid hs2; have Hmeas := Lib.hid hmeas; have Hm12 := Lib.hid hm12; have Hsz2 := Lib.hid hsz2; have Hh2 := Lib.hid hh2; have Hmm := Lib.hid hmm; have Hc := Lib.hid hc
      clear hR hp1 hp2 hmod hx hR2 hm2 hs2 hmeas hm12 hsz2 hh2 hmm hc
      go_wp2_with fail
      have H2 := Lib.hid (goneF_any c0 c1 p0 p1 s g hb)
      obtain ⟨w3, hw3, hb3, hz3, hs3⟩ := box1 w2 (.cells #[.int .i64 c0, .int .i64 c1] 45)
      obtain ⟨w4, hw4, hb4, -, -⟩ := box1 w3 (.cells #[.int .i64 p0, .int .i64 p1] 45)
      rw [hw3, hw4]
      have hb24 : Below w2.heap.size w2 w4 := hb3.trans (hb4.mono hb3.size)
      have hz4 := (Mod.ofBelow hb4).keep hz3 (by simp)
      have hh4 := (Mod.ofBelow hb24).keep Hh2.out (by simp)
      refine (H2.out w4 hh4).mono ?_
      rintro e w5 ⟨rfl, hb5⟩
      have hb25 : Below w2.heap.size w2 w5 := hb24.trans (hb5.mono hb24.size)
      have hz5 := (Mod.ofBelow hb5).keep hz4 (by simp)
      have hR5 := HR2.out.mod (Mod.ofBelow hb25) (by simp) (by simp)
      have hm15 := Hm12.out.andBelow hb25
      clear hn hen hw3 hw4 hb3 hb4 hb24 hz3 hz4 hh4 hs3 hb5
      cases hof : ofH (s, g) ((c0, c1), (p0, p1)) with
      | false =>
        have HR5 := Lib.hid hR5; have Hm15 := Lib.hid hm15; have Hof := Lib.hid hof
        clear hR5 hm15 hof
        clear hz5
        go_wp2
        go_roundw
        case rel =>
          refine ⟨l', D ++ [((c0, c1), (p0, p1))], t1 ++ t2, HR5.out, ?_, (mid_perm D t1 t2 _).symm.trans Hp2.out, Hm15.out⟩
          rw [List.filter_append, show [((c0, c1), (p0, p1))].filter (fun b => !ofH (s, g) b) = [((c0, c1), (p0, p1))] by simp [Hof.out]]
          exact Hp1.out.trans (mid_perm _ t1 t2 _)
        case measure => rw [HR5.out.left_eq, Hmeas.out]; simp
      | true =>
        obtain ⟨l1, l2, hl', hpp, hne⟩ := del_step (mh_apart bdPr_keys hR5.map) Hp1.out
        obtain ⟨kl, hk⟩ := hd_key Hc.out
        rw [hl', List.map_append, List.map_cons] at hR5
        obtain ⟨w6, hrun, hR6, hm6, hs6⟩ := hR5.del (ty := 0) hd_keyed Try.underlying154 (key := hdV (c0, c1)) hk (fun e => by
          obtain ⟨y, hy, he⟩ := List.mem_map.1 e
          have h1 : hdV y.1 = hdV (c0, c1) := congrArg Prod.fst he
          exact hne y hy (hdV_inj h1))
        rw [← List.map_append] at hR6
        have hm16 := hm15.step (hm6.mono (by simp))
        simp only [hdV, handleC] at hrun
        have q0 := blk_cell hz5 0
        have q1 := blk_cell hz5 1
        simp only [List.getElem?_toArray, List.getElem?_cons_zero, List.getElem?_cons_succ] at q0 q1
        have ql := blk_lt hz5
        have HR6 := Lib.hid hR6; have Hm16 := Lib.hid hm16; have Hof := Lib.hid hof; have Hpp := Lib.hid hpp
        clear hR6 hm16 hof hpp
        clear hz5 hR5 hm15 hm6 hs6 hl' hne hk
        go_wp2
        go_roundw
        case rel =>
          refine ⟨l1 ++ l2, D ++ [((c0, c1), (p0, p1))], t1 ++ t2, HR6.out, ?_, (mid_perm D t1 t2 _).symm.trans Hp2.out, Hm16.out⟩
          rw [List.filter_append, show [((c0, c1), (p0, p1))].filter (fun b => !ofH (s, g) b) = [] by simp [Hof.out], List.append_nil]
          exact Hpp.out
        case measure => rw [HR6.out.left_eq, Hmeas.out]; simp

theorem goneB_eq (B : List Bd) (h : Hd) : goneB B h = B.filter (fun b => !ofH h b) := rfl
section
variable {w : World} {f : Nat} {B : List Bd} {F : List Nat}
set_option maxRecDepth 20000 in
set_option maxHeartbeats 2000000 in
theorem gone_any (h : RepF w f B F) (s g : Int) : Calls Try.prog 94 #[.pointer (some ⟨f, 0, none⟩), .agg #[.int .i64 s, .int .i64 g]] w (FRet (goneB B (s, g)) (.tuple #[]) f F w) := by
  obtain ⟨w0, hw0, hb0, hz0, hs0⟩ := box1 w (.cells #[.int .i64 s, .int .i64 g] 45)
  have h0 := h.below hb0
  obtain ⟨ho, hr, m, l, h1, h2, h3, hF, h5⟩ := h0
  have e0 := blk_cell h1 0
  simp only [List.getElem?_toArray, List.getElem?_cons_zero] at e0
  have hfl := blk_lt h1
  have H1 := Lib.hid (delF_any m w.heap.size l s g w0 h2 (fun b hb => (hr b (h3.mem_iff.1 hb)).1) hz0)
  have Hb0 := Lib.hid hb0; have Hz0 := Lib.hid hz0; have Ho := Lib.hid ho; have Hr := Lib.hid hr; have HB1 := Lib.hid h1; have H2 := Lib.hid h2; have H3 := Lib.hid h3; have HF := Lib.hid hF; have H5 := Lib.hid h5
  clear hb0 hz0 ho hr h1 h2 h3 hF h5
  clear h hs0
  go_enter Try.func94, Try.ntmps94
  go_wp2_with fail
  clear hw0
  refine H1.out.mono ?_
  rintro e w1 ⟨rfl, ⟨l', hm', hp'⟩, hmod⟩
  have hfin : FRet (goneB B (s, g)) (.tuple #[]) f F w (.returned (.tuple #[])) w1 := by
    refine ⟨rfl, ⟨Ho.out.sub List.filter_sublist, fun b hb => Hr.out b (List.mem_filter.1 hb).1, m, l', hmod.keep HB1.out (by simpa using H5.out), hm', ?_, HF.out, H5.out⟩, ?_⟩
    · rw [goneB_eq]; exact hp'.trans (H3.out.filter _)
    · exact ((Mod.ofBelow Hb0.out).mono (by simp) : Mod F w w0).step (hmod.mono (by rw [HF.out]; simp))
  have Hfin := Lib.hid hfin
  clear hfin
  clear hmod hm' hp'
  go_wp2
  refine bodyPost_end (v := .tuple #[]) ?_ rfl Hfin.out
  unfold results; try go_simp

theorem app_bond {w : World} {ops : Array Oper} {rest : List Oper} {o : Oper} {a : Act} {Q : Exit → Act → World → Prop} (hgd : o.guard = none) (s x : Operand)
    (ho : o.op = .call { callee := .builtin .append, args := #[s, x], argTypes := #[70, 70] }) (base : Nat) (v : Value) (l : List Bd) (y : Bd) (ad : Addr) (c : Nat)
    (hs : a.eval s = v) (hown : w.ownsRow base 90 4 v l.length (l.flatMap bdC)) (hx : a.eval x = .slice (some ad) 1 c) (hc : ∀ j u, (bdC y)[j]? = some u → w.cell? (ad.add j) = some u)
    (hlen : l.length < 4000000000000) (hbase : base ≤ w.heap.size)
    (h : ∀ v' w', w'.ownsRow base 90 4 v' (l ++ [y]).length ((l ++ [y]).flatMap bdC) → w.grownBy w' v.ownBlock → wpList Try.prog ops Q rest (a.put o.dst v') w') : wpList Try.prog ops Q (o :: rest) a w := by
  refine app_rec (enc := bdC) (n := 4) (bytes := 32) hgd s x 70 90 ho Try.underlying70 inf_Bond rfl (by omega) (by omega) bdC_one bdC_len base v l y ad c hs hown hx hc (by omega) hbase ?_
  intro v' w' h1 h2 _
  exact h v' w' h1 h2
theorem own_ne_range {P : Program} {kt : TypeId} {w : World} {B E k n b r : Nat} {v : Value} {xs : List Value} {l todo : List (Value × Value)} (h : w.ownsRow B E k v n xs) (hR : RangeAt P kt w b r l todo) : r ∉ v.ownBlock.toList ∧ b ∉ v.ownBlock.toList := by
  obtain ⟨es, clock, since, seen, c0, h1, h2, h3, -⟩ := hR
  obtain ⟨-, ⟨rfl, -⟩ | ⟨g, cap, cur, rfl, -, hb, -⟩⟩ := h
  · simp [Value.ownBlock]
  · simp only [Value.ownBlock, Option.toList_some, List.mem_singleton]
    constructor
    · rintro rfl; rw [hb] at h3; cases h3
    · rintro rfl; rw [hb] at h1; cases h1
set_option maxRecDepth 20000 in
set_option maxHeartbeats 4000000 in
theorem bonds_any (h : RepF w f B F) (hB : B.length ≤ 1200000000000) : Calls Try.prog 41 #[.pointer (some ⟨f, 0, none⟩)] w (MadeRecs 90 4 bdC B w) := by
  obtain ⟨ho, hr, m, l, h1, h2, h3, hF, h5⟩ := h
  obtain ⟨o, hrun, hR⟩ := h2.range Try.underlying154
  obtain ⟨w1, hw1, hb1, -, hs1⟩ := box1 w o
  rw [hw1] at hR
  have e0 := blk_cell h1 0
  simp only [List.getElem?_toArray, List.getElem?_cons_zero] at e0
  have hfl := blk_lt h1
  have hll : l.length ≤ 1200000000000 := by rw [h3.length_eq]; exact hB
  have HR := Lib.hid hR; have Hb1 := Lib.hid hb1; have Hs1 := Lib.hid hs1; have Ho := Lib.hid ho; have H3 := Lib.hid h3; have Hll := Lib.hid hll
  clear hR hb1 hs1 ho h3 hll
  clear h1 h2 hr hF h5 hB
  go_enter Try.func41, Try.ntmps41
  go_wp2_with fail
  clear hrun hw1 e0 hfl
  go_loopw [3, 12] (fun v _ wr => ∃ (D ts : List Bd), RangeAt Try.prog 45 wr m w.heap.size (l.map bdPr) (ts.map bdPr) ∧ (D ++ ts).Perm l ∧ wr.ownsRow w.heap.size 90 4 v D.length (D.flatMap bdC) ∧ Below w.heap.size w wr) (fun _ _ wr => wr.rangeLeft m w.heap.size)
  case atStart => exact ⟨[], l, HR.out, .refl _, ⟨rfl, .inl ⟨rfl, rfl⟩⟩, Hb1.out⟩
  case round =>
    obtain ⟨D, ts, hR, hp, hown, hB⟩ := hrel
    obtain ⟨A, cap, rfl, -, -⟩ := row_slice hown
    have hlen : D.length + ts.length = l.length := by rw [← List.length_append]; exact hp.length_eq
    by_cases hts : ts = []
    · subst hts
      have hov := fun ty => RangeAt.over (P := Try.prog) (by simpa using hR) ty
      simp only [List.append_nil] at hp
      have H1 := Lib.hid (sortBonds_any hown (by have := Hll.out; rw [hp.length_eq]; exact this))
      have Hp := Lib.hid hp; have HB := Lib.hid hB; have Hown := Lib.hid hown
      clear hp hB hown
      clear hR hlen
      go_wp2_with fail
      refine H1.out.mono ?_
      rintro e w2 ⟨rfl, l', hp', hs', hown', hmod⟩
      have hl' : l' = B := sortB_eq Ho.out.so ((hp'.trans Hp.out).trans H3.out) (hs'.imp fun {x y} h => by
        have h : ltOf cmpH y.1 x.1 = false := h
        rw [ltHd_eq] at h; exact h)
      have hB2 : Below w.heap.size w w2 := HB.out.trans (hmod.toBelow (fun x hx => own_ge Hown.out x (by simpa using hx)) HB.out.size)
      rw [hl'] at hown'
      have hDl : D.length = B.length := (Hp.out.trans H3.out).length_eq
      have HB2 := Lib.hid hB2; have HO2 := Lib.hid hown'
      clear hB2 hown'
      clear hp' hs' hmod hl'
      go_wp2
      refine bodyPost_ret (v := .slice A D.length cap) (by unfold results; try go_simp) rfl ?_
      exact ⟨_, rfl, HO2.out, HB2.out⟩
    · obtain ⟨t1, x, t2, w2, rfl, hn, hen, hx, hR2, hm2, hs2⟩ := hR.nextE hts
      have hmeas := hR.left_eq
      obtain ⟨⟨c0, c1⟩, p0, p1⟩ := x
      have hne := own_ne_range hown hR
      have hrl := hR.lt
      have hown2 := row_mod hown hm2 (fun k hk e => by
        have hk' : k = w.heap.size := by simpa using e
        subst hk'; exact hne.1 (by rw [hk]; simp))
      have hB2 : Below w.heap.size w w2 := hB.trans (hm2.toBelow (by simp) hB.size)
      simp only [bdPr, hdV, handleC] at hn hen
      have hDl : D.length < 1200000000000 := by have := Hll.out; simp at hlen; omega
      have HR := Lib.hid hR; have Hp := Lib.hid hp; have Hown := Lib.hid hown; have HB := Lib.hid hB; have HR2 := Lib.hid hR2; have Hm2 := Lib.hid hm2; have Hs2 := Lib.hid hs2; have Hmeas := Lib.hid hmeas; have HNe := Lib.hid hne; have Hown2 := Lib.hid hown2; have HB2 := Lib.hid hB2; have Hx := Lib.hid hx; have HDl := Lib.hid hDl
      clear hR hp hown hB hR2 hm2 hs2 hmeas hne hown2 hB2 hx hDl
      clear hlen
      go_wp2_with (at_builtin; refine app_bond rfl _ _ rfl w.heap.size (.slice A D.length cap) D ((c0, c1), (p0, p1)) ⟨w2.heap.size + 2, 0, none⟩ 1 rfl (((Hown2.out.alloc _).alloc _).alloc _) rfl (new_rec (by simp) rfl) (by have := HDl.out; omega) (by have := HB2.out.size; simp; omega) ?_; intro v' w3 hown3 hg3)
      go_roundw
      case rel =>
        refine ⟨D ++ [((c0, c1), (p0, p1))], t1 ++ t2, ?_, (mid_perm D t1 t2 _).symm.trans Hp.out, hown3, ?_⟩
        · refine (HR2.out.mod ((((Mod.refl [] w2).alloc _).alloc _).alloc _) (by simp) (by simp)).mod (grown_mod hg3) HNe.out.2 HNe.out.1
        · exact (((HB2.out.alloc HB2.out.size _).alloc (by have := HB2.out.size; simp; omega) _).alloc (by have := HB2.out.size; simp; omega) _).trans ((Below.refl _ _).grown hg3 (by have := HB2.out.size; simp; omega) (own_ge Hown.out))
      case measure =>
        have h3 := (HR2.out.mod ((((Mod.refl [] w2).alloc _).alloc _).alloc _) (by simp) (by simp)).mod (grown_mod hg3) HNe.out.2 HNe.out.1
        rw [h3.left_eq, Hmeas.out]; simp
end
end Go.Proofs.Ytkcpmoinpdojjaa

/- 'for x := range seq { .. }' where the iterator keeps cells of its own: a law of one's own. -/
namespace Go.Proofs.Ytkcpmoinpdojjaa
open Go Go.RowKit

theorem Mod.putObj {F : List Nat} {a w : World} (h : Mod F a w) {l : Nat} (hl : l ∈ F ∨ a.heap.size ≤ l) (o : Obj) : Mod F a (w.putObj l o) :=
  h.trans (G := [l]) ⟨rfl, rfl, rfl, by simp, fun k _ hk => World.putObj_heap_other (by simpa using hk)⟩ (by simpa using hl)
theorem below_putObj {B : Nat} {W : World} {l : Nat} (o : Obj) (hl : B ≤ l) : Below B W (W.putObj l o) :=
  ⟨rfl, rfl, rfl, by simp, fun k hk => World.putObj_heap_other (by omega)⟩
/-- J holds on where all below n is as it was. -/
def ClB {β : Type} (n : Nat) (J : β → World → Prop) : Prop := ∀ s A B, J s A → Below n A B → J s B
/-- What the iterator hears of a round. -/
def YieldR {α : Type} (l : Nat) (J Jx : List α → World → Prop) (pre : List α) (x : α) (W : World) (e : Ending) (W' : World) : Prop :=
  (e = .returned (.bool true) ∧ J (pre ++ [x]) W' ∧ Mod [l] W W') ∨ (e = .returned (.bool false) ∧ Jx (pre ++ [x]) W')
/-- An iterator's contract: it may keep cells of its own; a round turns nothing that lay but the loop's record. -/
def SeqR {α : Type} (F : Fence) (n : Nat) (P : Program) (g : Nat) (lb : Array Value) (encs : α → Array Value) (S Sp : List α → Prop) (N : Nat) (w : World) : Prop :=
  ∀ (l : Nat) (J Jx : List α → World → Prop) (W : World), Below w.heap.size w W → w.heap.size ≤ l → l < W.heap.size → ClB W.heap.size J →
    (∀ pre x W1, J pre W1 → pre.length < N → YieldAt F (n - 1) P l (encs x) W1 (YieldR l J Jx pre x W1)) → J [] W →
    CallsIn F n P g (#[.func (.yield l) #[] #[]] ++ lb) W fun e W' => (∃ v, e = .returned v) ∧ ((∃ xs, S xs ∧ J xs W') ∨ (∃ pre, Sp pre ∧ Jx pre W'))
/-- All from B on lies as it lay. -/
def HighKept (B : Nat) (W W' : World) : Prop := ∀ k o, B ≤ k → W.heap[k]? = some o → W'.heap[k]? = some o
theorem highKept_mod {B : Nat} {F : List Nat} {W W' : World} (h : Mod F W W') (hF : ∀ x ∈ F, x < B) : HighKept B W W' :=
  fun k o hk ho => h.keep ho (fun e => by have := hF k e; omega)
/-- How a round's body may be left. -/
def postR {α : Type} (B : Nat) (I : List α → World → Prop) (Ix : Code → List α → World → Prop) (xs : List α) (W : World) : Exit → Act → World → Prop
  | .normal, _, W' => Mod [] W W' ∧ I xs W'
  | .ret, _, W' => HighKept B W W' ∧ Ix .ret xs W'
  | .exit id, _, W' => HighKept B W W' ∧ Ix (.exit id) xs W'
  | .goto t, _, W' => HighKept B W W' ∧ Ix (.goto t) xs W'
  | .panic _, _, _ => False
  | .outgrown, _, _ => False
/-- Ax speaks of cells alone. -/
def ClC {α : Type} (Ax : α → Act → World → Prop) : Prop := ∀ x a' (A B : World), Ax x a' A → A.heap.size ≤ B.heap.size → (∀ (k : Nat) (o : Obj), A.heap[k]? = some o → o.isCells = true → B.heap[k]? = some o) → Ax x a' B

variable {F : Fence} {n : Nat} {P : Program}
theorem wp_rangeR {α : Type} {g : Operand} {ps : Array Tmp} {assign body : Code} {Q : Exit → Act → World → Prop} {a : Act} {w : World}
    (hro : F.round = none) (h1 : 1 ≤ n) {gf : Nat} {lb : Array Value} (hg : a.eval g = .func (.func gf) #[] lb) (hFg : F.fn gf) (eg : ∀ args w, (callFunc gf args).run P w = .ok (.enter gf args) w)
    {encs : α → Array Value} {S Sp : List α → Prop} {N : Nat} {w0 : World} (hseq : SeqR F (n - 1) P gf lb encs S Sp N w0) (hb0 : Below w0.heap.size w0 w) (hps : ∀ x, (encs x).size = ps.size)
    (I : List α → World → Prop) (Ix : Code → List α → World → Prop) (hI : ClB w.heap.size I) (hIx : ∀ c, ClB w.heap.size (Ix c)) (h0 : I [] w) (Ax : α → Act → World → Prop) (hAx : ClC Ax)
    (hassign : ∀ (l : Nat) (pre : List α) (x : α) (W : World) (K : Act → World → Prop), w.heap.size ≤ l → I pre W → (∀ a' W', Mod [] W W' → Ax x a' W' → K a' W') →
      assign.wpIn (F.inRound l) (n - 1 - 1) P (Exit.then K (fun _ _ _ => False)) { tmps := (ps.zip (encs x)).foldl (fun t (p, v) => t.setIfInBounds p v) a.tmps, defers := [] } W)
    (hbody : ∀ (l : Nat) (pre : List α) (x : α) (a' : Act) (W : World), w.heap.size ≤ l → I pre W → Ax x a' W → pre.length < N → body.wpIn (F.inRound l) (n - 1 - 1) P (postR w.heap.size I Ix (pre ++ [x]) W) a' W)
    (hdone : ∀ (D : Nat) (xs : List α) (W : World), w.heap.size ≤ D → S xs → I xs W → W.heap[D]? = some (.deferred (some [])) → Q .normal { a with defers := { target := .collected D, args := #[] } :: a.defers } W)
    (hstop : ∀ (D : Nat) (c : Code) (pre : List α) (W : World), w.heap.size ≤ D → Sp pre → Ix c pre W → W.heap[D]? = some (.deferred (some [])) → c.wpIn F n P Q { a with defers := { target := .collected D, args := #[] } :: a.defers } W) :
    (Code.rangeFunc g ps assign body).wpIn F n P Q a w := by
  refine wpIn_rangeFunc ?_
  intro fn hfn
  rw [hro]
  obtain ⟨rec, hrec⟩ : ∃ rec : LoopState → Option Code → Loop, rec = fun st pe => { state := st, pending := pe, fn, tmps := a.tmps, params := ps, assign, body, defers := w.heap.size } := ⟨_, rfl⟩
  obtain ⟨W1, hW1⟩ : ∃ W1, (w.alloc (.deferred (some []))).alloc (.loop (rec .ready none)) = W1 := ⟨_, rfl⟩
  have hL1 : W1.heap[w.heap.size + 1]? = some (.loop (rec .ready none)) := by
    rw [← hW1]; have := World.alloc_heap_new (w.alloc (.deferred (some []))) (.loop (rec .ready none)); rwa [World.size_alloc] at this
  have hK1 : W1.heap[w.heap.size]? = some (.deferred (some [])) := by
    rw [← hW1]; exact (Below.heap_alloc _ _ _ (by simp)).trans (World.alloc_heap_new w _)
  have hbw : Below w.heap.size w W1 := by
    rw [← hW1]; exact ((Below.refl _ w).alloc (Nat.le_refl _) _).alloc (by simp) _
  have hI1 : I [] W1 := hI _ _ _ h0 hbw
  have hb1 : Below w0.heap.size w0 W1 := hb0.trans (hbw.mono hb0.size)
  have hs1 : W1.heap.size = w.heap.size + 2 := by rw [← hW1]; simp
  have hs0 := hb0.size
  refine ⟨w.heap.size + 1, [{ target := .collected w.heap.size, args := #[] }], W1, { target := .fn (.func gf) lb, args := #[.func (.yield (w.heap.size + 1)) #[] #[]] }, W1, gf,
    #[.func (.yield (w.heap.size + 1)) #[] #[]] ++ lb, W1, ?_, ?_, ?_, ?_, fun _ => h1, ?_⟩
  · rw [← hW1, hrec]; exact run_enterLoop_outer _ _ _ _ _
  · simp only [resolve, hg]
    simp [go_sem]
  · intro f' hf'; simp [Target.leads] at hf'; subst hf'; exact hFg
  · simp [invoke, go_sem, eg]
  · refine (hseq (w.heap.size + 1)
      (fun pre W => I pre W ∧ W.heap[w.heap.size + 1]? = some (.loop (rec .ready none)) ∧ W.heap[w.heap.size]? = some (.deferred (some [])))
      (fun pre W => ∃ c, Ix c pre W ∧ W.heap[w.heap.size + 1]? = some (.loop (rec .done (some c))) ∧ W.heap[w.heap.size]? = some (.deferred (some [])))
      W1 hb1 (by omega) (by omega)
      (fun s A B hs hg' => ⟨hI s A B hs.1 (hg'.mono (by omega)), (hg'.block _ (by omega)).trans hs.2.1, (hg'.block _ (by omega)).trans hs.2.2⟩)
      ?_ ⟨hI1, hL1, hK1⟩).mono ?_
    · -- one round
      rintro pre x W ⟨hi, hl, hk⟩ hlen
      have hy := run_yield (P := P) (args := encs x) hl (by rw [hrec]; exact hps x)
      rw [hrec] at hy
      refine ⟨fn, _, assign, body, hy, roundIn_of_wpIn hfn (hassign _ pre x W _ (by omega) hi ?_)⟩
      clear hy
      intro a' Wa hm hax
      have hla := hm.keep hl (by simp)
      have hka := hm.keep hk (by simp)
      have hlt : w.heap.size + 1 < Wa.heap.size := (Array.getElem?_eq_some_iff.1 hla).1
      have hia : I pre Wa := hI _ _ _ hi (hm.below.mono (by have := (Array.getElem?_eq_some_iff.1 hk).1; omega))
      refine ⟨_, run_beginRound hla (by rw [hrec]), ?_⟩
      have hl2 : (Wa.putObj (w.heap.size + 1) (.loop { rec .ready none with state := .busy })).heap[w.heap.size + 1]? = some (.loop { rec .ready none with state := .busy }) := World.putObj_heap_same hlt
      have hk2 : (Wa.putObj (w.heap.size + 1) (.loop { rec .ready none with state := .busy })).heap[w.heap.size]? = some (.deferred (some [])) := (World.putObj_heap_other (by omega)).trans hka
      have hi2 : I pre (Wa.putObj (w.heap.size + 1) (.loop { rec .ready none with state := .busy })) := hI _ _ _ hia (below_putObj _ (by omega))
      have hax2 : Ax x a' (Wa.putObj (w.heap.size + 1) (.loop { rec .ready none with state := .busy })) := hAx _ _ _ _ hax (by simp) (fun k o ho hc => by
        by_cases e : k = w.heap.size + 1
        · subst e; rw [hla] at ho; cases ho; cases hc
        · exact (World.putObj_heap_other e).trans ho)
      refine wpIn_mono (hbody _ pre x a' _ (by omega) hi2 hax2 hlen) ?_
      have fin : ∀ (jump : Option Code) (W3 : World), HighKept w.heap.size (Wa.putObj (w.heap.size + 1) (.loop { rec .ready none with state := .busy })) W3 →
          (Instr.endRound (w.heap.size + 1) jump).run P W3 = .ok (.bool jump.isNone) (W3.putObj (w.heap.size + 1) (.loop (rec (if jump.isNone then .ready else .done) jump))) ∧
          w.heap.size + 1 < W3.heap.size ∧
          (W3.putObj (w.heap.size + 1) (.loop (rec (if jump.isNone then .ready else .done) jump))).heap[w.heap.size + 1]? = some (.loop (rec (if jump.isNone then .ready else .done) jump)) ∧
          (W3.putObj (w.heap.size + 1) (.loop (rec (if jump.isNone then .ready else .done) jump))).heap[w.heap.size]? = some (.deferred (some [])) := fun jump W3 hk3 => by
        have hl3 := hk3 _ _ (by omega) hl2
        have := run_endRound (P := P) jump hl3
        rw [hrec] at this ⊢
        exact ⟨this, (Array.getElem?_eq_some_iff.1 hl3).1, World.putObj_heap_same (Array.getElem?_eq_some_iff.1 hl3).1, (World.putObj_heap_other (by omega)).trans (hk3 _ _ (Nat.le_refl _) hk2)⟩
      rintro e a3 W3 hp
      cases e with
      | normal =>
        obtain ⟨hm3, hi3⟩ := hp
        obtain ⟨hr, hl3, hl4, hk4⟩ := fin none W3 (fun k o _ ho => hm3.keep ho (by simp))
        refine ⟨_, _, hr, .inl ⟨rfl, ⟨hI _ _ _ hi3 (below_putObj _ (by omega)), hl4, hk4⟩, ?_⟩⟩
        refine Mod.putObj ?_ (by simp) _
        exact ((hm.mono (by simp)).putObj (by simp) _).trans hm3 (by simp)
      | ret =>
        obtain ⟨hk3, hi3⟩ := hp
        obtain ⟨hr, hl3, hl4, hk4⟩ := fin (some .ret) W3 hk3
        exact ⟨_, _, hr, .inr ⟨rfl, .ret, hIx _ _ _ _ hi3 (below_putObj _ (by omega)), hl4, hk4⟩⟩
      | exit id =>
        obtain ⟨hk3, hi3⟩ := hp
        obtain ⟨hr, hl3, hl4, hk4⟩ := fin (some (.exit id)) W3 hk3
        exact ⟨_, _, hr, .inr ⟨rfl, .exit id, hIx _ _ _ _ hi3 (below_putObj _ (by omega)), hl4, hk4⟩⟩
      | goto t =>
        obtain ⟨hk3, hi3⟩ := hp
        obtain ⟨hr, hl3, hl4, hk4⟩ := fin (some (.goto t)) W3 hk3
        exact ⟨_, _, hr, .inr ⟨rfl, .goto t, hIx _ _ _ _ hi3 (below_putObj _ (by omega)), hl4, hk4⟩⟩
      | panic ch => exact hp.elim
      | outgrown => exact hp.elim
    · rintro e W2 ⟨⟨v, rfl⟩, (⟨xs, hS, hi, hl, hk⟩ | ⟨pre, hSp, c, hi, hl, hk⟩)⟩
      · exact ⟨none, _, by have := run_endLoop (P := P) hl (by rw [hrec]; simp); rw [hrec] at this; exact this, hdone _ xs _ (Nat.le_refl _) hS (hI _ _ _ hi (below_putObj _ (by omega))) ((World.putObj_heap_other (by omega)).trans hk)⟩
      · exact ⟨some c, _, by have := run_endLoop (P := P) hl (by rw [hrec]; simp); rw [hrec] at this; exact this, hstop _ c pre _ (Nat.le_refl _) hSp (hIx _ _ _ _ hi (below_putObj _ (by omega))) ((World.putObj_heap_other (by omega)).trans hk)⟩
/-- The same, at the wide fence, for the plain walk. -/
theorem wp_rangeW {α : Type} {g : Operand} {ps : Array Tmp} {assign body : Code} {Q : Exit → Act → World → Prop} {a : Act} {w : World} (n : Nat) (h1 : 1 ≤ n)
    {gf : Nat} {lb : Array Value} (hg : a.eval g = .func (.func gf) #[] lb) (eg : ∀ args w, (callFunc gf args).run P w = .ok (.enter gf args) w)
    {encs : α → Array Value} {S Sp : List α → Prop} {N : Nat} {w0 : World} (hseq : SeqR Fence.wide (n - 1) P gf lb encs S Sp N w0) (hb0 : Below w0.heap.size w0 w) (hps : ∀ x, (encs x).size = ps.size)
    (I : List α → World → Prop) (Ix : Code → List α → World → Prop) (hI : ClB w.heap.size I) (hIx : ∀ c, ClB w.heap.size (Ix c)) (h0 : I [] w) (Ax : α → Act → World → Prop) (hAx : ClC Ax)
    (hassign : ∀ (l : Nat) (pre : List α) (x : α) (W : World) (K : Act → World → Prop), w.heap.size ≤ l → I pre W → (∀ a' W', Mod [] W W' → Ax x a' W' → K a' W') →
      assign.wpIn (Fence.wide.inRound l) (n - 1 - 1) P (Exit.then K (fun _ _ _ => False)) { tmps := (ps.zip (encs x)).foldl (fun t (p, v) => t.setIfInBounds p v) a.tmps, defers := [] } W)
    (hbody : ∀ (l : Nat) (pre : List α) (x : α) (a' : Act) (W : World), w.heap.size ≤ l → I pre W → Ax x a' W → pre.length < N → body.wpIn (Fence.wide.inRound l) (n - 1 - 1) P (postR w.heap.size I Ix (pre ++ [x]) W) a' W)
    (hdone : ∀ (D : Nat) (xs : List α) (W : World), w.heap.size ≤ D → S xs → I xs W → W.heap[D]? = some (.deferred (some [])) → Q .normal { a with defers := { target := .collected D, args := #[] } :: a.defers } W)
    (hstop : ∀ (D : Nat) (c : Code) (pre : List α) (W : World), w.heap.size ≤ D → Sp pre → Ix c pre W → W.heap[D]? = some (.deferred (some [])) → c.wp P Q { a with defers := { target := .collected D, args := #[] } :: a.defers } W) :
    (Code.rangeFunc g ps assign body).wp P Q a w :=
  (wpIn_wide (n := n)).1 (wp_rangeR rfl h1 hg trivial eg hseq hb0 hps I Ix hI hIx h0 Ax hAx hassign hbody hdone (fun D c pre W h2 h3 h4 h5 => wpIn_wide.2 (hstop D c pre W h2 h3 h4 h5)))
end Go.Proofs.Ytkcpmoinpdojjaa
