import Derived.Shelf.SlSortCmp.NoneTotal
import Derived.Test.YtfbcdblgfhekpaaDiffAppliesJ3
import Derived.Test.YtfbcdblgfhekpaaDiffAppliesJ10
import Derived.Shelf.SlSortCmp.QuietGrown
import Derived.Test.YtfbcdblgfhekpaaDiffAppliesJ9
/- slices.SortFunc at a row of records of one's own: it is permuted, and sorted. -/
namespace Go.Proofs.Ytfbcdblgfhekpaa
open Go Go.RowKit Go.Shelf Go.Sort

section
variable {α : Type} [Inhabited α] {enc : α → List Value} {k : Nat}
theorem get_bang {l : List α} {i : Nat} (h : i < l.length) : l.toArray[i]! = l[i] := by
  rw [getElem!_pos _ i (by simpa using h)]; simp
theorem flat_bang (hk : ∀ x, (enc x).length = k) (l : List α) (t : Nat) (ht : t < l.length * k) : (l.flatMap enc)[t]? = some (flatK enc k l.toArray)[t]! := by
  have k0 : 0 < k := by rcases Nat.eq_zero_or_pos k with h | h
                        · subst h; simp at ht
                        · exact h
  have hq : t / k < l.length := Nat.div_lt_of_lt_mul (by rw [Nat.mul_comm]; exact ht)
  have hr : t % k < k := Nat.mod_lt _ k0
  rw [get_flatK _ _ _ _ (by simpa using ht), get_bang hq]
  have h1 := flatV_get hk l (t / k) hq (t % k) hr
  rw [show t / k * k + t % k = t by rw [Nat.mul_comm]; exact Nat.div_add_mod t k] at h1
  rw [h1, List.getElem?_eq_getElem (by rw [hk]; exact hr), getElem!_pos _ _ (by rw [hk]; exact hr)]
/-- The row, laid anew with as many records. -/
theorem own_putRowK (hk : ∀ x, (enc x).length = k) {w : World} {B E g cap : Nat} {l l' : List α} (hown : w.ownsRow B E k (.slice (some ⟨g, 0, none⟩) l.length cap) l.length (l.flatMap enc)) (hl : l'.length = l.length) (m : Nat) (os : Array Obj) :
    (sortWorldK enc k w g 0 m l'.toArray os).ownsRow B E k (.slice (some ⟨g, 0, none⟩) l'.length cap) l'.length (l'.flatMap enc) ∧ Mod [g] w (sortWorldK enc k w g 0 m l'.toArray os) := by
  obtain ⟨hx, ⟨h, -⟩ | ⟨g', cap', cur, h, hB, hb, hn, hc, hs, ht⟩⟩ := hown
  · cases h
  simp only [Value.slice.injEq, Option.some.injEq, Addr.mk.injEq, true_and] at h
  obtain ⟨⟨rfl, -⟩, rfl⟩ := h
  have hgl := blk_lt hb
  have hput : (putRowK enc k (Sort.ahead w m) g 0 l'.toArray).heap[g]? = some (.cells (putCells id 0 (flatK enc k l'.toArray) cur) E (0, 0)) := by
    unfold putRowK putRow mapBlock
    show (w.heap.modify g _)[g]? = _
    rw [Array.getElem?_modify, if_pos rfl, hb]
    rfl
  have hsz : (putRowK enc k (Sort.ahead w m) g 0 l'.toArray).heap.size = w.heap.size := by
    unfold putRowK
    rw [size_putRow]
    rfl
  have hmod : Mod [g] w (sortWorldK enc k w g 0 m l'.toArray os) := by
    refine ⟨rfl, rfl, rfl, ?_, fun j hj hn => ?_⟩
    · show _ ≤ ((putRowK enc k (Sort.ahead w m) g 0 l'.toArray).heap ++ os).size
      rw [Array.size_append, hsz]; omega
    · show ((putRowK enc k (Sort.ahead w m) g 0 l'.toArray).heap ++ os)[j]? = _
      rw [Array.getElem?_append_left (by rw [hsz]; exact hj)]
      unfold putRowK putRow mapBlock
      show (w.heap.modify g _)[j]? = _
      rw [Array.getElem?_modify, if_neg (fun e => hn (by simp [e]))]
  have hnk : l.length * k ≤ cap * k := Nat.mul_le_mul_right k hn
  refine ⟨⟨by rw [flatV_length hk], .inr ⟨g, cap, putCells id 0 (flatK enc k l'.toArray) cur, rfl, hB, ?_, by omega, hc, by rw [putCells, Array.size_mapIdx]; exact hs, ?_⟩⟩, hmod⟩
  · show ((putRowK enc k (Sort.ahead w m) g 0 l'.toArray).heap ++ os)[g]? = _
    rw [Array.getElem?_append_left (by rw [hsz]; exact hgl)]
    exact hput
  · apply List.ext_getElem?
    intro t
    rw [List.getElem?_take]
    by_cases h1 : t < l'.length * k
    · rw [if_pos h1, flat_bang hk l' t h1]
      have h2 : t < cur.size := by rw [hs]; rw [hl] at h1; omega
      rw [Array.getElem?_toList, putCells, Array.getElem?_mapIdx, Array.getElem?_eq_getElem h2]
      simp only [Option.map_some, Nat.zero_le, true_and, Nat.zero_add, size_flatK, List.size_toArray, id, Nat.sub_zero]
      rw [if_pos h1]
    · rw [if_neg h1, List.getElem?_eq_none (by rw [flatV_length hk]; omega)]
/-- What the sort leaves of a row. -/
def SortedRow (enc : α → List Value) (k B E : Nat) (lt : α → α → Bool) (l : List α) (v : Value) (w : World) (e : Ending) (w' : World) : Prop :=
  e = .returned (.tuple #[]) ∧ ∃ l' : List α, l'.Perm l ∧ l'.Pairwise (fun x y => lt y x = false) ∧ w'.ownsRow B E k v l'.length (l'.flatMap enc) ∧ Mod v.ownBlock.toList w w'
theorem sort_own {P : Program} {ρ : Ren} (L : SlLaysF0.n6 P ρ) (aE : ∀ w, (isAgg (ρ.t 24)).run P w = .ok true w) (zE : ∀ w, (Go.sizeOf (ρ.t 24)).run P w = .ok k w) (hk : ∀ x, (enc x).length = k) (h1 : ∀ x, ∀ v ∈ enc x, v.oneCell' = true)
    (cf : α → α → Int) (hO : SWO (ltOf cf)) (g : Nat) (eg : ∀ args w, (callFunc g args).run P w = .ok (.enter g args) w)
    (hcmp : ∀ x y W, Calls P g #[.agg (enc x).toArray, .agg (enc y).toArray] W fun e w' => e = .returned (.int .i64 (cf x y)) ∧ ∃ q os, w' = grow (W.drewN q) os)
    {w : World} {B E : Nat} {v : Value} {l : List α} (hown : w.ownsRow B E k v l.length (l.flatMap enc)) (hl : l.length < 4611686018427387904) :
    Calls P (ρ.f 6) #[v, .func (.func g) #[] #[]] w (SortedRow enc k B E (ltOf cf) l v w) := by
  obtain ⟨A, cap, rfl, -, -⟩ := row_slice hown
  by_cases h0 : l.length = 0
  · have hn : l = [] := List.eq_nil_of_length_eq_zero h0
    subst hn
    refine (AnyF.slices_SortFunc_none L A cap _ w).mono ?_
    rintro e w' ⟨rfl, rfl⟩
    exact ⟨rfl, [], .refl _, .nil, hown, Mod.refl _ _⟩
  · obtain ⟨g0, cap0, cur, hv, hB, hb, hn, hc, hs, ht⟩ := row_some hown (by omega)
    simp only [Value.slice.injEq, true_and] at hv
    obtain ⟨rfl, rfl⟩ := hv
    have hH : HoldsK enc k w g0 0 l.toArray := by
      intro j hj
      rw [size_flatK, List.size_toArray] at hj
      have := flat_bang hk l j hj
      refine ⟨?_, ?_⟩
      · rw [Nat.zero_add]; exact row_cell hown this
      · rw [Nat.zero_add]; exact row_free hown j
    have hcon := AnyQ.slices_SortFunc L k aE zE enc hk h1 cf hO g #[] g0 0 cap l.toArray w eg (fun m os dk _ x y => by simpa using hcmp x y _) hH (blk_lt hb) (by simpa using hl)
    rw [List.size_toArray] at hcon
    refine hcon.mono ?_
    rintro e w' ⟨rfl, d', n, os, hp, hsd, rfl⟩
    obtain ⟨hp1, -, hp3⟩ := hp
    rw [List.size_toArray] at hp1
    have e1 : d' = d'.toList.toArray := by simp
    have hlen : d'.toList.length = l.length := by simpa using hp1
    obtain ⟨h3, h4⟩ := own_putRowK (l' := d'.toList) hk hown hlen n os
    rw [← e1] at h3 h4
    refine ⟨rfl, d'.toList, ?_, ?_, ?_, ?_⟩
    · have hp2 : d'.size = l.length := by simpa using hp1
      have a1 : (d'.extract 0 l.length) = d' := by rw [← hp2]; exact Array.extract_size
      have a2 : (l.toArray.extract 0 l.length) = l.toArray := by
        have : l.toArray.size = l.length := by simp
        rw [← this]; exact Array.extract_size
      rw [a1, a2] at hp3
      exact hp3
    · refine List.pairwise_iff_getElem.2 fun i j hi hj hij => ?_
      have := hsd i j (Nat.zero_le _) hij (by rw [hlen] at hj; exact hj)
      rw [getElem!_pos d' i (by simpa using hi), getElem!_pos d' j (by simpa using hj)] at this
      simpa using this
    · rw [hlen] at h3 ⊢; exact h3
    · exact h4
end
end Go.Proofs.Ytfbcdblgfhekpaa

/- The order of handles: Compare; bonds and handles sorted. -/
namespace Go.Proofs.Ytfbcdblgfhekpaa
open Go Go.RowKit Go.Shelf Go.Sort
attribute [local go_sem] AllFrom.cons_eq AllFrom.nil_eq putF_nil putF_cons wantedL_none wantedL_some OpGoalT OpGoalV OpGoalQ OpGoalA OpGoalK YieldsR preF_nil preF_cons

/-- V is W with blocks behind it, and draws. -/
def Grown (W V : World) : Prop := ∃ q os, V = grow (W.drewN q) os
theorem Grown.refl (W : World) : Grown W W := ⟨0, #[], by rw [grow_empty]; rfl⟩
theorem Grown.alloc {W V : World} (h : Grown W V) (o : Obj) : Grown W (V.alloc o) := by
  obtain ⟨q, os, rfl⟩ := h
  exact ⟨q, os ++ #[o], by rw [alloc_eq_grow, grow_grow]⟩
theorem Grown.drew {W V : World} (h : Grown W V) : Grown W V.drew := by
  obtain ⟨q, os, rfl⟩ := h
  exact ⟨q + 1, os, rfl⟩
theorem Grown.trans {W V U : World} (h : Grown W V) (k : Grown V U) : Grown W U := by
  obtain ⟨q, os, rfl⟩ := h
  obtain ⟨q', os', rfl⟩ := k
  exact ⟨q + q', os ++ os', by simp [grow, World.drewN, Array.append_assoc, Nat.add_assoc]⟩

def cmpH (a b : Hd) : Int := if Lib.compareInt a.1 b.1 ≠ 0 then Lib.compareInt a.1 b.1 else Lib.compareInt a.2 b.2
theorem cmpH_lt (a b : Hd) : cmpH a b < 0 ↔ ltH a b = true := by
  rw [ltH_iff]
  unfold cmpH Lib.compareInt
  repeat' split
  all_goals omega

set_option maxRecDepth 20000 in
theorem compareI_any (x y : Int) (w : World) : Calls Try.prog 34 #[.int .i64 x, .int .i64 y] w fun e w' => e = .returned (.int .i64 (Lib.compareInt x y)) ∧ w = w' := by
  unfold Lib.compareInt
  by_cases h1 : x < y
  · rw [if_pos h1]
    go_enter Try.func34, Try.ntmps34
    go_wp2
    go_ret
    exact ⟨rfl, rfl⟩
  · rw [if_neg h1]
    by_cases h2 : y < x
    · rw [if_pos h2]
      go_enter Try.func34, Try.ntmps34
      go_wp2
      go_ret
      exact ⟨rfl, rfl⟩
    · rw [if_neg h2]
      go_enter Try.func34, Try.ntmps34
      go_wp2
      go_ret
      exact ⟨rfl, rfl⟩
def orI (x y : Int) : Int := if x ≠ 0 then x else y
set_option maxRecDepth 20000 in
theorem or_any (b : Nat) (x y : Int) (w : World) (h0 : w.cell? ⟨b, 0, none⟩ = some (.int .i64 x)) (h1 : w.cell? ⟨b, 1, none⟩ = some (.int .i64 y)) (hb : b < w.heap.size) :
    Calls Try.prog 33 #[.slice (some ⟨b, 0, none⟩) 2 2] w fun e w' => e = .returned (.int .i64 (orI x y)) ∧ w = w' := by
  have h1' : x ≠ 0 → orI x y = x := fun h => by unfold orI; rw [if_pos h]
  have h2' : x = 0 → orI x y = y := fun h => by unfold orI; rw [if_neg (by simpa using h)]
  have H1 := Lib.hid h1'; have H2 := Lib.hid h2'
  clear h1' h2'
  generalize orI x y = r at *
  go_enter Try.func33, Try.ntmps33
  go_wp2_with fail
  go_loopw [8] (fun i wr => ∃ k : Nat, i = .int .i64 k ∧ k ≤ 2 ∧ (k ≠ 0 → x = 0) ∧ (k = 2 → y = 0) ∧ wr = w) (fun i _ => 2 - (intOf i).toNat)
  case atStart => exact ⟨0, rfl, by omega, by simp, by simp, rfl⟩
  case round =>
    obtain ⟨k, rfl, hk, hx, hy, rfl⟩ := hrel
    have h3 : k = 0 ∨ k = 1 ∨ k = 2 := by omega
    rcases h3 with rfl | rfl | rfl
    · clear hx hy hk
      by_cases hx0 : x = 0
      · go_wp2
        go_roundw
        case rel => exact ⟨1, rfl, by omega, fun _ => hx0, fun h => by omega, by first | rfl | trivial⟩
        case measure => simp [intOf]
      · obtain rfl : r = x := H1.out hx0
        clear H1 H2
        go_wp2
        go_ret
        exact ⟨rfl, by first | rfl | trivial⟩
    · have hx0 := hx (by omega)
      clear hx hy hk
      by_cases hy0 : y = 0
      · go_wp2
        go_roundw
        case rel => exact ⟨2, rfl, by omega, fun _ => hx0, fun _ => hy0, by first | rfl | trivial⟩
        case measure => simp [intOf]
      · obtain rfl : r = y := H2.out hx0
        clear H1 H2
        go_wp2
        go_ret
        exact ⟨rfl, by first | rfl | trivial⟩
    · have hx0 := hx (by omega)
      have hy0 := hy rfl
      obtain rfl : r = 0 := (H2.out hx0).trans hy0
      clear hx hy hk H1 H2
      go_wp2
      go_ret
      exact ⟨rfl, by first | rfl | trivial⟩

def CmpPost (r : Int) (w : World) (e : Ending) (w' : World) : Prop := e = .returned (.int .i64 r) ∧ Grown w w'
set_option maxRecDepth 20000 in
set_option maxHeartbeats 2000000 in
theorem cmpHd_any (s g t u : Int) (w : World) : Calls Try.prog 17 #[.agg #[.int .i64 s, .int .i64 g], .agg #[.int .i64 t, .int .i64 u]] w (CmpPost (cmpH (s, g) (t, u)) w) := by
  obtain ⟨w0, hw0, hb0, hz0, hs0⟩ := box1 w (.cells #[.int .i64 s, .int .i64 g] 28)
  obtain ⟨w1, hw1, hb1, hz1, hs1⟩ := box1 w0 (.cells #[.int .i64 t, .int .i64 u] 28)
  have hz01 := (Mod.ofBelow hb1).keep hz0 (by simp)
  have hG : Grown w w1 := by rw [← hw1, ← hw0]; exact ((Grown.refl w).alloc _).alloc _
  have hc1 := compareI_any s t
  have hc2 := compareI_any g u
  have hfin : cmpH (s, g) (t, u) = orI (Lib.compareInt s t) (Lib.compareInt g u) := rfl
  rw [hfin]
  generalize Lib.compareInt s t = c1 at *
  generalize Lib.compareInt g u = c2 at *
  have q0 := blk_cell hz01 0
  have q1 := blk_cell hz01 1
  simp only [List.getElem?_toArray, List.getElem?_cons_zero, List.getElem?_cons_succ] at q0 q1
  have ql := blk_lt hz01
  have u0 := blk_cell hz1 0
  have u1 := blk_cell hz1 1
  simp only [List.getElem?_toArray, List.getElem?_cons_zero, List.getElem?_cons_succ] at u0 u1
  have ul := blk_lt hz1
  have HC1 := Lib.hid hc1; have HC2 := Lib.hid hc2; have HG := Lib.hid hG
  clear hc1 hc2 hG
  clear hz0 hz01 hz1 hb0 hb1 hs0 hs1 hfin
  go_enter Try.func17, Try.ntmps17
  go_wp2_with fail
  clear hw0 hw1
  refine wp_planR 10 [] [some 5, some 6, some 7, some 8, some 9, some 10, some 11, some 12, some 13, some 14, some 15, some 16, some 4] [[], [0], [], [2], [0, 1, 2, 3], [], [5], [], [7], [0, 1, 2, 3, 4, 5, 6, 7, 8], [0, 1, 2, 3, 4, 5, 6, 7, 8, 9], [0, 1, 2, 3, 4, 5, 6, 7, 8, 9, 10], [0, 1, 2, 3, 4, 5, 6, 7, 8, 9, 10, 11]] [0, 1, 2, 3, 4, 5, 6, 7, 8, 9] mixed rfl (by kernel_rfl) (by decide) (by decide) rfl ?_
  iterate 10 apply Exists.intro
  refine ⟨rfl, ?_, ?_⟩
  · simp only [List.take_succ_cons, List.take_zero, AllFrom.cons_eq, AllFrom.nil_eq, OpGoalQ]
    refine ⟨?_, ?_, ?_, ?_, ?_, ?_, ?_, ?_, ?_, ?_, trivial⟩
    all_goals (intro σ hp; (try simp only [List.getD_cons_zero, List.getD_cons_succ, List.map_cons, List.map_nil, preF_cons, preF_nil, isV, and_true] at hp); (first | (have hq : True := hp; clear hq hp) | skip))
    · (go_simp; exact ⟨rfl, rfl⟩)
    · (go_simp; exact ⟨rfl, rfl⟩)
    · (go_simp; exact ⟨rfl, rfl⟩)
    · (go_simp; exact ⟨rfl, rfl⟩)
    · (go_simp; refine (HC1.out _).mono ?_; rintro e w' ⟨rfl, rfl⟩; exact ⟨_, rfl, rfl, rfl⟩)
    · (go_simp; exact ⟨rfl, rfl⟩)
    · (go_simp; exact ⟨rfl, rfl⟩)
    · (go_simp; exact ⟨rfl, rfl⟩)
    · (go_simp; exact ⟨rfl, rfl⟩)
    · (go_simp; refine (HC2.out _).mono ?_; rintro e w' ⟨rfl, rfl⟩; exact ⟨_, rfl, rfl, rfl⟩)
  intro σ hp
  simp only [List.getD_cons_zero, List.getD_cons_succ, List.map_cons, List.map_nil, preF_cons, preF_nil, isV, and_true] at hp
  simp only [List.drop_succ_cons, List.drop_zero]
  go_simp
  clear hp
  obtain ⟨w2, hw2, -, hz2, -⟩ := box1 w1.drew (.cells #[.int .i64 c1, .int .i64 c2] 3)
  have hG2 : Grown w w2 := by rw [← hw2]; exact (HG.out.drew).alloc _
  have e0 := blk_cell hz2 0
  have e1 := blk_cell hz2 1
  simp only [List.getElem?_toArray, List.getElem?_cons_zero, List.getElem?_cons_succ] at e0 e1
  have HOr := Lib.hid (or_any _ c1 c2 w2 e0 e1 (blk_lt hz2))
  have HG2 := Lib.hid hG2
  clear hG2
  clear e0 e1 hz2
  go_wp2_with fail
  clear hw2
  refine HOr.out.mono ?_
  rintro e w' ⟨rfl, rfl⟩
  go_wp2
  refine ⟨rfl, ?_⟩
  go_wp2
  go_ret
  exact ⟨rfl, HG2.out⟩
  all_goals exact undef

theorem ltHd_eq (x y : Hd) : ltOf cmpH x y = ltH x y := by
  unfold ltOf
  cases h : ltH x y with
  | true => exact decide_eq_true ((cmpH_lt x y).2 h)
  | false => exact decide_eq_false (fun e => by rw [(cmpH_lt x y).1 e] at h; cases h)
theorem swoHd {α : Type} (f : α → Hd) : SWO (ltOf fun x y : α => cmpH (f x) (f y)) where
  irrefl x := by show ltOf cmpH (f x) (f x) = _; rw [ltHd_eq]; exact ltH_irrefl _
  trans x y z h1 h2 := by
    have h1 : ltOf cmpH (f x) (f y) = true := h1
    have h2 : ltOf cmpH (f y) (f z) = true := h2
    show ltOf cmpH (f x) (f z) = true
    rw [ltHd_eq] at *
    exact ltH_trans h1 h2
  ntrans x y z h1 h2 := by
    have h1 : ltOf cmpH (f x) (f y) = false := h1
    have h2 : ltOf cmpH (f y) (f z) = false := h2
    show ltOf cmpH (f x) (f z) = false
    rw [ltHd_eq] at *
    cases h3 : ltH (f x) (f z) with
    | false => rfl
    | true =>
      cases h4 : ltH (f y) (f x) with
      | true => rw [ltH_trans h4 h3] at h2; cases h2
      | false =>
        have e := ltH_tri h1 h4
        rw [e] at h3; rw [h3] at h2; cases h2

def sortHandleL_ren : Go.Shelf.Ren := ⟨fun | 6 => 31 | 15 => 40 | 14 => 39 | 28 => 51 | 29 => 52 | 20 => 43 | 21 => 44 | 22 => 45 | 23 => 46 | 24 => 47 | 25 => 48 | 26 => 49 | 27 => 50 | 46 => 55 | 47 => 56 | 48 => 57 | 49 => 58 | 50 => 59 | 57 => 60 | n => n, fun | 22 => 47 | 24 => 28 | 25 => 52 | 3 => 3 | 39 => 73 | 0 => 0 | 53 => 85 | 55 => 87 | 4 => 4 | 46 => 78 | 45 => 77 | 50 => 82 | 5 => 5 | 9 => 9 | 66 => 90 | 70 => 94 | 76 => 96 | 77 => 97 | n => n, fun | n => n⟩
theorem sortHandleL : Go.Proofs.SlLaysF0.n6 Try.prog sortHandleL_ren := {
  mixed := by kernel_rfl,
  f6 := ⟨Try.f31.name, by decide, Try.func31.trans (congrArg some (by kernel_rfl))⟩,
  f14 := ⟨Try.f39.name, by decide, Try.func39.trans (congrArg some (by kernel_rfl))⟩,
  f15 := Try.func40.trans (congrArg some (by kernel_rfl)),
  f20 := ⟨Try.f43.name, by decide, Try.func43.trans (congrArg some (by kernel_rfl))⟩,
  f21 := ⟨Try.f44.name, by decide, Try.func44.trans (congrArg some (by kernel_rfl))⟩,
  f22 := ⟨Try.f45.name, by decide, Try.func45.trans (congrArg some (by kernel_rfl))⟩,
  f23 := ⟨Try.f46.name, by decide, Try.func46.trans (congrArg some (by kernel_rfl))⟩,
  f24 := ⟨Try.f47.name, by decide, Try.func47.trans (congrArg some (by kernel_rfl))⟩,
  f25 := ⟨Try.f48.name, by decide, Try.func48.trans (congrArg some (by kernel_rfl))⟩,
  f26 := ⟨Try.f49.name, by decide, Try.func49.trans (congrArg some (by kernel_rfl))⟩,
  f27 := ⟨Try.f50.name, by decide, Try.func50.trans (congrArg some (by kernel_rfl))⟩,
  f28 := Try.func51.trans (congrArg some (by kernel_rfl)),
  f29 := Try.func52.trans (congrArg some (by kernel_rfl)),
  f46 := ⟨Try.f55.name, by decide, Try.func55.trans (congrArg some (by kernel_rfl))⟩,
  f47 := Try.func56.trans (congrArg some (by kernel_rfl)),
  f48 := Try.func57.trans (congrArg some (by kernel_rfl)),
  f49 := ⟨Try.f58.name, by decide, Try.func58.trans (congrArg some (by kernel_rfl))⟩,
  f50 := ⟨Try.f59.name, by decide, Try.func59.trans (congrArg some (by kernel_rfl))⟩,
  f57 := ⟨Try.f60.name, by decide, Try.func60.trans (congrArg some (by kernel_rfl))⟩,
  t0 := Try.underlying0,
  a0 := Try.isAgg0,
  z0 := Try.sizeOf0,
  v0 := Try.zeroValue0,
  t3 := Try.underlying3,
  a3 := Try.isAgg3,
  z3 := Try.sizeOf3,
  v3 := Try.zeroValue3,
  t4 := Try.underlying4,
  a4 := Try.isAgg4,
  z4 := Try.sizeOf4,
  v4 := Try.zeroValue4,
  t5 := Try.underlying5,
  a5 := Try.isAgg5,
  z5 := Try.sizeOf5,
  v5 := Try.zeroValue5,
  t9 := Try.underlying9,
  a9 := Try.isAgg9,
  z9 := Try.sizeOf9,
  v9 := Try.zeroValue9,
  t22 := Try.underlying47,
  a22 := Try.isAgg47,
  z22 := Try.sizeOf47,
  v22 := Try.zeroValue47,
  t25 := Try.underlying52,
  a25 := Try.isAgg52,
  z25 := Try.sizeOf52,
  v25 := Try.zeroValue52,
  t39 := Try.underlying73,
  a39 := Try.isAgg73,
  z39 := Try.sizeOf73,
  v39 := Try.zeroValue73,
  t45 := Try.underlying77,
  a45 := Try.isAgg77,
  z45 := Try.sizeOf77,
  v45 := Try.zeroValue77,
  t46 := Try.underlying78,
  a46 := Try.isAgg78,
  z46 := Try.sizeOf78,
  v46 := Try.zeroValue78,
  t50 := Try.underlying82,
  a50 := Try.isAgg82,
  z50 := Try.sizeOf82,
  v50 := Try.zeroValue82,
  t53 := Try.underlying85,
  a53 := Try.isAgg85,
  z53 := Try.sizeOf85,
  v53 := Try.zeroValue85,
  t55 := Try.underlying87,
  a55 := Try.isAgg87,
  z55 := Try.sizeOf87,
  v55 := Try.zeroValue87,
  t66 := Try.underlying90,
  a66 := Try.isAgg90,
  z66 := Try.sizeOf90,
  v66 := Try.zeroValue90,
  t70 := Try.underlying94,
  a70 := Try.isAgg94,
  z70 := Try.sizeOf94,
  v70 := Try.zeroValue94,
  t76 := Try.underlying96,
  a76 := Try.isAgg96,
  z76 := Try.sizeOf96,
  v76 := Try.zeroValue96,
  t77 := Try.underlying97,
  a77 := Try.isAgg97,
  z77 := Try.sizeOf97,
  v77 := Try.zeroValue97 }

theorem cmpHd_sort (x y : Hd) (W : World) : Calls Try.prog 17 #[.agg (handleC x).toArray, .agg (handleC y).toArray] W fun e w' => e = .returned (.int .i64 (cmpH x y)) ∧ ∃ q os, w' = grow (W.drewN q) os :=
  cmpHd_any x.1 x.2 y.1 y.2 W
theorem sortHandles_any {w : World} {B : Nat} {v : Value} {l : List Hd} (hown : w.ownsRow B 28 2 v l.length (l.flatMap handleC)) (hl : l.length ≤ 1200000000000) :
    Calls Try.prog 31 #[v, .func (.func 17) #[] #[]] w (SortedRow handleC 2 B 28 (ltOf fun x y : Hd => cmpH x y) l v w) :=
  sort_own sortHandleL Try.isAgg28 Try.sizeOf28 (fun _ => rfl) handleC_one _ (swoHd (fun x : Hd => x)) 17 (enters_of Try.func17 (by kernel_rfl) rfl) cmpHd_sort hown (by omega)
end Go.Proofs.Ytfbcdblgfhekpaa

/- Families: Gone, Bonds. -/
namespace Go.Proofs.Ytfbcdblgfhekpaa
open Go Go.RowKit Go.Maps
attribute [local go_sem] AllFrom.cons_eq AllFrom.nil_eq putF_nil putF_cons wantedL_none wantedL_some OpGoalT OpGoalV OpGoalQ OpGoalA OpGoalK YieldsR preF_nil preF_cons

def BoolPost (r : Bool) (w : World) (e : Ending) (w' : World) : Prop := e = .returned (.bool r) ∧ Below w.heap.size w w'
theorem mid_perm {α : Type} (D t1 t2 : List α) (x : α) : (D ++ (t1 ++ x :: t2)).Perm (D ++ [x] ++ (t1 ++ t2)) := by
  rw [List.append_assoc]
  exact List.Perm.append_left D List.perm_middle
section
variable {w : World} {f : Nat} {B : List Bd} {F : List Nat}
end
end Go.Proofs.Ytfbcdblgfhekpaa
