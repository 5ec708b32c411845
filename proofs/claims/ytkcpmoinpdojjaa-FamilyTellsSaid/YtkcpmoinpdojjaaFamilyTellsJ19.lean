import Derived.Test.YtkcpmoinpdojjaaFamilyTellsJ16
import Derived.Test.YtkcpmoinpdojjaaFamilyTellsJ18
/- Worlds as plain lists: slots and rows in order of slots; what the calls make of them. -/
namespace Go.Proofs.Ytkcpmoinpdojjaa
open Go Go.RowKit

def beastZ : Bt → Int
  | (K, a0, a1, a2, a3, a4, a5, a6, a7) => beastE K [a0, a1, a2, a3, a4, a5, a6, a7]
theorem beastGo_iff (K : Int) : ∀ (vs : List Int) (k : Nat), beastGo K k vs = 0 ↔ ∀ i, i < vs.length → (hasK K (k + i) = false → vs.getD i 0 = 0) ∧ ¬ (vs.getD i 0 < -1000000000 ∨ 1000000000 < vs.getD i 0)
  | [], _ => by simp [beastGo]
  | v :: vs, k => by
    have ih := beastGo_iff K vs (k + 1)
    rw [beastGo]
    constructor
    · intro h i hi
      by_cases h1 : hasK K k = false ∧ v ≠ 0
      · rw [if_pos h1] at h; simp at h
      · rw [if_neg h1] at h
        by_cases h2 : v < -1000000000 ∨ 1000000000 < v
        · rw [if_pos h2] at h; simp at h
        · rw [if_neg h2] at h
          match i with
          | 0 => exact ⟨fun hk => Decidable.byContradiction fun e => h1 ⟨hk, e⟩, h2⟩
          | i + 1 =>
            have := ih.1 h i (by simpa using hi)
            rw [show k + 1 + i = k + (i + 1) by omega] at this
            exact this
    · intro h
      have h0 : (hasK K k = false → v = 0) ∧ ¬ (v < -1000000000 ∨ 1000000000 < v) := h 0 (by simp)
      rw [if_neg (fun e => e.2 (h0.1 e.1)), if_neg h0.2]
      refine ih.2 fun i hi => ?_
      have := h (i + 1) (by simpa using hi)
      rw [show k + 1 + i = k + (i + 1) by omega]
      exact this
theorem valK_get {K a0 a1 a2 a3 a4 a5 a6 a7 : Int} {k : Nat} : [a0, a1, a2, a3, a4, a5, a6, a7].getD k 0 = valK k (K, a0, a1, a2, a3, a4, a5, a6, a7) := rfl
theorem beastZ_iff (b : Bt) : beastZ b = 0 ↔ ∃ kn : Nat, kn < 256 ∧ b.1 = (kn : Int) ∧ ∀ k, k < 8 → (kn.testBit k = false → valK k b = 0) ∧ ¬ (valK k b < -1000000000 ∨ 1000000000 < valK k b) := by
  obtain ⟨K, a0, a1, a2, a3, a4, a5, a6, a7⟩ := b
  show (if isSetB K = true then beastGo K 0 [a0, a1, a2, a3, a4, a5, a6, a7] else (1 : Int)) = 0 ↔ _
  constructor
  · intro h
    by_cases hs : isSetB K = true
    · rw [if_pos hs, beastGo_iff] at h
      obtain ⟨m, rfl, hm⟩ := isSetB_nat hs
      refine ⟨m, hm, rfl, fun k hk => ?_⟩
      have := h k (by simpa using hk)
      rw [Nat.zero_add, hasK_nat m k hm] at this
      exact this
    · rw [if_neg hs] at h; simp at h
  · rintro ⟨kn, hkn, e, h⟩
    simp only at e
    subst e
    rw [if_pos (isSetB_t _ (by omega) (by omega)), beastGo_iff]
    intro i hi
    rw [Nat.zero_add, hasK_nat kn i hkn]
    exact h i (by simpa using hi)
theorem beastZ_good {x : Rw} {kn : Nat} (h : beastZ x.2 = 0) (hk : x.2.1 = (kn : Int)) : GoodR kn x ∧ kn < 256 := by
  obtain ⟨m, hm, e, hv⟩ := (beastZ_iff _).1 h
  have : m = kn := by omega
  subst this
  exact ⟨⟨hk, fun k hk hb => (hv k hk).1 hb⟩, hm⟩

/-! In order of slots. -/
def insH (l : List Hd) (x : Hd) : List Hd := l.takeWhile (fun y => decide (y.1 < x.1)) ++ x :: l.dropWhile (fun y => decide (y.1 < x.1))
def insR (l : List Rw) (x : Rw) : List Rw := l.takeWhile (fun y => decide (y.1.1 < x.1.1)) ++ x :: l.dropWhile (fun y => decide (y.1.1 < x.1.1))
theorem insR_map (l : List Rw) (x : Rw) : (insR l x).map (·.1) = insH (l.map (·.1)) x.1 := by
  unfold insR insH
  rw [List.map_append, List.map_cons, List.takeWhile_map, List.dropWhile_map]
  rfl
theorem mem_insR {l : List Rw} {x y : Rw} : y ∈ insR l x ↔ y ∈ l ∨ y = x := by
  unfold insR
  rw [List.mem_append, List.mem_cons]
  conv => rhs; rw [← List.takeWhile_append_dropWhile (p := fun y : Rw => decide (y.1.1 < x.1.1)) (l := l)]
  rw [List.mem_append]
  constructor
  · rintro (h | rfl | h)
    · exact .inl (.inl h)
    · exact .inr rfl
    · exact .inl (.inr h)
  · rintro ((h | h) | rfl)
    · exact .inl h
    · exact .inr (.inr h)
    · exact .inr (.inl rfl)
theorem ins_split {a b : List Hd} {x : Hd} (ha : ∀ y ∈ a, y.1 < x.1) (hb : ∀ y ∈ b, ¬ y.1 < x.1) : insH (a ++ b) x = a ++ x :: b := by
  have h1 : (a ++ b).takeWhile (fun y => decide (y.1 < x.1)) = a := by
    rw [List.takeWhile_append_of_pos (fun y hy => by simpa using ha y hy)]
    cases b with
    | nil => simp
    | cons z b => rw [List.takeWhile_cons_of_neg (by simpa using hb z (by simp))]; simp
  have h2 : (a ++ b).dropWhile (fun y => decide (y.1 < x.1)) = b := by
    rw [List.dropWhile_append_of_pos (fun y hy => by simpa using ha y hy)]
    cases b with
    | nil => rfl
    | cons z b => rw [List.dropWhile_cons_of_neg (by simpa using hb z (by simp))]
  unfold insH
  rw [h1, h2]
theorem allFrom_lo {l : Sl} {k : Nat} {h : Hd} (hh : h ∈ allFrom k l) : (k : Int) ≤ h.1 ∧ h.1 < ((k + l.length : Nat) : Int) := by
  obtain ⟨s, g⟩ := h
  obtain ⟨j, rfl, hj, -⟩ := (mem_allFrom l k s g).1 hh
  exact ⟨by simp only; omega, by simp only; omega⟩
theorem allFrom_sorted : ∀ (l : Sl) (k : Nat), (allFrom k l).Pairwise (fun a b => a.1 < b.1)
  | [], _ => by simp [allFrom]
  | x :: l, k => by
    rw [allFrom]
    split
    · rw [List.singleton_append, List.pairwise_cons]
      exact ⟨fun y hy => by have := (allFrom_lo hy).1; simp only; omega, allFrom_sorted l (k + 1)⟩
    · rw [List.nil_append]; exact allFrom_sorted l (k + 1)
theorem get_split {α : Type} {l : List α} {k : Nat} (hk : k < l.length) : l = l.take k ++ l[k] :: l.drop (k + 1) := by
  rw [← List.drop_eq_getElem_cons hk, List.take_append_drop]
theorem set_split {α : Type} {l : List α} {k : Nat} (hk : k < l.length) (y : α) : l.set k y = l.take k ++ y :: l.drop (k + 1) := by
  rw [List.set_eq_take_append_cons_drop, if_pos hk]
theorem take_spec {sl : Sl} (hok : SlOk sl) (he : takeE sl = 0) : ∃ k : Nat, k < 60 ∧ takeK sl = (k : Int) ∧ (∀ h ∈ allS sl, h.1 ≠ (k : Int)) ∧ allS (takeL sl) = insH (allS sl) ((k : Int), takeG sl) := by
  unfold takeE at he
  cases hf : sl.findIdx? freeB with
  | some k =>
    obtain ⟨hk, hp⟩ := fi_lt hf
    have hk60 := hok.1
    have h2 : sl[k].2 = false := by unfold freeB at hp; simp only [Bool.and_eq_true, Bool.not_eq_true'] at hp; exact hp.1
    have e1 : allS sl = allS (sl.take k) ++ allFrom (k + 1) (sl.drop (k + 1)) := by
      conv => lhs; rw [get_split hk]
      unfold allS
      rw [allFrom_append, List.length_take, Nat.min_eq_left (by omega), allFrom, h2]
      simp
    have e2 : takeL sl = sl.set k (sl[k].1, true) := by unfold takeL; rw [hf]; simp only; rw [List.getD_eq_getElem?_getD, List.getElem?_eq_getElem hk]; rfl
    have e3 : takeG sl = sl[k].1 := by unfold takeG; rw [hf]; simp only; rw [List.getD_eq_getElem?_getD, List.getElem?_eq_getElem hk]; rfl
    have ha : ∀ y ∈ allS (sl.take k), y.1 < (k : Int) := fun y hy => by have := (allFrom_lo hy).2; rw [List.length_take] at this; omega
    have hb : ∀ y ∈ allFrom (k + 1) (sl.drop (k + 1)), (k : Int) < y.1 := fun y hy => by have := (allFrom_lo hy).1; omega
    refine ⟨k, by omega, by unfold takeK; rw [hf], ?_, ?_⟩
    · intro h hh
      rw [e1] at hh
      rcases List.mem_append.1 hh with hh | hh
      · have := ha h hh; omega
      · have := hb h hh; omega
    · rw [e1, ins_split ha (fun y hy => by have := hb y hy; simp only; omega), e2, e3, set_split hk]
      unfold allS
      rw [allFrom_append, List.length_take, Nat.min_eq_left (by omega), allFrom]
      simp
  | none =>
    rw [hf] at he
    simp only at he
    by_cases h60 : sl.length = 60
    · rw [if_pos h60] at he; simp at he
    · have hk60 := hok.1
      have ha : ∀ y ∈ allS sl, y.1 < (sl.length : Int) := fun y hy => by have := (allFrom_lo hy).2; omega
      refine ⟨sl.length, by omega, by unfold takeK; rw [hf]; simp only; rw [if_neg h60], fun h hh => by have := ha h hh; omega, ?_⟩
      have e := ins_split (a := allS sl) (b := []) (x := ((sl.length : Int), takeG sl)) ha (by simp)
      rw [List.append_nil] at e
      rw [e]
      have e2 : takeL sl = sl ++ [(0, true)] := by unfold takeL; rw [hf]; simp only; rw [if_neg h60]
      have e3 : takeG sl = 0 := by unfold takeG; rw [hf]
      rw [e2, e3]
      unfold allS
      rw [allFrom_append]
      simp [allFrom]
theorem free_spec {sl : Sl} {s g : Int} (h : liveB sl s g = true) : allS (freeL sl s g) = (allS sl).filter (fun x => decide (x ≠ (s, g))) := by
  obtain ⟨h0, hk, he⟩ := liveB_lt h
  obtain ⟨k, rfl⟩ := Int.eq_ofNat_of_zero_le h0
  rw [Int.toNat_natCast] at hk
  simp only [Int.toNat_natCast] at he
  unfold freeL
  rw [if_pos h, Int.toNat_natCast, set_split hk]
  have ha : ∀ y ∈ allS (sl.take k), decide (y ≠ ((k : Int), g)) = true := fun y hy => by
    have := (allFrom_lo hy).2; rw [List.length_take] at this
    simp only [ne_eq, decide_eq_true_eq]; rintro rfl; simp only at this; omega
  have hb : ∀ y ∈ allFrom (k + 1) (sl.drop (k + 1)), decide (y ≠ ((k : Int), g)) = true := fun y hy => by
    have := (allFrom_lo hy).1
    simp only [ne_eq, decide_eq_true_eq]; rintro rfl; simp only at this; omega
  have e1 : allS sl = allS (sl.take k) ++ ((k : Int), g) :: allFrom (k + 1) (sl.drop (k + 1)) := by
    conv => lhs; rw [get_split hk]
    unfold allS
    rw [allFrom_append, List.length_take, Nat.min_eq_left (by omega), allFrom, he]
    simp
  rw [e1, List.filter_append, List.filter_cons, List.filter_eq_self.2 ha, List.filter_eq_self.2 hb]
  unfold allS
  rw [allFrom_append, List.length_take, Nat.min_eq_left (by omega), allFrom]
  simp

/-- Rows beside slots. -/
structure WOk (sl : Sl) (L : List Rw) : Prop where
  ok : SlOk sl
  hs : L.map (·.1) = allS sl
  be : ∀ x ∈ L, beastZ x.2 = 0
section
variable {sl : Sl} {L : List Rw}
theorem wok_nil : WOk [] [] := ⟨slOk_nil, rfl, by simp⟩
theorem WOk.len (h : WOk sl L) : L.length ≤ 60 := by
  have := congrArg List.length h.hs
  rw [List.length_map] at this
  have h1 := allS_len sl
  have := h.ok.1
  omega
theorem WOk.slot (h : WOk sl L) {x : Rw} (hx : x ∈ L) : ∃ s : Nat, s < 60 ∧ x.1.1 = (s : Int) := by
  have : x.1 ∈ allS sl := by rw [← h.hs]; exact List.mem_map.2 ⟨x, hx, rfl⟩
  obtain ⟨h1, h2⟩ := allFrom_lo this
  have := h.ok.1
  exact ⟨x.1.1.toNat, by omega, by omega⟩
theorem WOk.sorted (h : WOk sl L) : L.Pairwise (fun a b => a.1.1 < b.1.1) := by
  have := allFrom_sorted sl 0
  rw [show allFrom 0 sl = L.map (·.1) from h.hs.symm, List.pairwise_map] at this
  exact this
theorem WOk.one (h : WOk sl L) {x y : Rw} (hx : x ∈ L) (hy : y ∈ L) (e : x.1.1 = y.1.1) : x = y := by
  obtain ⟨i, hi, rfl⟩ := List.mem_iff_getElem.1 hx
  obtain ⟨j, hj, rfl⟩ := List.mem_iff_getElem.1 hy
  have hp := List.pairwise_iff_getElem.1 h.sorted
  rcases Nat.lt_trichotomy i j with h1 | h1 | h1
  · have := hp i j hi hj h1; omega
  · subst h1; rfl
  · have := hp j i hj hi h1; omega
theorem WOk.live (h : WOk sl L) (s g : Int) : liveB sl s g = true ↔ ∃ x ∈ L, x.1 = (s, g) := by
  rw [liveB_iff, ← h.hs, List.mem_map]
theorem WOk.spawn (h : WOk sl L) (he : takeE sl = 0) {b : Bt} (hb : beastZ b = 0) : WOk (takeL sl) (insR L ((takeK sl, takeG sl), b)) := by
  obtain ⟨k, -, hk, -, ha⟩ := take_spec h.ok he
  refine ⟨h.ok.take, ?_, fun x hx => ?_⟩
  · rw [insR_map, h.hs, ha, hk]
  · rcases mem_insR.1 hx with hx | rfl
    · exact h.be x hx
    · exact hb
theorem WOk.kill (h : WOk sl L) {s g : Int} (hl : liveB sl s g = true) : WOk (freeL sl s g) (L.filter (fun x => decide (x.1 ≠ (s, g)))) := by
  refine ⟨h.ok.free s g, ?_, fun x hx => h.be x (List.mem_filter.1 hx).1⟩
  rw [free_spec hl, ← h.hs, List.filter_map]; rfl
theorem WOk.set (h : WOk sl L) {i : Nat} {x' : Rw} (hi : i < L.length) (h1 : x'.1 = L[i].1) (hb : beastZ x'.2 = 0) : WOk sl (L.set i x') := by
  refine ⟨h.ok, ?_, fun x hx => ?_⟩
  · rw [← h.hs]
    apply List.ext_getElem?
    intro j
    rw [List.getElem?_map, List.getElem?_map, List.getElem?_set]
    by_cases e : i = j
    · subst e; simp [hi, h1]
    · simp [e]
  · rcases List.mem_or_eq_of_mem_set hx with hx | rfl
    · exact h.be x hx
    · exact hb
theorem WOk.mem_set (h : WOk sl L) {i : Nat} {x' : Rw} (hi : i < L.length) (h1 : x'.1 = L[i].1) (y : Rw) : y ∈ L.set i x' ↔ (y ∈ L ∧ y ≠ L[i]) ∨ y = x' := by
  rw [set_split hi]
  constructor
  · intro hy
    rcases List.mem_append.1 hy with hy | hy
    · left
      obtain ⟨j, hj, e⟩ := List.mem_iff_getElem.1 hy
      rw [List.length_take] at hj
      rw [List.getElem_take] at e
      refine ⟨List.mem_of_mem_take hy, fun e2 => ?_⟩
      have := List.pairwise_iff_getElem.1 h.sorted j i (by omega) hi (by omega)
      rw [e, e2] at this; omega
    · rcases List.mem_cons.1 hy with rfl | hy
      · exact .inr rfl
      · left
        obtain ⟨j, hj, e⟩ := List.mem_iff_getElem.1 hy
        rw [List.length_drop] at hj
        rw [List.getElem_drop] at e
        refine ⟨List.mem_of_mem_drop hy, fun e2 => ?_⟩
        have := List.pairwise_iff_getElem.1 h.sorted i (i + 1 + j) hi (by omega) (by omega)
        rw [e, e2] at this; omega
  · rintro (⟨hy, hne⟩ | rfl)
    · rw [get_split hi] at hy
      rcases List.mem_append.1 hy with hy | hy
      · exact List.mem_append_left _ hy
      · rcases List.mem_cons.1 hy with hy | hy
        · exact absurd hy hne
        · exact List.mem_append_right _ (List.mem_cons_of_mem _ hy)
    · simp
end

/-! What the calls make of rows. -/
def putK (K : Int) (k : Nat) : Int := if hasK K k = true then K else K + pw k
def putR (x : Rw) (k : Nat) (n : Int) : Rw := (x.1, (putK x.2.1 k, (rwSet x k n).2.2))
def dropR (x : Rw) (k : Nat) : Rw := (x.1, (x.2.1 - pw k, (rwSet x k 0).2.2))
def idxL (L : List Rw) (h : Hd) : Option Nat := L.findIdx? (fun x => decide (x.1 = h))
def putBad (k n : Int) : Prop := (k < 0 ∨ 7 < k) ∨ (n < -1000000000 ∨ 1000000000 < n)
instance (k n : Int) : Decidable (putBad k n) := by unfold putBad; infer_instance
def spawnE (sl : Sl) (b : Bt) : Int := if beastZ b ≠ 0 then beastZ b else takeE sl
def spawnH (sl : Sl) (b : Bt) : Hd := if beastZ b ≠ 0 then (0, 0) else (takeK sl, takeG sl)
def spawnS (sl : Sl) (b : Bt) : Sl := if beastZ b ≠ 0 then sl else takeL sl
def spawnL (sl : Sl) (L : List Rw) (b : Bt) : List Rw := if spawnE sl b = 0 then insR L ((takeK sl, takeG sl), b) else L
def killE (L : List Rw) (h : Hd) : Int := match idxL L h with | some _ => 0 | none => 7
def killL (L : List Rw) (h : Hd) : List Rw := L.filter (fun x => decide (x.1 ≠ h))
def putE (L : List Rw) (h : Hd) (k n : Int) : Int := match idxL L h with | some _ => if putBad k n then 1 else 0 | none => 7
def putW (L : List Rw) (h : Hd) (k n : Int) : List Rw := match idxL L h with | some i => if putBad k n then L else L.modify i (fun x => putR x k.toNat n) | none => L
def dropE (L : List Rw) (h : Hd) (k : Int) : Int := match idxL L h with | some i => if k < 0 ∨ 7 < k then 1 else if hasK (L.getD i zeroR).2.1 k.toNat = true then 0 else 5 | none => 7
def dropL (L : List Rw) (h : Hd) (k : Int) : List Rw := match idxL L h with | some i => if dropE L h k = 0 then L.modify i (fun x => dropR x k.toNat) else L | none => L
def getE (L : List Rw) (h : Hd) : Int := match idxL L h with | some _ => 0 | none => 7
def getB (L : List Rw) (h : Hd) : Bt := match idxL L h with | some i => (L.getD i zeroR).2 | none => zeroR.2

section
variable {sl : Sl} {L : List Rw}
theorem idx_some {h : Hd} {i : Nat} (hi : idxL L h = some i) : ∃ hl : i < L.length, L[i].1 = h := by
  obtain ⟨hl, hp⟩ := fi_lt hi
  exact ⟨hl, by simpa using hp⟩
theorem idx_none {h : Hd} (hi : idxL L h = none) : ∀ x ∈ L, x.1 ≠ h := by
  unfold idxL at hi
  rw [List.findIdx?_eq_none_iff] at hi
  intro x hx e
  have := hi x hx
  simp [e] at this
theorem WOk.idx (h : WOk sl L) (s g : Int) : (liveB sl s g = true ∧ ∃ i, idxL L (s, g) = some i) ∨ (liveB sl s g = false ∧ idxL L (s, g) = none) := by
  cases hi : idxL L (s, g) with
  | some i =>
    obtain ⟨hl, e⟩ := idx_some hi
    exact .inl ⟨(h.live s g).2 ⟨_, List.getElem_mem hl, e⟩, i, rfl⟩
  | none =>
    refine .inr ⟨?_, rfl⟩
    cases hv : liveB sl s g with
    | false => rfl
    | true =>
      obtain ⟨x, hx, e⟩ := (h.live s g).1 hv
      exact absurd e (idx_none hi x hx)
theorem modify_set {α : Type} {l : List α} {i : Nat} (hi : i < l.length) (f : α → α) : l.modify i f = l.set i (f l[i]) := by
  apply List.ext_getElem?
  intro j
  rw [List.getElem?_modify, List.getElem?_set]
  by_cases e : i = j
  · subst e; simp [hi]
  · simp [e]
theorem bit_set : ∀ m : Fin 256, ∀ k j : Fin 8, m.val.testBit k.val = false → (m.val + 2 ^ k.val < 256 ∧ (m.val + 2 ^ k.val).testBit j.val = (m.val.testBit j.val || decide (j = k))) := by decide +kernel
theorem bit_clear : ∀ m : Fin 256, ∀ k j : Fin 8, m.val.testBit k.val = true → (2 ^ k.val ≤ m.val ∧ (m.val - 2 ^ k.val).testBit j.val = (m.val.testBit j.val && !decide (j = k))) := by decide +kernel
theorem valK_tail {b c : Bt} (h : b.2 = c.2) (k : Nat) : valK k b = valK k c := by
  obtain ⟨K, b⟩ := b; obtain ⟨K', c⟩ := c
  simp only at h
  subst h
  rfl
theorem putR_val (x : Rw) (k j : Nat) (hk : k < 8) (n : Int) : valK j (putR x k n).2 = if j = k then n else valK j x.2 := by
  rw [← rwSet_val x k j hk n]
  exact valK_tail rfl j
theorem dropR_val (x : Rw) (k j : Nat) (hk : k < 8) : valK j (dropR x k).2 = if j = k then 0 else valK j x.2 := by
  rw [← rwSet_val x k j hk 0]
  exact valK_tail rfl j
theorem putR_ok {x : Rw} (h : beastZ x.2 = 0) {k : Nat} (hk : k < 8) {n : Int} (hn : ¬ (n < -1000000000 ∨ 1000000000 < n)) : beastZ (putR x k n).2 = 0 := by
  obtain ⟨m, hm, e, hv⟩ := (beastZ_iff _).1 h
  rw [beastZ_iff]
  cases hb : m.testBit k with
  | true =>
    refine ⟨m, hm, ?_, fun j hj => ?_⟩
    · show putK x.2.1 k = _
      unfold putK; rw [e, hasK_nat m k hm, if_pos hb]
    · rw [putR_val x k j hk]
      split
      · next e2 => subst e2; exact ⟨fun h => (by rw [hb] at h; cases h), hn⟩
      · exact hv j hj
  | false =>
    have h2 := fun j (hj : j < 8) => bit_set ⟨m, hm⟩ ⟨k, hk⟩ ⟨j, hj⟩ hb
    refine ⟨m + 2 ^ k, (h2 0 (by omega)).1, ?_, fun j hj => ?_⟩
    · show putK x.2.1 k = _
      unfold putK; rw [e, hasK_nat m k hm, if_neg (by rw [hb]; simp)]; unfold pw; omega
    · rw [putR_val x k j hk, (h2 j hj).2]
      split
      · next e2 => subst e2; exact ⟨fun h => by simp at h, hn⟩
      · next e2 => simp only [Fin.mk.injEq, e2, decide_false, Bool.or_false]; exact hv j hj
theorem dropR_ok {x : Rw} (h : beastZ x.2 = 0) {k : Nat} (hk : k < 8) (hh : hasK x.2.1 k = true) : beastZ (dropR x k).2 = 0 := by
  obtain ⟨m, hm, e, hv⟩ := (beastZ_iff _).1 h
  rw [e, hasK_nat m k hm] at hh
  rw [beastZ_iff]
  have h2 := fun j (hj : j < 8) => bit_clear ⟨m, hm⟩ ⟨k, hk⟩ ⟨j, hj⟩ hh
  have h3 : 2 ^ k ≤ m := (h2 0 (by omega)).1
  refine ⟨m - 2 ^ k, Nat.lt_of_le_of_lt (Nat.sub_le _ _) hm, ?_, fun j hj => ?_⟩
  · show x.2.1 - pw k = _
    rw [e]; unfold pw; omega
  · rw [dropR_val x k j hk, (h2 j hj).2]
    split
    · exact ⟨fun _ => rfl, by omega⟩
    · next e2 => simp only [Fin.mk.injEq, e2, decide_false, Bool.not_false, Bool.and_true]; exact hv j hj
end
end Go.Proofs.Ytkcpmoinpdojjaa

/- Worlds in memory by their slots and rows: New, and the two inner calls. -/
namespace Go.Proofs.Ytkcpmoinpdojjaa
open Go Go.RowKit

/-- A world at block p with slots sl and rows L; F: its blocks. -/
def RepW (w : World) (p : Nat) (sl : Sl) (L : List Rw) (F : List Nat) : Prop :=
  ∃ ps mt mp tb rw pl FS Fs c, WorldAt w p ps mt mp sl tb rw pl FS Fs c ∧ WCore (· ∈ L) (tb.map (·.1)) rw pl ∧ WOk sl L ∧ F = wF p mt mp tb FS Fs
theorem RepW.mod {w w' : World} {p : Nat} {sl : Sl} {L : List Rw} {F G : List Nat} (h : RepW w p sl L F) (hm : Mod G w w') (hd : ∀ y ∈ F, y ∉ G) : RepW w' p sl L F := by
  obtain ⟨ps, mt, mp, tb, rw, pl, FS, Fs, c, h1, h2, h3, rfl⟩ := h
  exact ⟨ps, mt, mp, tb, rw, pl, FS, Fs, c, h1.mod hm hd, h2, h3, rfl⟩
theorem RepW.below {w w' : World} {p : Nat} {sl : Sl} {L : List Rw} {F : List Nat} (h : RepW w p sl L F) (hb : Below w.heap.size w w') : RepW w' p sl L F := h.mod (Mod.ofBelow hb) (by simp)
theorem RepW.lt {w : World} {p : Nat} {sl : Sl} {L : List Rw} {F : List Nat} (h : RepW w p sl L F) : ∀ y ∈ F, y < w.heap.size := by
  obtain ⟨ps, mt, mp, tb, rw, pl, FS, Fs, c, h1, h2, h3, rfl⟩ := h
  exact h1.lt
theorem RepW.ok {w : World} {p : Nat} {sl : Sl} {L : List Rw} {F : List Nat} (h : RepW w p sl L F) : WOk sl L := by
  obtain ⟨ps, mt, mp, tb, rw, pl, FS, Fs, c, h1, h2, h3, rfl⟩ := h
  exact h3
/-- What a call on a world leaves. -/
def WRet (p : Nat) (sl : Sl) (L : List Rw) (F : List Nat) (w : World) (r : Value) (e : Ending) (w' : World) : Prop := e = .returned r ∧ ∃ F', RepW w' p sl L F' ∧ Turns w F F' w'

theorem MapAt.fresh {w' : World} {b : Nat} (h : w'.heap[b]? = some (.map #[] 0)) : MapAt Try.prog 3 w' b [] := ⟨#[], 0, h, ⟨Go.MapKept.stamped_empty 0, by simp, rfl⟩⟩

def NewW (w : World) (e : Ending) (w' : World) : Prop := ∃ p F, e = .returned (.pointer (some ⟨p, 0, none⟩)) ∧ RepW w' p [] [] F ∧ (∀ y ∈ F, w.heap.size ≤ y) ∧ Below w.heap.size w w'
set_option maxRecDepth 20000 in
theorem worldNew_any (w : World) : Calls Try.prog 32 #[] w (NewW w) := by
  have hmm := @run_makeMap Try.prog
  go_enter Try.func32, Try.ntmps32
  go_wp2_with fail
  refine (slotsNew_any _).mono ?_
  rintro e w1 ⟨ps, rfl, hb1, hs1, hps⟩
  have hsz := hb1.size
  have hpl := hs1.lt ps (by simp)
  obtain ⟨w2, hw2⟩ : ∃ w2, w2 = ((w1.alloc (.map #[] 0)).alloc (.map #[] 0)).alloc (.cells #[.pointer (some ⟨ps, 0, none⟩), .map (some w1.heap.size), .map (some (w1.heap.size + 1))] 81) := ⟨_, rfl⟩
  have h0 : w2.heap[w1.heap.size]? = some (.map #[] 0) := by rw [hw2]; exact blk_alloc (blk_alloc (MapKept.heap_alloc w1 _).1 _) _
  have h1 : w2.heap[w1.heap.size + 1]? = some (.map #[] 0) := by rw [hw2]; have := (MapKept.heap_alloc (w1.alloc (.map #[] 0)) (.map #[] 0)).1; simp only [World.size_alloc] at this; exact blk_alloc this _
  have h2 : w2.heap[w1.heap.size + 2]? = some (.cells #[.pointer (some ⟨ps, 0, none⟩), .map (some w1.heap.size), .map (some (w1.heap.size + 1))] 81 (0, 0)) := by
    rw [hw2]; have := heap_alloc_new ((w1.alloc (.map #[] 0)).alloc (.map #[] 0)) (.cells #[.pointer (some ⟨ps, 0, none⟩), .map (some w1.heap.size), .map (some (w1.heap.size + 1))] 81); simpa using this
  have hb2 : Below w1.heap.size w1 w2 := by rw [hw2]; exact (((Below.refl _ _).alloc (Nat.le_refl _) _).alloc (by simp only [World.size_alloc]; omega) _).alloc (by simp only [World.size_alloc]; omega) _
  have HS := Lib.hid (hs1.mod (Mod.ofBelow hb2) (by simp)); have HB := Lib.hid (hb1.trans (hb2.mono hsz)); have HW := Lib.hid hw2
  have H0 := Lib.hid h0; have H1 := Lib.hid h1; have H2 := Lib.hid h2
  clear hs1 hb1 hw2 h0 h1 h2 hb2
  go_wp2
  go_ret
  rw [← HW.out]
  refine ⟨w1.heap.size + 2, wF (w1.heap.size + 2) w1.heap.size (w1.heap.size + 1) [] [ps] (fun _ => []), rfl, ⟨ps, w1.heap.size, w1.heap.size + 1, [], fun _ => [], [], [ps], fun _ => [], fun y => if y = w1.heap.size + 2 then 1 else if y = ps then 2 else if y = w1.heap.size then 3 else 4, ⟨H2.out, HS.out, MapAt.fresh H0.out, MapAt.fresh H1.out, by simp, by simp, fun y hy => ?_, ?_, ?_, by simp⟩, ?_, wok_nil, rfl⟩, ?_, HB.out⟩
  · simp at hy; subst hy; rw [if_neg (by omega), if_pos rfl]
  · show (if _ then _ else _) = 3
    rw [if_neg (by omega), if_neg (by omega), if_pos rfl]
  · show (if _ then _ else _) = 4
    rw [if_neg (by omega), if_neg (by omega), if_neg (by omega)]
  · exact wcore_nil.congr (by simp)
  · intro y hy
    rcases mem_wF.1 hy with rfl | rfl | rfl | hy | ⟨t, ht, -⟩
    · omega
    · omega
    · omega
    · simp at hy; omega
    · simp at ht

section
variable {w : World} {p ps mt mp : Nat} {sl : Sl} {tb : List (Nat × Nat)} {rw : Nat → List Rw} {pl : List Pl} {FS : List Nat} {Fs : Nat → List Nat} {c : Nat → Nat} {M : Rw → Prop} {L : List Rw}
theorem WCore.len (h : WCore M (tb.map (·.1)) rw pl) (hL : ∀ y, M y → y ∈ L) {k : Nat} (hk : k ∈ tb.map (·.1)) : (rw k).length ≤ L.length := by
  refine List.Nodup.length_le_of_subset ?_ fun y hy => ?_
  · refine List.pairwise_iff_getElem.2 fun i j hi hj hij e => ?_
    obtain ⟨-, -, s, q1, q2⟩ := h.row k hk i _ (List.getElem?_eq_getElem hi)
    obtain ⟨-, -, s', q3, q4⟩ := h.row k hk j _ (List.getElem?_eq_getElem hj)
    rw [e] at q1
    have : s = s' := by omega
    subst this
    have := key_one h.pn q2 q4
    simp only [Prod.mk.injEq] at this
    omega
  · obtain ⟨i, hi, rfl⟩ := List.mem_iff_getElem.1 hy
    exact hL _ (h.row k hk i _ (List.getElem?_eq_getElem hi)).1
/-- What lay and lift leave. -/
def WMid (p ps mt mp : Nat) (sl : Sl) (M : Rw → Prop) (F : List Nat) (w : World) (r : Value) (e : Ending) (w' : World) : Prop :=
  e = .returned r ∧ ∃ tb rw pl FS Fs c, WorldAt w' p ps mt mp sl tb rw pl FS Fs c ∧ WCore M (tb.map (·.1)) rw pl ∧ Turns w F (wF p mt mp tb FS Fs) w'
theorem lay_core (h : WorldAt w p ps mt mp sl tb rw pl FS Fs c) (hc : WCore M (tb.map (·.1)) rw pl) (hL : ∀ y, M y → y ∈ L) (hL60 : L.length ≤ 60) (s : Nat) (hs : s < 256) (g K a0 a1 a2 a3 a4 a5 a6 a7 : Int) (hb : beastZ (K, a0, a1, a2, a3, a4, a5, a6, a7) = 0)
    (hn : ∀ y, M y → y.1.1 ≠ (s : Int)) :
    Calls Try.prog 125 #[.pointer (some ⟨p, 0, none⟩), .agg #[.int .i64 (s : Int), .int .i64 g], .agg #[.int .i64 K, .int .i64 a0, .int .i64 a1, .int .i64 a2, .int .i64 a3, .int .i64 a4, .int .i64 a5, .int .i64 a6, .int .i64 a7]] w
      (WMid p ps mt mp sl (fun y => M y ∨ y = (((s : Int), g), K, a0, a1, a2, a3, a4, a5, a6, a7)) (wF p mt mp tb FS Fs) w (.tuple #[])) := by
  obtain ⟨kn, hkn, e, -⟩ := (beastZ_iff _).1 hb
  simp only at e
  subst e
  have hsn := hc.slotNew hn
  by_cases hk : kn ∈ tb.map (·.1)
  · obtain ⟨⟨k', b⟩, hkb, rfl⟩ := List.mem_map.1 hk
    have hl : (rw k').length ≤ L.length := hc.len hL hk
    refine (lay_old h s g k' b a0 a1 a2 a3 a4 a5 a6 a7 hkb hkn hb hs hsn (by omega)).mono ?_
    rintro e w' ⟨rfl, FS', Fs', c', h', hT⟩
    exact ⟨rfl, _, _, _, _, _, _, h', hc.layOld hk rfl rfl hn, hT⟩
  · refine (lay_new h s g kn a0 a1 a2 a3 a4 a5 a6 a7 (fun t ht e => hk (List.mem_map.2 ⟨t, ht, e⟩)) hkn hb hs hsn).mono ?_
    rintro e w' ⟨b, rfl, FS', Fs', c', h', hT⟩
    refine ⟨rfl, _, _, _, _, _, _, h', ?_, hT⟩
    rw [List.map_append]
    exact hc.layNew hk rfl rfl hn
theorem lift_core (h : WorldAt w p ps mt mp sl tb rw pl FS Fs c) (hc : WCore M (tb.map (·.1)) rw pl) (hL : ∀ y, M y → y ∈ L) (hL60 : L.length ≤ 60) (hsl : ∀ y, M y → ∃ s : Nat, s < 60 ∧ y.1.1 = (s : Int)) (hbe : ∀ y, M y → beastZ y.2 = 0)
    (s g K a0 a1 a2 a3 a4 a5 a6 a7 : Int) (hM : M ((s, g), K, a0, a1, a2, a3, a4, a5, a6, a7)) :
    Calls Try.prog 89 #[.pointer (some ⟨p, 0, none⟩), .agg #[.int .i64 s, .int .i64 g]] w
      (WMid p ps mt mp sl (fun y => M y ∧ y ≠ ((s, g), K, a0, a1, a2, a3, a4, a5, a6, a7)) (wF p mt mp tb FS Fs) w (.agg #[.int .i64 K, .int .i64 a0, .int .i64 a1, .int .i64 a2, .int .i64 a3, .int .i64 a4, .int .i64 a5, .int .i64 a6, .int .i64 a7])) := by
  obtain ⟨s0, kn, i, e1, hp, hx⟩ := hc.has _ hM
  simp only at e1
  subst e1
  obtain ⟨s1, hs1, e2⟩ := hsl _ hM
  simp only at e2
  obtain ⟨hk, -⟩ := hc.pla _ _ _ hp
  obtain ⟨-, e3, -⟩ := hc.row kn hk i _ hx
  simp only at e3
  subst e3
  obtain ⟨hg, hkn⟩ := beastZ_good (x := (((s0 : Int), g), (kn : Int), a0, a1, a2, a3, a4, a5, a6, a7)) (hbe _ hM) rfl
  obtain ⟨⟨k', b⟩, hkb, rfl⟩ := List.mem_map.1 hk
  have hl : (rw k').length ≤ L.length := hc.len hL hk
  have hil := (List.getElem?_eq_some_iff.1 hx).1
  refine (lift_any h s0 g k' b i a0 a1 a2 a3 a4 a5 a6 a7 hkb hkn (by omega) hp hx hg (by omega) (fun y hy => ?_)).mono ?_
  · have hil : i < (rw k').length := hil
    rw [remL_at hil] at hy
    split at hy
    · next hlt =>
      rw [if_pos rfl] at hy
      obtain ⟨q1, -, s2, q3, q4⟩ := hc.row _ hk _ y hy
      obtain ⟨s3, hs3, q5⟩ := hsl y q1
      refine ⟨s2, _, by omega, q3, q4, ?_⟩
      rintro rfl
      have := key_one hc.pn q4 hp
      simp only [Prod.mk.injEq] at this
      omega
    · cases hy
  · rintro e w' ⟨rfl, FS', Fs', c', h', hT⟩
    refine ⟨rfl, _, _, _, _, _, _, h', ?_, hT⟩
    rw [liftTb_keys]
    exact hc.lift hp hx
end
end Go.Proofs.Ytkcpmoinpdojjaa

/- Worlds: Spawn, Kill. (printed by mk_w7.py) -/
namespace Go.Proofs.Ytkcpmoinpdojjaa
open Go Go.RowKit

theorem box2 (w : World) (o1 o2 : Obj) : ∃ w0, (w.alloc o1).alloc o2 = w0 ∧ Below w.heap.size w w0 ∧ w0.heap[w.heap.size]? = some o1 ∧ w0.heap[w.heap.size + 1]? = some o2 ∧ w0.heap.size = w.heap.size + 2 :=
  ⟨_, rfl, ((Below.refl _ _).alloc (Nat.le_refl _) _).alloc (by simp) _, blk_alloc (MapKept.heap_alloc w o1).1 _, by have := (MapKept.heap_alloc (w.alloc o1) o2).1; simpa using this, by simp⟩
theorem box1 (w : World) (o1 : Obj) : ∃ w0, w.alloc o1 = w0 ∧ Below w.heap.size w w0 ∧ w0.heap[w.heap.size]? = some o1 ∧ w0.heap.size = w.heap.size + 1 :=
  ⟨_, rfl, (Below.refl _ _).alloc (Nat.le_refl _) _, (MapKept.heap_alloc w o1).1, by simp⟩

theorem rep_fin {w w1 w8 w9 : World} {p : Nat} {sl : Sl} {L : List Rw} {F F' Z : List Nat} (hb : Below w.heap.size w w1) (hZ : ∀ z ∈ Z, w.heap.size ≤ z ∧ z < w1.heap.size) (hF : ∀ y ∈ F, y < w.heap.size) (h : RepW w8 p sl L F') (hT : Turns w1 F F' w8) (hm : Mod Z w8 w9) :
    RepW w9 p sl L F' ∧ Turns w F F' w9 := by
  refine ⟨h.mod hm (fun y hy e => ?_), (Turns.after hb hT).mod.trans hm (fun x hx => .inr (hZ x hx).1), (Turns.after hb hT).new⟩
  have := hZ y e
  rcases hT.new y hy with h1 | h1
  · have := hF _ h1; omega
  · omega

attribute [local go_sem] AllFrom.cons_eq AllFrom.nil_eq putF_nil putF_cons wantedL_none wantedL_some OpGoalT OpGoalV OpGoalQ OpGoalA YieldsR preF_nil preF_cons

section
variable {w : World} {p : Nat} {sl : Sl} {L : List Rw} {F : List Nat}

set_option maxRecDepth 20000 in
set_option maxHeartbeats 4000000 in
theorem spawn_bad (h : RepW w p sl L F) (K a0 a1 a2 a3 a4 a5 a6 a7 : Int) (hb : beastZ (K, a0, a1, a2, a3, a4, a5, a6, a7) ≠ 0) :
    Calls Try.prog 80 #[.pointer (some ⟨p, 0, none⟩), .agg #[.int .i64 K, .int .i64 a0, .int .i64 a1, .int .i64 a2, .int .i64 a3, .int .i64 a4, .int .i64 a5, .int .i64 a6, .int .i64 a7]] w (WRet p sl L F w (.tuple #[.agg #[.int .i64 0, .int .i64 0], .int .i64 (beastZ (K, a0, a1, a2, a3, a4, a5, a6, a7))])) := by
  have h1 := fun w => checkBeast_any K a0 a1 a2 a3 a4 a5 a6 a7 w
  rw [show beastE K [a0, a1, a2, a3, a4, a5, a6, a7] = beastZ (K, a0, a1, a2, a3, a4, a5, a6, a7) from rfl] at h1
  generalize beastZ (K, a0, a1, a2, a3, a4, a5, a6, a7) = z at *
  have hq : (z != 0) = true := by simpa using hb
  obtain ⟨w0, hw0, hb0, hz0, hz1, hs0⟩ := box2 w (.cells #[.int .i64 K, .int .i64 a0, .int .i64 a1, .int .i64 a2, .int .i64 a3, .int .i64 a4, .int .i64 a5, .int .i64 a6, .int .i64 a7] 24) (.cells #[.int .i64 0, .int .i64 0] 45)
  have q0 := blk_cell hz0 0
  have q1 := blk_cell hz0 1
  have q2 := blk_cell hz0 2
  have q3 := blk_cell hz0 3
  have q4 := blk_cell hz0 4
  have q5 := blk_cell hz0 5
  have q6 := blk_cell hz0 6
  have q7 := blk_cell hz0 7
  have q8 := blk_cell hz0 8
  simp only [List.getElem?_toArray, List.getElem?_cons_zero, List.getElem?_cons_succ] at q0 q1 q2 q3 q4 q5 q6 q7 q8
  have ql := blk_lt hz0
  have H := Lib.hid h; have H1 := Lib.hid h1; have Hb0 := Lib.hid hb0; have Hz1 := Lib.hid hz1; have Hs0 := Lib.hid hs0
  clear h h1 hb0 hz1 hs0
  clear hb hz0
  go_enter Try.func80, Try.ntmps80
  go_wp2_with fail
  clear hw0
  refine (H1.out _).mono ?_
  rintro e w1 ⟨rfl, hb1⟩
  have hy1 := (Mod.ofBelow hb1).keep Hz1.out (by simp)
  have r0 := blk_cell hy1 0
  have r1 := blk_cell hy1 1
  simp only [List.getElem?_toArray, List.getElem?_cons_zero, List.getElem?_cons_succ] at r0 r1
  have rl := blk_lt hy1
  have f0 := blk_free hy1 0
  have f1 := blk_free hy1 1
  have hb01 := Hb0.out.trans (hb1.mono Hb0.out.size)
  have hsz := hb1.size
  have hs0 := Hs0.out
  have HFin := Lib.hid (fun w9 (hm : Mod [w.heap.size + 1] w1 w9) => rep_fin hb01 (Z := [w.heap.size + 1]) (by simp; omega) H.out.lt (H.out.below hb01) (Turns.refl _ _) hm)
  clear hb1 hb01 hy1 q0 q1 q2 q3 q4 q5 q6 q7 q8 ql hs0
  go_wp2
  refine bodyPost_ret (v := .tuple #[.agg #[.int .i64 0, .int .i64 0], .int .i64 z]) (by unfold results; try go_simp) rfl ?_
  refine ⟨rfl, F, HFin.out _ ?_⟩
  repeat (refine Mod.setCell ?_ (.inl (by simp)) _)
  exact Mod.refl _ _

set_option maxRecDepth 20000 in
set_option maxHeartbeats 4000000 in
theorem spawn_full (h : RepW w p sl L F) (K a0 a1 a2 a3 a4 a5 a6 a7 : Int) (hb : beastZ (K, a0, a1, a2, a3, a4, a5, a6, a7) = 0) (ht : takeE sl ≠ 0) :
    Calls Try.prog 80 #[.pointer (some ⟨p, 0, none⟩), .agg #[.int .i64 K, .int .i64 a0, .int .i64 a1, .int .i64 a2, .int .i64 a3, .int .i64 a4, .int .i64 a5, .int .i64 a6, .int .i64 a7]] w (WRet p (takeL sl) L F w (.tuple #[.agg #[.int .i64 (takeK sl), .int .i64 (takeG sl)], .int .i64 (takeE sl)])) := by
  have h1 := fun w => checkBeast_any K a0 a1 a2 a3 a4 a5 a6 a7 w
  rw [show beastE K [a0, a1, a2, a3, a4, a5, a6, a7] = beastZ (K, a0, a1, a2, a3, a4, a5, a6, a7) from rfl, hb] at h1
  have hq : (takeE sl == 0) = false := by simpa using ht
  have htl : takeL sl = sl := by
    unfold takeE at ht; unfold takeL
    cases hf : sl.findIdx? freeB with
    | some k => rw [hf] at ht; simp at ht
    | none =>
      rw [hf] at ht
      simp only at ht ⊢
      by_cases h60 : sl.length = 60
      · rw [if_pos h60]
      · rw [if_neg h60] at ht; simp at ht
  obtain ⟨w0, hw0, hb0, hz0, hz1, hs0⟩ := box2 w (.cells #[.int .i64 K, .int .i64 a0, .int .i64 a1, .int .i64 a2, .int .i64 a3, .int .i64 a4, .int .i64 a5, .int .i64 a6, .int .i64 a7] 24) (.cells #[.int .i64 0, .int .i64 0] 45)
  have q0 := blk_cell hz0 0
  have q1 := blk_cell hz0 1
  have q2 := blk_cell hz0 2
  have q3 := blk_cell hz0 3
  have q4 := blk_cell hz0 4
  have q5 := blk_cell hz0 5
  have q6 := blk_cell hz0 6
  have q7 := blk_cell hz0 7
  have q8 := blk_cell hz0 8
  simp only [List.getElem?_toArray, List.getElem?_cons_zero, List.getElem?_cons_succ] at q0 q1 q2 q3 q4 q5 q6 q7 q8
  have ql := blk_lt hz0
  have hFlt := h.lt
  obtain ⟨ps, mt, mp, tb, rw, pl, FS, Fs, c, hW, hC, hO, rfl⟩ := h
  have HW := Lib.hid hW; have HC := Lib.hid hC; have HO := Lib.hid hO; have H1 := Lib.hid h1; have Hb0 := Lib.hid hb0; have Hz1 := Lib.hid hz1; have Hs0 := Lib.hid hs0; have Htl := Lib.hid htl; have HFlt := Lib.hid hFlt
  clear hW hC hO h1 hb0 hz1 hs0 htl hFlt
  clear hb hz0 ht
  go_enter Try.func80, Try.ntmps80
  go_wp2_with fail
  clear hw0
  refine (H1.out _).mono ?_
  rintro e w1 ⟨rfl, hb1⟩
  have hb01 := Hb0.out.trans (hb1.mono Hb0.out.size)
  have hW1 := HW.out.below hb01
  have e0 := blk_cell hW1.blk 0
  simp only [List.getElem?_toArray, List.getElem?_cons_zero, List.getElem?_cons_succ] at e0
  have hpl := blk_lt hW1.blk
  have hy1 := (Mod.ofBelow hb1).keep Hz1.out (by simp)
  have H2 := Lib.hid (take_any ps sl FS w1 hW1.sl HO.out.ok)
  have Hb01 := Lib.hid hb01; have HW1 := Lib.hid hW1; have Hy1 := Lib.hid hy1
  clear hb01 hW1 hy1
  clear hb1 q0 q1 q2 q3 q4 q5 q6 q7 q8 ql
  go_wp2_with fail
  refine H2.out.mono ?_
  rintro e w2 ⟨rfl, F2, hs2, hT2⟩
  obtain ⟨hW2, hT⟩ := HW1.out.turnSl hs2 hT2
  have hFS : ∀ y, w.heap.size ≤ y → y ∉ FS := fun y hy e => by have := HFlt.out y (mem_wF.2 (.inr (.inr (.inr (.inl e))))); omega
  have hy2 := hT2.mod.keep Hy1.out (hFS _ (by omega))
  have r0 := blk_cell hy2 0
  have r1 := blk_cell hy2 1
  simp only [List.getElem?_toArray, List.getElem?_cons_zero, List.getElem?_cons_succ] at r0 r1
  have rl := blk_lt hy2
  have f0 := blk_free hy2 0
  have f1 := blk_free hy2 1
  have hs0 := Hs0.out
  have hb := Hb01.out
  have hl1 := blk_lt Hy1.out
  rw [Htl.out] at hW2
  have HFin := Lib.hid (fun w9 (hm : Mod [w.heap.size + 1] w2 w9) => rep_fin hb (Z := [w.heap.size + 1]) (by simp; omega) HFlt.out ⟨ps, mt, mp, tb, rw, pl, F2, Fs, _, hW2, HC.out, HO.out, rfl⟩ hT hm)
  clear hs2 hT2 hW2 hT hFS hy2 e0 hs0 hb
  go_wp2
  refine bodyPost_ret (v := .tuple #[.agg #[.int .i64 (takeK sl), .int .i64 (takeG sl)], .int .i64 (takeE sl)]) (by unfold results; try go_simp) rfl ?_
  rw [Htl.out]
  refine ⟨rfl, _, HFin.out _ ?_⟩
  refine Mod.alloc ?_ _
  repeat (refine Mod.setCell ?_ (.inl (by simp)) _)
  exact Mod.refl _ _

set_option maxRecDepth 20000 in
set_option maxHeartbeats 4000000 in
theorem spawn_ok (h : RepW w p sl L F) (K a0 a1 a2 a3 a4 a5 a6 a7 : Int) (hb : beastZ (K, a0, a1, a2, a3, a4, a5, a6, a7) = 0) (ht : takeE sl = 0) :
    Calls Try.prog 80 #[.pointer (some ⟨p, 0, none⟩), .agg #[.int .i64 K, .int .i64 a0, .int .i64 a1, .int .i64 a2, .int .i64 a3, .int .i64 a4, .int .i64 a5, .int .i64 a6, .int .i64 a7]] w (WRet p (takeL sl) (insR L ((takeK sl, takeG sl), K, a0, a1, a2, a3, a4, a5, a6, a7)) F w (.tuple #[.agg #[.int .i64 (takeK sl), .int .i64 (takeG sl)], .int .i64 0])) := by
  have h1 := fun w => checkBeast_any K a0 a1 a2 a3 a4 a5 a6 a7 w
  rw [show beastE K [a0, a1, a2, a3, a4, a5, a6, a7] = beastZ (K, a0, a1, a2, a3, a4, a5, a6, a7) from rfl, hb] at h1
  obtain ⟨w0, hw0, hb0, hz0, hz1, hs0⟩ := box2 w (.cells #[.int .i64 K, .int .i64 a0, .int .i64 a1, .int .i64 a2, .int .i64 a3, .int .i64 a4, .int .i64 a5, .int .i64 a6, .int .i64 a7] 24) (.cells #[.int .i64 0, .int .i64 0] 45)
  have q0 := blk_cell hz0 0
  have q1 := blk_cell hz0 1
  have q2 := blk_cell hz0 2
  have q3 := blk_cell hz0 3
  have q4 := blk_cell hz0 4
  have q5 := blk_cell hz0 5
  have q6 := blk_cell hz0 6
  have q7 := blk_cell hz0 7
  have q8 := blk_cell hz0 8
  simp only [List.getElem?_toArray, List.getElem?_cons_zero, List.getElem?_cons_succ] at q0 q1 q2 q3 q4 q5 q6 q7 q8
  have ql := blk_lt hz0
  have hFlt := h.lt
  obtain ⟨ps, mt, mp, tb, rw, pl, FS, Fs, c, hW, hC, hO, rfl⟩ := h
  obtain ⟨k, hk60, hk, hkn, -⟩ := take_spec hO.ok ht
  have hTk := take_any ps sl FS
  unfold TakePost at hTk
  rw [ht, hk] at hTk
  rw [hk]
  have hO2 := hO.spawn ht hb
  rw [hk] at hO2
  generalize takeK sl = tk at *
  generalize takeG sl = tg at *
  have HW := Lib.hid hW; have HC := Lib.hid hC; have HO := Lib.hid hO; have H1 := Lib.hid h1; have Hb0 := Lib.hid hb0; have Hz0 := Lib.hid hz0; have Hz1 := Lib.hid hz1; have Hs0 := Lib.hid hs0; have HFlt := Lib.hid hFlt; have HTk := Lib.hid hTk; have HO2 := Lib.hid hO2; have Hkn := Lib.hid hkn; have Hb := Lib.hid hb; have Hk60 := Lib.hid hk60
  clear hW hC hO h1 hb0 hz0 hz1 hs0 hFlt hTk hO2 hkn hb hk60
  clear ht hk
  go_enter Try.func80, Try.ntmps80
  go_wp2_with fail
  clear hw0
  refine (H1.out _).mono ?_
  rintro e w1 ⟨rfl, hb1⟩
  have hb01 := Hb0.out.trans (hb1.mono Hb0.out.size)
  have hW1 := HW.out.below hb01
  have e0 := blk_cell hW1.blk 0
  simp only [List.getElem?_toArray, List.getElem?_cons_zero, List.getElem?_cons_succ] at e0
  have hpl := blk_lt hW1.blk
  have hy0 := (Mod.ofBelow hb1).keep Hz0.out (by simp)
  have hy1 := (Mod.ofBelow hb1).keep Hz1.out (by simp)
  have H2 := Lib.hid (HTk.out w1 hW1.sl HO.out.ok)
  have hsz01 : w0.heap.size ≤ w1.heap.size := hb1.size
  have Hb01 := Lib.hid hb01; have HW1 := Lib.hid hW1; have Hy0 := Lib.hid hy0; have Hy1 := Lib.hid hy1
  clear hb01 hW1 hy0 hy1
  clear hb1 q0 q1 q2 q3 q4 q5 q6 q7 q8 ql
  go_wp2_with fail
  refine H2.out.mono ?_
  rintro e w2 ⟨rfl, F2, hs2, hT2⟩
  obtain ⟨hW2, hT⟩ := HW1.out.turnSl hs2 hT2
  have hFS : ∀ y, w.heap.size ≤ y → y ∉ FS := fun y hy e => by have := HFlt.out y (mem_wF.2 (.inr (.inr (.inr (.inl e))))); omega
  obtain ⟨w3, hw3, hb3, hx3, hs3⟩ := box1 w2 (.cells #[.int .i64 (k : Int), .int .i64 tg] 45)
  have hy2 := (Mod.ofBelow hb3).keep (hT2.mod.keep Hy0.out (hFS _ (by omega))) (by simp)
  have hy3 := (Mod.ofBelow hb3).keep (hT2.mod.keep Hy1.out (hFS _ (by omega))) (by simp)
  have q0 := blk_cell hy2 0
  have q1 := blk_cell hy2 1
  have q2 := blk_cell hy2 2
  have q3 := blk_cell hy2 3
  have q4 := blk_cell hy2 4
  have q5 := blk_cell hy2 5
  have q6 := blk_cell hy2 6
  have q7 := blk_cell hy2 7
  have q8 := blk_cell hy2 8
  simp only [List.getElem?_toArray, List.getElem?_cons_zero, List.getElem?_cons_succ] at q0 q1 q2 q3 q4 q5 q6 q7 q8
  have ql := blk_lt hy2
  have r0 := blk_cell hx3 0
  have r1 := blk_cell hx3 1
  simp only [List.getElem?_toArray, List.getElem?_cons_zero, List.getElem?_cons_succ] at r0 r1
  have rl := blk_lt hx3
  have hT3 := hT.below hb3
  have hW3 := hW2.below hb3
  have H4 := Lib.hid (lay_core (L := L) hW3 HC.out (fun y hy => hy) HO.out.len k (by have := Hk60.out; omega) tg K a0 a1 a2 a3 a4 a5 a6 a7 Hb.out (fun y hy e => Hkn.out y.1 (by rw [← HO.out.hs]; exact List.mem_map.2 ⟨y, hy, rfl⟩) e))
  have hlw := hW2.lt
  have hsz12 : w1.heap.size ≤ w2.heap.size := hT2.mod.size
  have HT3 := Lib.hid hT3; have HW3 := Lib.hid hW3; have Hx3 := Lib.hid hx3; have Hy3 := Lib.hid hy3; have Hlw := Lib.hid hlw; have Hs3 := Lib.hid hs3
  clear hT3 hW3 hx3 hy3 hlw hs3
  clear hs2 hT2 hW2 hT hFS hy2 e0 hb3
  go_wp2_with fail
  clear hw3
  refine H4.out.mono ?_
  rintro e w4 ⟨rfl, tb4, rw4, pl4, FS4, Fs4, c4, hW4, hC4, hT4⟩
  have hno : ∀ y, y ∈ wF p mt mp tb F2 Fs → (w.heap.size ≤ y ∧ y < w1.heap.size → False) := fun y hy ⟨e1, e2⟩ => by
    rcases HT3.out.new y hy with h1 | h1
    · have := HFlt.out y h1; omega
    · omega
  have hs0 := Hs0.out
  have hl1 := blk_lt Hy1.out
  have hx4 := hT4.mod.keep Hx3.out (fun e => by have := Hlw.out _ e; omega)
  have hy4 := hT4.mod.keep Hy3.out (fun e => hno _ e ⟨by omega, by omega⟩)
  have r0 := blk_cell hx4 0
  have r1 := blk_cell hx4 1
  simp only [List.getElem?_toArray, List.getElem?_cons_zero, List.getElem?_cons_succ] at r0 r1
  have rl := blk_lt hx4
  have u0 := blk_cell hy4 0
  have u1 := blk_cell hy4 1
  simp only [List.getElem?_toArray, List.getElem?_cons_zero, List.getElem?_cons_succ] at u0 u1
  have ul := blk_lt hy4
  have f0 := blk_free hy4 0
  have f1 := blk_free hy4 1
  have hsw2 : w0.heap.size ≤ w2.heap.size := by omega
  have n1 : w2.heap.size ≠ w.heap.size + 1 := by omega
  have n2 : w.heap.size + 1 ≠ w2.heap.size := by omega
  have hR4 : RepW w4 p (takeL sl) (insR L (((k : Int), tg), K, a0, a1, a2, a3, a4, a5, a6, a7)) (wF p mt mp tb4 FS4 Fs4) := ⟨ps, mt, mp, tb4, rw4, pl4, FS4, Fs4, c4, hW4, hC4.congr (fun x => mem_insR.symm), HO2.out, rfl⟩
  have hb := Hb01.out
  have HFin := Lib.hid (fun w9 (hm : Mod [w.heap.size + 1] w4 w9) => rep_fin hb (Z := [w.heap.size + 1]) (by simp; omega) HFlt.out hR4 (HT3.out.trans hT4) hm)
  clear hW4 hC4 hT4 hno hx4 hy4 hs0 hR4 hb q0 q1 q2 q3 q4 q5 q6 q7 q8 ql
  go_wp2
  refine bodyPost_ret (v := .tuple #[.agg #[.int .i64 (k : Int), .int .i64 tg], .int .i64 0]) (by unfold results; try go_simp) rfl ?_
  refine ⟨rfl, _, HFin.out _ ?_⟩
  repeat (refine Mod.setCell ?_ (.inl (by simp)) _)
  exact Mod.refl _ _
end
end Go.Proofs.Ytkcpmoinpdojjaa
