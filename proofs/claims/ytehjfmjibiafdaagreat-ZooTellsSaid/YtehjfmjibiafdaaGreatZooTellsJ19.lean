import Derived.Test.YtehjfmjibiafdaaGreatZooTellsJ18
/- Worlds as plain lists: slots and rows in order of slots; what the calls make of them. -/
namespace Go.Proofs.YtehjfmjibiafdaaGreat
open Go Go.RowKit

def beastZ : Bt → Int
  | (K, a0, a1, a2, a3, a4, a5, a6, a7) => beastE K [a0, a1, a2, a3, a4, a5, a6, a7]
theorem beastGo_iff (K : Int) : ∀ (vs : List Int) (k : Nat), beastGo K k vs = 0 ↔ ∀ i, i < vs.length → (hasK K (k + i) = false → vs.getD i 0 = 0) ∧ ¬ (vs.getD i 0 < -1000000000 ∨ 1000000000 < vs.getD i 0)
  | [], _ => by simp [beastGo]
  | v :: vs, k => by
    have ih := beastGo_iff K vs (k + 1)
    rw [beastGo]
    constructor
    · intro h i hi
      by_cases h1 : hasK K k = false ∧ v ≠ 0
      · rw [if_pos h1] at h; simp at h
      · rw [if_neg h1] at h
        by_cases h2 : v < -1000000000 ∨ 1000000000 < v
        · rw [if_pos h2] at h; simp at h
        · rw [if_neg h2] at h
          match i with
          | 0 => exact ⟨fun hk => Decidable.byContradiction fun e => h1 ⟨hk, e⟩, h2⟩
          | i + 1 =>
            have := ih.1 h i (by simpa using hi)
            rw [show k + 1 + i = k + (i + 1) by omega] at this
            exact this
    · intro h
      have h0 : (hasK K k = false → v = 0) ∧ ¬ (v < -1000000000 ∨ 1000000000 < v) := h 0 (by simp)
      rw [if_neg (fun e => e.2 (h0.1 e.1)), if_neg h0.2]
      refine ih.2 fun i hi => ?_
      have := h (i + 1) (by simpa using hi)
      rw [show k + 1 + i = k + (i + 1) by omega]
      exact this
theorem beastZ_iff (b : Bt) : beastZ b = 0 ↔ ∃ kn : Nat, kn < 256 ∧ b.1 = (kn : Int) ∧ ∀ k, k < 8 → (kn.testBit k = false → valK k b = 0) ∧ ¬ (valK k b < -1000000000 ∨ 1000000000 < valK k b) := by
  obtain ⟨K, a0, a1, a2, a3, a4, a5, a6, a7⟩ := b
  show (if isSetB K = true then beastGo K 0 [a0, a1, a2, a3, a4, a5, a6, a7] else (1 : Int)) = 0 ↔ _
  constructor
  · intro h
    by_cases hs : isSetB K = true
    · rw [if_pos hs, beastGo_iff] at h
      obtain ⟨m, rfl, hm⟩ := isSetB_nat hs
      refine ⟨m, hm, rfl, fun k hk => ?_⟩
      have := h k (by simpa using hk)
      rw [Nat.zero_add, hasK_nat m k hm] at this
      exact this
    · rw [if_neg hs] at h; simp at h
  · rintro ⟨kn, hkn, e, h⟩
    simp only at e
    subst e
    rw [if_pos (isSetB_t _ (by omega) (by omega)), beastGo_iff]
    intro i hi
    rw [Nat.zero_add, hasK_nat kn i hkn]
    exact h i (by simpa using hi)
theorem beastZ_good {x : Rw} {kn : Nat} (h : beastZ x.2 = 0) (hk : x.2.1 = (kn : Int)) : GoodR kn x ∧ kn < 256 := by
  obtain ⟨m, hm, e, hv⟩ := (beastZ_iff _).1 h
  have : m = kn := by omega
  subst this
  exact ⟨⟨hk, fun k hk hb => (hv k hk).1 hb⟩, hm⟩

/-! In order of slots. -/
def insH (l : List Hd) (x : Hd) : List Hd := l.takeWhile (fun y => decide (y.1 < x.1)) ++ x :: l.dropWhile (fun y => decide (y.1 < x.1))
def insR (l : List Rw) (x : Rw) : List Rw := l.takeWhile (fun y => decide (y.1.1 < x.1.1)) ++ x :: l.dropWhile (fun y => decide (y.1.1 < x.1.1))
theorem insR_map (l : List Rw) (x : Rw) : (insR l x).map (·.1) = insH (l.map (·.1)) x.1 := by
  unfold insR insH
  rw [List.map_append, List.map_cons, List.takeWhile_map, List.dropWhile_map]
  rfl
theorem mem_insR {l : List Rw} {x y : Rw} : y ∈ insR l x ↔ y ∈ l ∨ y = x := by
  unfold insR
  rw [List.mem_append, List.mem_cons]
  conv => rhs; rw [← List.takeWhile_append_dropWhile (p := fun y : Rw => decide (y.1.1 < x.1.1)) (l := l)]
  rw [List.mem_append]
  constructor
  · rintro (h | rfl | h)
    · exact .inl (.inl h)
    · exact .inr rfl
    · exact .inl (.inr h)
  · rintro ((h | h) | rfl)
    · exact .inl h
    · exact .inr (.inr h)
    · exact .inr (.inl rfl)
theorem ins_split {a b : List Hd} {x : Hd} (ha : ∀ y ∈ a, y.1 < x.1) (hb : ∀ y ∈ b, ¬ y.1 < x.1) : insH (a ++ b) x = a ++ x :: b := by
  have h1 : (a ++ b).takeWhile (fun y => decide (y.1 < x.1)) = a := by
    rw [List.takeWhile_append_of_pos (fun y hy => by simpa using ha y hy)]
    cases b with
    | nil => simp
    | cons z b => rw [List.takeWhile_cons_of_neg (by simpa using hb z (by simp))]; simp
  have h2 : (a ++ b).dropWhile (fun y => decide (y.1 < x.1)) = b := by
    rw [List.dropWhile_append_of_pos (fun y hy => by simpa using ha y hy)]
    cases b with
    | nil => rfl
    | cons z b => rw [List.dropWhile_cons_of_neg (by simpa using hb z (by simp))]
  unfold insH
  rw [h1, h2]
theorem allFrom_lo {l : Sl} {k : Nat} {h : Hd} (hh : h ∈ allFrom k l) : (k : Int) ≤ h.1 ∧ h.1 < ((k + l.length : Nat) : Int) := by
  obtain ⟨s, g⟩ := h
  obtain ⟨j, rfl, hj, -⟩ := (mem_allFrom l k s g).1 hh
  exact ⟨by simp only; omega, by simp only; omega⟩
theorem allFrom_sorted : ∀ (l : Sl) (k : Nat), (allFrom k l).Pairwise (fun a b => a.1 < b.1)
  | [], _ => by simp [allFrom]
  | x :: l, k => by
    rw [allFrom]
    split
    · rw [List.singleton_append, List.pairwise_cons]
      exact ⟨fun y hy => by have := (allFrom_lo hy).1; simp only; omega, allFrom_sorted l (k + 1)⟩
    · rw [List.nil_append]; exact allFrom_sorted l (k + 1)
theorem get_split {α : Type} {l : List α} {k : Nat} (hk : k < l.length) : l = l.take k ++ l[k] :: l.drop (k + 1) := by
  rw [← List.drop_eq_getElem_cons hk, List.take_append_drop]
theorem set_split {α : Type} {l : List α} {k : Nat} (hk : k < l.length) (y : α) : l.set k y = l.take k ++ y :: l.drop (k + 1) := by
  rw [List.set_eq_take_append_cons_drop, if_pos hk]
theorem take_spec {sl : Sl} (hok : SlOk sl) (he : takeE sl = 0) : ∃ k : Nat, k < 60 ∧ takeK sl = (k : Int) ∧ (∀ h ∈ allS sl, h.1 ≠ (k : Int)) ∧ allS (takeL sl) = insH (allS sl) ((k : Int), takeG sl) := by
  unfold takeE at he
  cases hf : sl.findIdx? freeB with
  | some k =>
    obtain ⟨hk, hp⟩ := fi_lt hf
    have hk60 := hok.1
    have h2 : sl[k].2 = false := by unfold freeB at hp; simp only [Bool.and_eq_true, Bool.not_eq_true'] at hp; exact hp.1
    have e1 : allS sl = allS (sl.take k) ++ allFrom (k + 1) (sl.drop (k + 1)) := by
      conv => lhs; rw [get_split hk]
      unfold allS
      rw [allFrom_append, List.length_take, Nat.min_eq_left (by omega), allFrom, h2]
      simp
    have e2 : takeL sl = sl.set k (sl[k].1, true) := by unfold takeL; rw [hf]; simp only; rw [List.getD_eq_getElem?_getD, List.getElem?_eq_getElem hk]; rfl
    have e3 : takeG sl = sl[k].1 := by unfold takeG; rw [hf]; simp only; rw [List.getD_eq_getElem?_getD, List.getElem?_eq_getElem hk]; rfl
    have ha : ∀ y ∈ allS (sl.take k), y.1 < (k : Int) := fun y hy => by have := (allFrom_lo hy).2; rw [List.length_take] at this; omega
    have hb : ∀ y ∈ allFrom (k + 1) (sl.drop (k + 1)), (k : Int) < y.1 := fun y hy => by have := (allFrom_lo hy).1; omega
    refine ⟨k, by omega, by unfold takeK; rw [hf], ?_, ?_⟩
    · intro h hh
      rw [e1] at hh
      rcases List.mem_append.1 hh with hh | hh
      · have := ha h hh; omega
      · have := hb h hh; omega
    · rw [e1, ins_split ha (fun y hy => by have := hb y hy; simp only; omega), e2, e3, set_split hk]
      unfold allS
      rw [allFrom_append, List.length_take, Nat.min_eq_left (by omega), allFrom]
      simp
  | none =>
    rw [hf] at he
    simp only at he
    by_cases h60 : sl.length = 60
    · rw [if_pos h60] at he; simp at he
    · have hk60 := hok.1
      have ha : ∀ y ∈ allS sl, y.1 < (sl.length : Int) := fun y hy => by have := (allFrom_lo hy).2; omega
      refine ⟨sl.length, by omega, by unfold takeK; rw [hf]; simp only; rw [if_neg h60], fun h hh => by have := ha h hh; omega, ?_⟩
      have e := ins_split (a := allS sl) (b := []) (x := ((sl.length : Int), takeG sl)) ha (by simp)
      rw [List.append_nil] at e
      rw [e]
      have e2 : takeL sl = sl ++ [(0, true)] := by unfold takeL; rw [hf]; simp only; rw [if_neg h60]
      have e3 : takeG sl = 0 := by unfold takeG; rw [hf]
      rw [e2, e3]
      unfold allS
      rw [allFrom_append]
      simp [allFrom]
theorem free_spec {sl : Sl} {s g : Int} (h : liveB sl s g = true) : allS (freeL sl s g) = (allS sl).filter (fun x => decide (x ≠ (s, g))) := by
  obtain ⟨h0, hk, he⟩ := liveB_lt h
  obtain ⟨k, rfl⟩ := Int.eq_ofNat_of_zero_le h0
  rw [Int.toNat_natCast] at hk
  simp only [Int.toNat_natCast] at he
  unfold freeL
  rw [if_pos h, Int.toNat_natCast, set_split hk]
  have ha : ∀ y ∈ allS (sl.take k), decide (y ≠ ((k : Int), g)) = true := fun y hy => by
    have := (allFrom_lo hy).2; rw [List.length_take] at this
    simp only [ne_eq, decide_eq_true_eq]; rintro rfl; simp only at this; omega
  have hb : ∀ y ∈ allFrom (k + 1) (sl.drop (k + 1)), decide (y ≠ ((k : Int), g)) = true := fun y hy => by
    have := (allFrom_lo hy).1
    simp only [ne_eq, decide_eq_true_eq]; rintro rfl; simp only at this; omega
  have e1 : allS sl = allS (sl.take k) ++ ((k : Int), g) :: allFrom (k + 1) (sl.drop (k + 1)) := by
    conv => lhs; rw [get_split hk]
    unfold allS
    rw [allFrom_append, List.length_take, Nat.min_eq_left (by omega), allFrom, he]
    simp
  rw [e1, List.filter_append, List.filter_cons, List.filter_eq_self.2 ha, List.filter_eq_self.2 hb]
  unfold allS
  rw [allFrom_append, List.length_take, Nat.min_eq_left (by omega), allFrom]
  simp

/-- Rows beside slots. -/
structure WOk (sl : Sl) (L : List Rw) : Prop where
  ok : SlOk sl
  hs : L.map (·.1) = allS sl
  be : ∀ x ∈ L, beastZ x.2 = 0
section
variable {sl : Sl} {L : List Rw}
theorem wok_nil : WOk [] [] := ⟨slOk_nil, rfl, by simp⟩
theorem WOk.len (h : WOk sl L) : L.length ≤ 60 := by
  have := congrArg List.length h.hs
  rw [List.length_map] at this
  have h1 := allS_len sl
  have := h.ok.1
  omega
theorem WOk.slot (h : WOk sl L) {x : Rw} (hx : x ∈ L) : ∃ s : Nat, s < 60 ∧ x.1.1 = (s : Int) := by
  have : x.1 ∈ allS sl := by rw [← h.hs]; exact List.mem_map.2 ⟨x, hx, rfl⟩
  obtain ⟨h1, h2⟩ := allFrom_lo this
  have := h.ok.1
  exact ⟨x.1.1.toNat, by omega, by omega⟩
theorem WOk.sorted (h : WOk sl L) : L.Pairwise (fun a b => a.1.1 < b.1.1) := by
  have := allFrom_sorted sl 0
  rw [show allFrom 0 sl = L.map (·.1) from h.hs.symm, List.pairwise_map] at this
  exact this
theorem WOk.one (h : WOk sl L) {x y : Rw} (hx : x ∈ L) (hy : y ∈ L) (e : x.1.1 = y.1.1) : x = y := by
  obtain ⟨i, hi, rfl⟩ := List.mem_iff_getElem.1 hx
  obtain ⟨j, hj, rfl⟩ := List.mem_iff_getElem.1 hy
  have hp := List.pairwise_iff_getElem.1 h.sorted
  rcases Nat.lt_trichotomy i j with h1 | h1 | h1
  · have := hp i j hi hj h1; omega
  · subst h1; rfl
  · have := hp j i hj hi h1; omega
theorem WOk.live (h : WOk sl L) (s g : Int) : liveB sl s g = true ↔ ∃ x ∈ L, x.1 = (s, g) := by
  rw [liveB_iff, ← h.hs, List.mem_map]
theorem WOk.spawn (h : WOk sl L) (he : takeE sl = 0) {b : Bt} (hb : beastZ b = 0) : WOk (takeL sl) (insR L ((takeK sl, takeG sl), b)) := by
  obtain ⟨k, -, hk, -, ha⟩ := take_spec h.ok he
  refine ⟨h.ok.take, ?_, fun x hx => ?_⟩
  · rw [insR_map, h.hs, ha, hk]
  · rcases mem_insR.1 hx with hx | rfl
    · exact h.be x hx
    · exact hb
theorem WOk.kill (h : WOk sl L) {s g : Int} (hl : liveB sl s g = true) : WOk (freeL sl s g) (L.filter (fun x => decide (x.1 ≠ (s, g)))) := by
  refine ⟨h.ok.free s g, ?_, fun x hx => h.be x (List.mem_filter.1 hx).1⟩
  rw [free_spec hl, ← h.hs, List.filter_map]; rfl
theorem WOk.set (h : WOk sl L) {i : Nat} {x' : Rw} (hi : i < L.length) (h1 : x'.1 = L[i].1) (hb : beastZ x'.2 = 0) : WOk sl (L.set i x') := by
  refine ⟨h.ok, ?_, fun x hx => ?_⟩
  · rw [← h.hs]
    apply List.ext_getElem?
    intro j
    rw [List.getElem?_map, List.getElem?_map, List.getElem?_set]
    by_cases e : i = j
    · subst e; simp [hi, h1]
    · simp [e]
  · rcases List.mem_or_eq_of_mem_set hx with hx | rfl
    · exact h.be x hx
    · exact hb
theorem WOk.mem_set (h : WOk sl L) {i : Nat} {x' : Rw} (hi : i < L.length) (h1 : x'.1 = L[i].1) (y : Rw) : y ∈ L.set i x' ↔ (y ∈ L ∧ y ≠ L[i]) ∨ y = x' := by
  rw [set_split hi]
  constructor
  · intro hy
    rcases List.mem_append.1 hy with hy | hy
    · left
      obtain ⟨j, hj, e⟩ := List.mem_iff_getElem.1 hy
      rw [List.length_take] at hj
      rw [List.getElem_take] at e
      refine ⟨List.mem_of_mem_take hy, fun e2 => ?_⟩
      have := List.pairwise_iff_getElem.1 h.sorted j i (by omega) hi (by omega)
      rw [e, e2] at this; omega
    · rcases List.mem_cons.1 hy with rfl | hy
      · exact .inr rfl
      · left
        obtain ⟨j, hj, e⟩ := List.mem_iff_getElem.1 hy
        rw [List.length_drop] at hj
        rw [List.getElem_drop] at e
        refine ⟨List.mem_of_mem_drop hy, fun e2 => ?_⟩
        have := List.pairwise_iff_getElem.1 h.sorted i (i + 1 + j) hi (by omega) (by omega)
        rw [e, e2] at this; omega
  · rintro (⟨hy, hne⟩ | rfl)
    · rw [get_split hi] at hy
      rcases List.mem_append.1 hy with hy | hy
      · exact List.mem_append_left _ hy
      · rcases List.mem_cons.1 hy with hy | hy
        · exact absurd hy hne
        · exact List.mem_append_right _ (List.mem_cons_of_mem _ hy)
    · simp
end

/-! What the calls make of rows. -/
def putK (K : Int) (k : Nat) : Int := if hasK K k = true then K else K + pw k
def putR (x : Rw) (k : Nat) (n : Int) : Rw := (x.1, (putK x.2.1 k, (rwSet x k n).2.2))
def dropR (x : Rw) (k : Nat) : Rw := (x.1, (x.2.1 - pw k, (rwSet x k 0).2.2))
def idxL (L : List Rw) (h : Hd) : Option Nat := L.findIdx? (fun x => decide (x.1 = h))
def putBad (k n : Int) : Prop := (k < 0 ∨ 7 < k) ∨ (n < -1000000000 ∨ 1000000000 < n)
instance (k n : Int) : Decidable (putBad k n) := by unfold putBad; infer_instance
def spawnE (sl : Sl) (b : Bt) : Int := if beastZ b ≠ 0 then beastZ b else takeE sl
def spawnH (sl : Sl) (b : Bt) : Hd := if beastZ b ≠ 0 then (0, 0) else (takeK sl, takeG sl)
def spawnS (sl : Sl) (b : Bt) : Sl := if beastZ b ≠ 0 then sl else takeL sl
def spawnL (sl : Sl) (L : List Rw) (b : Bt) : List Rw := if spawnE sl b = 0 then insR L ((takeK sl, takeG sl), b) else L
def killE (L : List Rw) (h : Hd) : Int := match idxL L h with | some _ => 0 | none => 7
def killL (L : List Rw) (h : Hd) : List Rw := L.filter (fun x => decide (x.1 ≠ h))
def putE (L : List Rw) (h : Hd) (k n : Int) : Int := match idxL L h with | some _ => if putBad k n then 1 else 0 | none => 7
def putW (L : List Rw) (h : Hd) (k n : Int) : List Rw := match idxL L h with | some i => if putBad k n then L else L.modify i (fun x => putR x k.toNat n) | none => L
def dropE (L : List Rw) (h : Hd) (k : Int) : Int := match idxL L h with | some i => if k < 0 ∨ 7 < k then 1 else if hasK (L.getD i zeroR).2.1 k.toNat = true then 0 else 5 | none => 7
def dropL (L : List Rw) (h : Hd) (k : Int) : List Rw := match idxL L h with | some i => if dropE L h k = 0 then L.modify i (fun x => dropR x k.toNat) else L | none => L
def getE (L : List Rw) (h : Hd) : Int := match idxL L h with | some _ => 0 | none => 7
def getB (L : List Rw) (h : Hd) : Bt := match idxL L h with | some i => (L.getD i zeroR).2 | none => zeroR.2

section
variable {sl : Sl} {L : List Rw}
theorem idx_some {h : Hd} {i : Nat} (hi : idxL L h = some i) : ∃ hl : i < L.length, L[i].1 = h := by
  obtain ⟨hl, hp⟩ := fi_lt hi
  exact ⟨hl, by simpa using hp⟩
theorem idx_none {h : Hd} (hi : idxL L h = none) : ∀ x ∈ L, x.1 ≠ h := by
  unfold idxL at hi
  rw [List.findIdx?_eq_none_iff] at hi
  intro x hx e
  have := hi x hx
  simp [e] at this
theorem WOk.idx (h : WOk sl L) (s g : Int) : (liveB sl s g = true ∧ ∃ i, idxL L (s, g) = some i) ∨ (liveB sl s g = false ∧ idxL L (s, g) = none) := by
  cases hi : idxL L (s, g) with
  | some i =>
    obtain ⟨hl, e⟩ := idx_some hi
    exact .inl ⟨(h.live s g).2 ⟨_, List.getElem_mem hl, e⟩, i, rfl⟩
  | none =>
    refine .inr ⟨?_, rfl⟩
    cases hv : liveB sl s g with
    | false => rfl
    | true =>
      obtain ⟨x, hx, e⟩ := (h.live s g).1 hv
      exact absurd e (idx_none hi x hx)
theorem modify_set {α : Type} {l : List α} {i : Nat} (hi : i < l.length) (f : α → α) : l.modify i f = l.set i (f l[i]) := by
  apply List.ext_getElem?
  intro j
  rw [List.getElem?_modify, List.getElem?_set]
  by_cases e : i = j
  · subst e; simp [hi]
  · simp [e]
theorem bit_set : ∀ m : Fin 256, ∀ k j : Fin 8, m.val.testBit k.val = false → (m.val + 2 ^ k.val < 256 ∧ (m.val + 2 ^ k.val).testBit j.val = (m.val.testBit j.val || decide (j = k))) := by decide +kernel
theorem bit_clear : ∀ m : Fin 256, ∀ k j : Fin 8, m.val.testBit k.val = true → (2 ^ k.val ≤ m.val ∧ (m.val - 2 ^ k.val).testBit j.val = (m.val.testBit j.val && !decide (j = k))) := by decide +kernel
theorem valK_tail {b c : Bt} (h : b.2 = c.2) (k : Nat) : valK k b = valK k c := by
  obtain ⟨K, b⟩ := b; obtain ⟨K', c⟩ := c
  simp only at h
  subst h
  rfl
theorem putR_val (x : Rw) (k j : Nat) (hk : k < 8) (n : Int) : valK j (putR x k n).2 = if j = k then n else valK j x.2 := by
  rw [← rwSet_val x k j hk n]
  exact valK_tail rfl j
theorem dropR_val (x : Rw) (k j : Nat) (hk : k < 8) : valK j (dropR x k).2 = if j = k then 0 else valK j x.2 := by
  rw [← rwSet_val x k j hk 0]
  exact valK_tail rfl j
theorem putR_ok {x : Rw} (h : beastZ x.2 = 0) {k : Nat} (hk : k < 8) {n : Int} (hn : ¬ (n < -1000000000 ∨ 1000000000 < n)) : beastZ (putR x k n).2 = 0 := by
  obtain ⟨m, hm, e, hv⟩ := (beastZ_iff _).1 h
  rw [beastZ_iff]
  cases hb : m.testBit k with
  | true =>
    refine ⟨m, hm, ?_, fun j hj => ?_⟩
    · show putK x.2.1 k = _
      unfold putK; rw [e, hasK_nat m k hm, if_pos hb]
    · rw [putR_val x k j hk]
      split
      · next e2 => subst e2; exact ⟨fun h => (by rw [hb] at h; cases h), hn⟩
      · exact hv j hj
  | false =>
    have h2 := fun j (hj : j < 8) => bit_set ⟨m, hm⟩ ⟨k, hk⟩ ⟨j, hj⟩ hb
    refine ⟨m + 2 ^ k, (h2 0 (by omega)).1, ?_, fun j hj => ?_⟩
    · show putK x.2.1 k = _
      unfold putK; rw [e, hasK_nat m k hm, if_neg (by rw [hb]; simp)]; unfold pw; omega
    · rw [putR_val x k j hk, (h2 j hj).2]
      split
      · next e2 => subst e2; exact ⟨fun h => by simp at h, hn⟩
      · next e2 => simp only [Fin.mk.injEq, e2, decide_false, Bool.or_false]; exact hv j hj
theorem dropR_ok {x : Rw} (h : beastZ x.2 = 0) {k : Nat} (hk : k < 8) (hh : hasK x.2.1 k = true) : beastZ (dropR x k).2 = 0 := by
  obtain ⟨m, hm, e, hv⟩ := (beastZ_iff _).1 h
  rw [e, hasK_nat m k hm] at hh
  rw [beastZ_iff]
  have h2 := fun j (hj : j < 8) => bit_clear ⟨m, hm⟩ ⟨k, hk⟩ ⟨j, hj⟩ hh
  have h3 : 2 ^ k ≤ m := (h2 0 (by omega)).1
  refine ⟨m - 2 ^ k, Nat.lt_of_le_of_lt (Nat.sub_le _ _) hm, ?_, fun j hj => ?_⟩
  · show x.2.1 - pw k = _
    rw [e]; unfold pw; omega
  · rw [dropR_val x k j hk, (h2 j hj).2]
    split
    · exact ⟨fun _ => rfl, by omega⟩
    · next e2 => simp only [Fin.mk.injEq, e2, decide_false, Bool.not_false, Bool.and_true]; exact hv j hj
end
end Go.Proofs.YtehjfmjibiafdaaGreat
