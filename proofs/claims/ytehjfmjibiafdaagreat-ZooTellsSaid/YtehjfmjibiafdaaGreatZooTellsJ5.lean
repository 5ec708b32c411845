import Derived.Test.YtehjfmjibiafdaaGreatZooTellsJ4
/- Slots as plain lists: of each its generation, and whether somebody is there. -/
namespace Go.Proofs.YtehjfmjibiafdaaGreat
open Go

abbrev Sl := List (Int × Bool)
def freeB (x : Int × Bool) : Bool := !x.2 && decide (x.1 < 1000000)
/-- The first place at which p holds, or -1. -/
def firstI {α : Type} (p : α → Bool) (l : List α) : Int := match l.findIdx? p with | some k => (k : Int) | none => -1

theorem fi_some {α : Type} {p : α → Bool} {l : List α} {k : Nat} (hk : k < l.length) (hp : p l[k] = true) (hn : ∀ j (h : j < k), p (l[j]'(by omega)) = false) : l.findIdx? p = some k := by
  rw [List.findIdx?_eq_some_iff_getElem]
  exact ⟨hk, hp, fun j hj => by simp [hn j hj]⟩
theorem fi_none {α : Type} {p : α → Bool} {l : List α} (h : ∀ j (hj : j < l.length), p l[j] = false) : l.findIdx? p = none := by
  rw [List.findIdx?_eq_none_iff]
  intro x hx
  obtain ⟨j, hj, rfl⟩ := List.mem_iff_getElem.1 hx
  exact h j hj
theorem fi_lt {α : Type} {p : α → Bool} {l : List α} {k : Nat} (h : l.findIdx? p = some k) : ∃ hk : k < l.length, p l[k] = true := by
  rw [List.findIdx?_eq_some_iff_getElem] at h
  exact ⟨h.1, h.2.1⟩
theorem firstI_some {α : Type} {p : α → Bool} {l : List α} {k : Nat} (h : l.findIdx? p = some k) : firstI p l = k := by unfold firstI; rw [h]
theorem firstI_none {α : Type} {p : α → Bool} {l : List α} (h : l.findIdx? p = none) : firstI p l = -1 := by unfold firstI; rw [h]

/-- The slots behind a take. -/
def takeL (l : Sl) : Sl := match l.findIdx? freeB with
  | some k => l.set k ((l.getD k (0, false)).1, true)
  | none => if l.length = 60 then l else l ++ [(0, true)]
/-- The handle that is taken. -/
def takeK (l : Sl) : Int := match l.findIdx? freeB with
  | some k => k
  | none => if l.length = 60 then 0 else l.length
def takeG (l : Sl) : Int := match l.findIdx? freeB with
  | some k => (l.getD k (0, false)).1
  | none => 0
def takeE (l : Sl) : Int := match l.findIdx? freeB with
  | some _ => 0
  | none => if l.length = 60 then 2 else 0

def liveB (l : Sl) (s g : Int) : Bool := decide (0 ≤ s) && (match l[s.toNat]? with | some x => x.2 && decide (x.1 = g) | none => false)
def freeL (l : Sl) (s g : Int) : Sl := if liveB l s g = true then l.set s.toNat (g + 1, false) else l
def freeE (l : Sl) (s g : Int) : Int := if liveB l s g = true then 0 else 7
/-- The handles of those that are there, from slot k on. -/
def allFrom : Nat → Sl → List (Int × Int)
  | _, [] => []
  | k, x :: l => (if x.2 = true then [((k : Int), x.1)] else []) ++ allFrom (k + 1) l
def allS (l : Sl) : List (Int × Int) := allFrom 0 l
def gensS (l : Sl) : List Int := l.map (·.1)
def livesS (l : Sl) : List Bool := l.map (·.2)

theorem allFrom_append (k : Nat) (a b : Sl) : allFrom k (a ++ b) = allFrom k a ++ allFrom (k + a.length) b := by
  induction a generalizing k with
  | nil => simp [allFrom]
  | cons x a ih => simp [allFrom, ih, Nat.add_assoc, Nat.add_comm 1]
theorem allS_take_succ (l : Sl) (k : Nat) (h : k < l.length) : allS (l.take (k + 1)) = allS (l.take k) ++ (if l[k].2 = true then [((k : Int), l[k].1)] else []) := by
  rw [take_succ_get l k h, allS, allFrom_append, allS]
  simp [allFrom, Nat.min_eq_left (Nat.le_of_lt h)]
theorem mem_allFrom (l : Sl) (k : Nat) (s g : Int) : (s, g) ∈ allFrom k l ↔ ∃ j : Nat, s = ((k + j : Nat) : Int) ∧ ∃ h : j < l.length, l[j].2 = true ∧ l[j].1 = g := by
  induction l generalizing k with
  | nil => simp [allFrom]
  | cons x l ih =>
    rw [allFrom, List.mem_append, ih]
    constructor
    · rintro (h | ⟨j, h1, h2, h3⟩)
      · split at h
        · rename_i hx
          simp only [List.mem_singleton, Prod.mk.injEq] at h
          exact ⟨0, by simpa using h.1, by simp, by simpa using hx, by simpa using h.2.symm⟩
        · simp at h
      · exact ⟨j + 1, by rw [h1]; omega, by simpa using h2, by simpa using h3⟩
    · rintro ⟨j, h1, h2, h3⟩
      cases j with
      | zero =>
        left
        simp only [List.getElem_cons_zero] at h3
        rw [if_pos h3.1]
        simp only [List.mem_singleton, Prod.mk.injEq]
        exact ⟨by simpa using h1, h3.2.symm⟩
      | succ j =>
        right
        exact ⟨j, by rw [h1]; omega, by simpa using h2, by simpa using h3⟩
theorem liveB_iff (l : Sl) (s g : Int) : liveB l s g = true ↔ (s, g) ∈ allS l := by
  rw [allS, mem_allFrom]
  unfold liveB
  constructor
  · intro h
    rw [Bool.and_eq_true, decide_eq_true_eq] at h
    obtain ⟨h0, h1⟩ := h
    cases hx : l[s.toNat]? with
    | none => rw [hx] at h1; cases h1
    | some x =>
      rw [hx] at h1
      simp only [Bool.and_eq_true, decide_eq_true_eq] at h1
      obtain ⟨hl, he⟩ := List.getElem?_eq_some_iff.1 hx
      exact ⟨s.toNat, by omega, hl, by rw [he]; exact h1.1, by rw [he]; exact h1.2⟩
  · rintro ⟨j, rfl, hj, h1, h2⟩
    rw [Bool.and_eq_true]
    refine ⟨by simp, ?_⟩
    have : ((0 + j : Nat) : Int).toNat = j := by omega
    rw [this, List.getElem?_eq_getElem hj]
    simp [h1, h2]
theorem hasB_all (l : Sl) (s g : Int) : hasB (allS l) (s, g) = liveB l s g := by
  rw [Bool.eq_iff_iff, hasB_iff, liveB_iff]
theorem liveB_lt {l : Sl} {s g : Int} (h : liveB l s g = true) : 0 ≤ s ∧ ∃ hk : s.toNat < l.length, l[s.toNat] = (g, true) := by
  unfold liveB at h
  rw [Bool.and_eq_true, decide_eq_true_eq] at h
  obtain ⟨h0, h1⟩ := h
  cases hx : l[s.toNat]? with
  | none => rw [hx] at h1; cases h1
  | some x =>
    rw [hx] at h1
    simp only [Bool.and_eq_true, decide_eq_true_eq] at h1
    obtain ⟨hl, he⟩ := List.getElem?_eq_some_iff.1 hx
    exact ⟨h0, hl, by rw [he]; exact Prod.ext h1.2 h1.1⟩
theorem allFrom_len (l : Sl) (k : Nat) : (allFrom k l).length ≤ l.length := by
  induction l generalizing k with
  | nil => simp [allFrom]
  | cons x l ih =>
    have := ih (k + 1)
    simp only [allFrom, List.length_append, List.length_cons]
    split
    · simp only [List.length_cons, List.length_nil]; omega
    · simp only [List.length_nil]; omega
theorem allS_len (l : Sl) : (allS l).length ≤ l.length := allFrom_len l 0

/-- What slots may be. -/
def SlOk (l : Sl) : Prop := l.length ≤ 60 ∧ ∀ x ∈ l, 0 ≤ x.1 ∧ x.1 ≤ 1000000 ∧ (x.2 = true → x.1 < 1000000)
theorem slOk_nil : SlOk [] := ⟨by simp, by simp⟩
theorem SlOk.at_ {l : Sl} (h : SlOk l) {k : Nat} (hk : k < l.length) : 0 ≤ l[k].1 ∧ l[k].1 ≤ 1000000 ∧ (l[k].2 = true → l[k].1 < 1000000) := h.2 _ (List.getElem_mem hk)
theorem SlOk.take {l : Sl} (h : SlOk l) : SlOk (takeL l) := by
  unfold takeL
  cases hf : l.findIdx? freeB with
  | some k =>
    obtain ⟨hk, hp⟩ := fi_lt hf
    refine ⟨by simpa using h.1, fun x hx => ?_⟩
    rcases List.mem_or_eq_of_mem_set hx with hx | rfl
    · exact h.2 x hx
    · have := h.at_ hk
      simp only [freeB, Bool.and_eq_true, decide_eq_true_eq] at hp
      rw [List.getD_eq_getElem?_getD, List.getElem?_eq_getElem hk]
      simp only [Option.getD_some]
      exact ⟨this.1, this.2.1, fun _ => hp.2⟩
  | none =>
    simp only
    split
    · exact h
    · next hn =>
      refine ⟨by have := h.1; simp; omega, fun x hx => ?_⟩
      rcases List.mem_append.1 hx with hx | hx
      · exact h.2 x hx
      · simp at hx; subst hx; exact ⟨by omega, by omega, fun _ => by omega⟩
theorem SlOk.free {l : Sl} (h : SlOk l) (s g : Int) : SlOk (freeL l s g) := by
  unfold freeL
  split
  · next hl =>
    obtain ⟨h0, hk, he⟩ := liveB_lt hl
    have := h.at_ hk
    rw [he] at this
    refine ⟨by simpa using h.1, fun x hx => ?_⟩
    rcases List.mem_or_eq_of_mem_set hx with hx | rfl
    · exact h.2 x hx
    · have h3 := this.2.2 rfl
      simp only at this h3
      exact ⟨by simp; omega, by simp; omega, fun h => by cases h⟩
  · exact h
end Go.Proofs.YtehjfmjibiafdaaGreat
