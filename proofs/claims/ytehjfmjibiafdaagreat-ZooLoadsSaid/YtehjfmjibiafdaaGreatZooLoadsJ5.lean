import Derived.Test.YtehjfmjibiafdaaGreatZooLoadsJ4
import Derived.Test.YtehjfmjibiafdaaGreatZooLoadsJ2
import Derived.Test.YtehjfmjibiafdaaGreatZooLoadsJ3
/- Slots as plain lists: of each its generation, and whether somebody is there. -/
namespace Go.Proofs.YtehjfmjibiafdaaGreat
open Go

abbrev Sl := List (Int × Bool)
def freeB (x : Int × Bool) : Bool := !x.2 && decide (x.1 < 1000000)
/-- The first place at which p holds, or -1. -/
def firstI {α : Type} (p : α → Bool) (l : List α) : Int := match l.findIdx? p with | some k => (k : Int) | none => -1

theorem fi_some {α : Type} {p : α → Bool} {l : List α} {k : Nat} (hk : k < l.length) (hp : p l[k] = true) (hn : ∀ j (h : j < k), p (l[j]'(by omega)) = false) : l.findIdx? p = some k := by
  rw [List.findIdx?_eq_some_iff_getElem]
  exact ⟨hk, hp, fun j hj => by simp [hn j hj]⟩
theorem fi_none {α : Type} {p : α → Bool} {l : List α} (h : ∀ j (hj : j < l.length), p l[j] = false) : l.findIdx? p = none := by
  rw [List.findIdx?_eq_none_iff]
  intro x hx
  obtain ⟨j, hj, rfl⟩ := List.mem_iff_getElem.1 hx
  exact h j hj
theorem fi_lt {α : Type} {p : α → Bool} {l : List α} {k : Nat} (h : l.findIdx? p = some k) : ∃ hk : k < l.length, p l[k] = true := by
  rw [List.findIdx?_eq_some_iff_getElem] at h
  exact ⟨h.1, h.2.1⟩
theorem firstI_some {α : Type} {p : α → Bool} {l : List α} {k : Nat} (h : l.findIdx? p = some k) : firstI p l = k := by unfold firstI; rw [h]
theorem firstI_none {α : Type} {p : α → Bool} {l : List α} (h : l.findIdx? p = none) : firstI p l = -1 := by unfold firstI; rw [h]

/-- The slots behind a take. -/
def takeL (l : Sl) : Sl := match l.findIdx? freeB with
  | some k => l.set k ((l.getD k (0, false)).1, true)
  | none => if l.length = 60 then l else l ++ [(0, true)]
def liveB (l : Sl) (s g : Int) : Bool := decide (0 ≤ s) && (match l[s.toNat]? with | some x => x.2 && decide (x.1 = g) | none => false)
/-- The handles of those that are there, from slot k on. -/
def allFrom : Nat → Sl → List (Int × Int)
  | _, [] => []
  | k, x :: l => (if x.2 = true then [((k : Int), x.1)] else []) ++ allFrom (k + 1) l
def allS (l : Sl) : List (Int × Int) := allFrom 0 l
def gensS (l : Sl) : List Int := l.map (·.1)
def livesS (l : Sl) : List Bool := l.map (·.2)

theorem mem_allFrom (l : Sl) (k : Nat) (s g : Int) : (s, g) ∈ allFrom k l ↔ ∃ j : Nat, s = ((k + j : Nat) : Int) ∧ ∃ h : j < l.length, l[j].2 = true ∧ l[j].1 = g := by
  induction l generalizing k with
  | nil => simp [allFrom]
  | cons x l ih =>
    rw [allFrom, List.mem_append, ih]
    constructor
    · rintro (h | ⟨j, h1, h2, h3⟩)
      · split at h
        · rename_i hx
          simp only [List.mem_singleton, Prod.mk.injEq] at h
          exact ⟨0, by simpa using h.1, by simp, by simpa using hx, by simpa using h.2.symm⟩
        · simp at h
      · exact ⟨j + 1, by rw [h1]; omega, by simpa using h2, by simpa using h3⟩
    · rintro ⟨j, h1, h2, h3⟩
      cases j with
      | zero =>
        left
        simp only [List.getElem_cons_zero] at h3
        rw [if_pos h3.1]
        simp only [List.mem_singleton, Prod.mk.injEq]
        exact ⟨by simpa using h1, h3.2.symm⟩
      | succ j =>
        right
        exact ⟨j, by rw [h1]; omega, by simpa using h2, by simpa using h3⟩
theorem liveB_iff (l : Sl) (s g : Int) : liveB l s g = true ↔ (s, g) ∈ allS l := by
  rw [allS, mem_allFrom]
  unfold liveB
  constructor
  · intro h
    rw [Bool.and_eq_true, decide_eq_true_eq] at h
    obtain ⟨h0, h1⟩ := h
    cases hx : l[s.toNat]? with
    | none => rw [hx] at h1; cases h1
    | some x =>
      rw [hx] at h1
      simp only [Bool.and_eq_true, decide_eq_true_eq] at h1
      obtain ⟨hl, he⟩ := List.getElem?_eq_some_iff.1 hx
      exact ⟨s.toNat, by omega, hl, by rw [he]; exact h1.1, by rw [he]; exact h1.2⟩
  · rintro ⟨j, rfl, hj, h1, h2⟩
    rw [Bool.and_eq_true]
    refine ⟨by simp, ?_⟩
    have : ((0 + j : Nat) : Int).toNat = j := by omega
    rw [this, List.getElem?_eq_getElem hj]
    simp [h1, h2]
theorem liveB_lt {l : Sl} {s g : Int} (h : liveB l s g = true) : 0 ≤ s ∧ ∃ hk : s.toNat < l.length, l[s.toNat] = (g, true) := by
  unfold liveB at h
  rw [Bool.and_eq_true, decide_eq_true_eq] at h
  obtain ⟨h0, h1⟩ := h
  cases hx : l[s.toNat]? with
  | none => rw [hx] at h1; cases h1
  | some x =>
    rw [hx] at h1
    simp only [Bool.and_eq_true, decide_eq_true_eq] at h1
    obtain ⟨hl, he⟩ := List.getElem?_eq_some_iff.1 hx
    exact ⟨h0, hl, by rw [he]; exact Prod.ext h1.2 h1.1⟩
theorem allFrom_len (l : Sl) (k : Nat) : (allFrom k l).length ≤ l.length := by
  induction l generalizing k with
  | nil => simp [allFrom]
  | cons x l ih =>
    have := ih (k + 1)
    simp only [allFrom, List.length_append, List.length_cons]
    split
    · simp only [List.length_cons, List.length_nil]; omega
    · simp only [List.length_nil]; omega
theorem allS_len (l : Sl) : (allS l).length ≤ l.length := allFrom_len l 0

/-- What slots may be. -/
def SlOk (l : Sl) : Prop := l.length ≤ 60 ∧ ∀ x ∈ l, 0 ≤ x.1 ∧ x.1 ≤ 1000000 ∧ (x.2 = true → x.1 < 1000000)
theorem slOk_nil : SlOk [] := ⟨by simp, by simp⟩
theorem SlOk.at_ {l : Sl} (h : SlOk l) {k : Nat} (hk : k < l.length) : 0 ≤ l[k].1 ∧ l[k].1 ≤ 1000000 ∧ (l[k].2 = true → l[k].1 < 1000000) := h.2 _ (List.getElem_mem hk)
theorem SlOk.take {l : Sl} (h : SlOk l) : SlOk (takeL l) := by
  unfold takeL
  cases hf : l.findIdx? freeB with
  | some k =>
    obtain ⟨hk, hp⟩ := fi_lt hf
    refine ⟨by simpa using h.1, fun x hx => ?_⟩
    rcases List.mem_or_eq_of_mem_set hx with hx | rfl
    · exact h.2 x hx
    · have := h.at_ hk
      simp only [freeB, Bool.and_eq_true, decide_eq_true_eq] at hp
      rw [List.getD_eq_getElem?_getD, List.getElem?_eq_getElem hk]
      simp only [Option.getD_some]
      exact ⟨this.1, this.2.1, fun _ => hp.2⟩
  | none =>
    simp only
    split
    · exact h
    · next hn =>
      refine ⟨by have := h.1; simp; omega, fun x hx => ?_⟩
      rcases List.mem_append.1 hx with hx | hx
      · exact h.2 x hx
      · simp at hx; subst hx; exact ⟨by omega, by omega, fun _ => by omega⟩
end Go.Proofs.YtehjfmjibiafdaaGreat

/- A region whose operations may be carried out in any order that its edges allow, and whose values need not be known ahead: one goal for each operation, none for the orders. -/
namespace Go.Proofs.YtehjfmjibiafdaaGreat
open Go

/-- A call returns some value, and J holds of it and of the world behind it. -/
def RetR (J : Value → World → Prop) (e : Ending) (w : World) : Prop := ∃ u, e = .returned u ∧ J u w
/-- Operation o, at the operands' values ρ and in the world w, gives some v, and J holds of v and of the world behind it. -/
def YieldsR (P : Program) (o : Oper) (ρ : Operand → Value) (w : World) (J : Value → World → Prop) : Prop :=
  match (execOp ρ o).run P w with
  | .ok (.value u) w' => J u w'
  | .ok .skip w' => J undef w'
  | .ok (.enter f args) w' => Calls P f args w' (RetR J)
  | _ => False

theorem YieldsR.wp {P : Program} {o : Oper} {a : Act} {w : World} {J : Value → World → Prop} {K : Act → World → Prop} {Q : Exit → Act → World → Prop}
    (h : YieldsR P o a.eval w J) (hK : ∀ v w', J v w' → K (a.put o.dst v) w') : o.wp P a w K Q := by
  unfold Oper.wp
  unfold YieldsR at h
  cases hr : (execOp a.eval o).run P w with
  | halt x w' => rw [hr] at h; exact h.elim
  | ok n w' =>
    rw [hr] at h
    cases n with
    | value u => exact hK _ _ h
    | skip => exact hK _ _ h
    | enter f args =>
      refine Calls.mono h fun e w'' he => ?_
      obtain ⟨u, rfl, hj⟩ := he
      exact hK _ _ hj
    | _ => exact h.elim

theorem YieldsR.congr {P : Program} {o : Oper} {ρ ρ' : Operand → Value} {w : World} {J : Value → World → Prop}
    (h : YieldsR P o ρ w J) (he : execOp ρ' o = execOp ρ o) : YieldsR P o ρ' w J := by
  unfold YieldsR at *
  rw [he]; exact h

theorem YieldsR.mono {P : Program} {o : Oper} {ρ : Operand → Value} {w : World} {J J' : Value → World → Prop}
    (h : YieldsR P o ρ w J) (hj : ∀ v w', J v w' → J' v w') : YieldsR P o ρ w J' := by
  unfold YieldsR at *
  split at h
  · exact hj _ _ h
  · exact hj _ _ h
  · refine h.mono fun e w'' he => ?_
    obtain ⟨u, rfl, hu⟩ := he
    exact ⟨u, rfl, hj _ _ hu⟩
  · exact h.elim

/-- The values, with one written. -/
def updv (σ : Nat → Value) (i : Nat) (v : Value) : Nat → Value := fun j => if j = i then v else σ j

theorem AtPlan.putv {ops : Array Oper} {σ : Nat → Value} {a0 a : Act} {L : Nat → Bool} (h : AtPlan ops σ a0 a L) {i : Nat} {o : Oper} (ho : ops[i]? = some o)
    (hd : ∀ j o' t, ops[j]? = some o' → o'.dst = some t → o.dst = some t → i = j) (hl : L i = false) {v : Value} : AtPlan ops (updv σ i v) a0 (a.put o.dst v) (upd L i) := by
  have h1 : AtPlan ops (updv σ i v) a0 a L := ⟨h.defers, h.size, fun j o' t h1 h2 h3 h4 => by
    have hne : j ≠ i := fun e => by rw [e, hl] at h3; cases h3
    rw [updv, if_neg hne]; exact h.new j o' t h1 h2 h3 h4, h.old⟩
  have h2 := h1.put ho hd
  rw [show updv σ i v i = v by simp [updv]] at h2
  exact h2

section
variable {P : Program} {ops : Array Oper} {Q : Exit → Act → World → Prop}

/-- The goal at operation i. -/
def OpGoalG (P : Program) (ops : Array Oper) (pre : List (List Nat)) (I : (Nat → Bool) → (Nat → Value) → World → Prop) (a0 : Act) (i : Nat) (o : Oper) : Prop :=
  ∀ (L : Nat → Bool) (σ : Nat → Value) (w : World), L i = false → (∀ j ∈ pre.getD i [], L j = true) → (∀ k, i ∈ pre.getD k [] → L k = false) → I L σ w →
    if Region.wanted o (yielded ops (seesOf ops σ pre a0 i).tmps) = true then YieldsR P o (seesOf ops σ pre a0 i).eval w (fun v w' => I (upd L i) (updv σ i v) w')
    else I (upd L i) (updv σ i undef) w

end

/-- The slots in which the operations numbered in the list have left their values. -/
def putF (dsts : List (Option Tmp)) (σ : Nat → Value) : List Nat → Act → Act
  | [], a => a
  | j :: l, a => putF dsts σ l (a.put (dsts.getD j none) (σ j))

theorem putAll_eq_putF {l : List Oper} {dsts : List (Option Tmp)} {σ : Nat → Value} (hd : l.map (·.dst) = dsts) : ∀ (is : List Nat), (∀ i ∈ is, i < l.length) → ∀ (a : Act),
    putAll l.toArray σ is a = putF dsts σ is a := by
  intro is
  induction is with
  | nil => intro _ a; rfl
  | cons j is ih =>
    intro hi a
    have h : (match l.toArray[j]? with | some o => a.put o.dst (σ j) | none => a) = a.put (dsts.getD j none) (σ j) := by
      subst hd
      rw [List.getElem?_toArray]
      cases hj : l[j]? with
      | none => simp [hj, Act.put]
      | some o => simp [hj]
    rw [putAll, putF, ← h]
    exact ih (fun i h => hi i (by simp [h])) _

/-- What is known of a value that is told. -/
def isV (c : Value) : Value → World → Prop := fun v _ => v = c
/-- What is known of the values that the operations numbered in the list have left. -/
def PreF (VP : List (Value → World → Prop)) (σ : Nat → Value) (w : World) : List Nat → Prop
  | [] => True
  | j :: l => VP.getD j (fun _ _ => True) (σ j) w ∧ PreF VP σ w l
/-- What is known of a value stays so while the world turns as T says. -/
def Stab (T : World → World → Prop) (p : Value → World → Prop) : Prop := ∀ v w w', T w w' → p v w → p v w'
theorem stab_isV {T : World → World → Prop} {c : Value} : Stab T (isV c) := fun _ _ _ _ h => h
def AllStab (T : World → World → Prop) : List (Value → World → Prop) → Prop
  | [] => True
  | p :: l => Stab T p ∧ AllStab T l
theorem AllStab.get {T : World → World → Prop} : ∀ {VP : List (Value → World → Prop)}, AllStab T VP → ∀ i, Stab T (VP.getD i (fun _ _ => True))
  | [], _, i => by intro v w w' _ _; simp
  | p :: l, h, 0 => by simpa using h.1
  | p :: l, h, i + 1 => by simpa using h.2.get i
theorem preF_of {VP : List (Value → World → Prop)} {σ : Nat → Value} {w : World} : ∀ {is : List Nat}, (∀ j ∈ is, VP.getD j (fun _ _ => True) (σ j) w) → PreF VP σ w is
  | [], _ => trivial
  | j :: l, h => ⟨h j (by simp), preF_of fun i hi => h i (by simp [hi])⟩

/-- What is owed of an operation's value and of the world behind it. -/
structure Post (p : Value → World → Prop) (I : World → Prop) (T : World → World → Prop) (w : World) (v : Value) (w' : World) : Prop where
  val : p v w'
  inv : I w'
  step : T w w'
/-- The goal at one operation. -/
def OpGoalT (P : Program) (dsts : List (Option Tmp)) (pre : List (List Nat)) (VP : List (Value → World → Prop)) (T : World → World → Prop) (I : (Nat → Bool) → World → Prop) (a0 : Act) (i : Nat) (o : Oper) : Prop :=
  ∀ (L : Nat → Bool) (σ : Nat → Value) (w : World), L i = false → (∀ j ∈ pre.getD i [], L j = true) → (∀ k, i ∈ pre.getD k [] → L k = false) → I L w → PreF VP σ w (pre.getD i []) →
    if wantedL dsts (putF dsts σ (pre.getD i []) a0) o.guard = true then YieldsR P o (putF dsts σ (pre.getD i []) a0).eval w (Post (VP.getD i (fun _ _ => True)) (I (upd L i)) T w)
    else Post (VP.getD i (fun _ _ => True)) (I (upd L i)) T w undef w

theorem planOk_lt {ops : Array Oper} {pre : List (List Nat)} (h : planOk ops pre = true) {i j : Nat} (hi : i < ops.size) (hj : j ∈ pre.getD i []) : j < i :=
  ((planOk_spec h (Array.getElem?_eq_getElem hi)).2.2.1 j hj).1

/-- There are n values of which p holds. -/
def ExL : Nat → (List Value → Prop) → Prop
  | 0, p => p []
  | n + 1, p => ∃ v, ExL n fun l => p (v :: l)
theorem ExL.out : ∀ {n : Nat} {p : List Value → Prop}, ExL n p → ∃ vs, p vs
  | 0, _, h => ⟨[], h⟩
  | n + 1, p, h => by
    obtain ⟨v, h⟩ := h
    obtain ⟨vs, h⟩ := ExL.out h
    exact ⟨v :: vs, h⟩
/-- What is known of the values so far stays so. -/
def KeepAll (σ : Nat → Value) (L : Nat → Bool) (w w' : World) : Nat → List (Value → World → Prop) → Prop
  | _, [] => True
  | k, p :: l => (L k = true → p (σ k) w → p (σ k) w') ∧ KeepAll σ L w w' (k + 1) l
theorem KeepAll.get {σ : Nat → Value} {L : Nat → Bool} {w w' : World} : ∀ {VP : List (Value → World → Prop)} {k : Nat}, KeepAll σ L w w' k VP → ∀ i, L (k + i) = true → VP.getD i (fun _ _ => True) (σ (k + i)) w → VP.getD i (fun _ _ => True) (σ (k + i)) w'
  | [], _, _, i, _, _ => by simp
  | p :: l, k, h, 0, h1, h2 => by simpa using h.1 h1 (by simpa using h2)
  | p :: l, k, h, i + 1, h1, h2 => by
    have := KeepAll.get h.2 i (by rw [show k + 1 + i = k + (i + 1) by omega]; exact h1) (by rw [show k + 1 + i = k + (i + 1) by omega]; simpa using h2)
    rw [show k + 1 + i = k + (i + 1) by omega] at this
    simpa using this
theorem KeepAll.ofStab {T : World → World → Prop} {σ : Nat → Value} {L : Nat → Bool} {w w' : World} (ht : T w w') : ∀ {VP : List (Value → World → Prop)} {k : Nat}, AllStab T VP → KeepAll σ L w w' k VP
  | [], _, _ => trivial
  | p :: l, k, h => ⟨fun _ hp => h.1 _ _ _ ht hp, KeepAll.ofStab ht h.2⟩
theorem KeepAll.refl {σ : Nat → Value} {L : Nat → Bool} {w : World} : ∀ {VP : List (Value → World → Prop)} {k : Nat}, KeepAll σ L w w k VP
  | [], _ => trivial
  | _ :: _, _ => ⟨fun _ h => h, KeepAll.refl⟩
theorem keep_isV {σ : Nat → Value} {L : Nat → Bool} {w w' : World} {c : Value} {l : List (Value → World → Prop)} {k : Nat} (h : KeepAll σ L w w' (k + 1) l) : KeepAll σ L w w' k (isV c :: l) := ⟨fun _ h => h, h⟩
structure PostP (p : Value → World → Prop) (I K : World → Prop) (v : Value) (w : World) : Prop where
  val : p v w
  inv : I w
  keep : K w
def OpGoalP (P : Program) (dsts : List (Option Tmp)) (pre : List (List Nat)) (VP : List (Value → World → Prop)) (I : (Nat → Bool) → World → Prop) (a0 : Act) (i : Nat) (o : Oper) : Prop :=
  ∀ (L : Nat → Bool) (σ : Nat → Value) (w : World), L i = false → (∀ j ∈ pre.getD i [], L j = true) → (∀ k, i ∈ pre.getD k [] → L k = false) → I L w → PreF VP σ w (pre.getD i []) →
    if wantedL dsts (putF dsts σ (pre.getD i []) a0) o.guard = true then YieldsR P o (putF dsts σ (pre.getD i []) a0).eval w (PostP (VP.getD i (fun _ _ => True)) (I (upd L i)) (fun w' => KeepAll σ L w w' 0 VP))
    else PostP (VP.getD i (fun _ _ => True)) (I (upd L i)) (fun w' => KeepAll σ L w w' 0 VP) undef w
/-- What is owed of an operation's value, and the world behind it. -/
structure PostS (v0 : Value) (w0 : World) (v : Value) (w : World) : Prop where
  val : v = v0
  world : w = w0
def OpGoalS (P : Program) (dsts : List (Option Tmp)) (pre : List (List Nat)) (vs : List Value) (a b : World) (n : Nat) (a0 : Act) (i : Nat) (o : Oper) : Prop :=
  ∀ (σ : Nat → Value), PreF (vs.map isV) σ a (pre.getD i []) →
    if wantedL dsts (putF dsts σ (pre.getD i []) a0) o.guard = true then YieldsR P o (putF dsts σ (pre.getD i []) a0).eval a (PostS (vs.getD i undef) (if (i == n) = true then b else a))
    else PostS (vs.getD i undef) (if (i == n) = true then b else a) undef a
/-- The world has but grown. -/
def Grow (w w' : World) : Prop := RowKit.Below w.heap.size w w'
theorem Grow.refl (w : World) : Grow w w := RowKit.Below.refl _ _
def rowV (B E k n : Nat) (xs : List Value) : Value → World → Prop := fun v w => w.ownsRow B E k v n xs
theorem stab_rowV {B E k n : Nat} {xs : List Value} : Stab Grow (rowV B E k n xs) := by
  intro v w w' hb h
  obtain ⟨hl, h⟩ := h
  refine ⟨hl, ?_⟩
  rcases h with h | ⟨g, cap, cur, hv, hg, hh, hr⟩
  · exact .inl h
  · have hlt : g < w.heap.size := by
      rcases Nat.lt_or_ge g w.heap.size with h | h
      · exact h
      · rw [Array.getElem?_eq_none h] at hh; cases hh
    exact .inr ⟨g, cap, cur, hv, hg, (hb.block g hlt).trans hh, hr⟩
theorem allStab_nil {T : World → World → Prop} : AllStab T [] := trivial
theorem allStab_isV {T : World → World → Prop} {c : Value} {l : List (Value → World → Prop)} (h : AllStab T l) : AllStab T (isV c :: l) := ⟨stab_isV, h⟩
theorem allStab_rowV {B E k n : Nat} {xs : List Value} {l : List (Value → World → Prop)} (h : AllStab Grow l) : AllStab Grow (rowV B E k n xs :: l) := ⟨stab_rowV, h⟩
theorem putF_nil (dsts : List (Option Tmp)) (σ : Nat → Value) (a : Act) : putF dsts σ [] a = a := rfl
theorem putF_cons (dsts : List (Option Tmp)) (σ : Nat → Value) (j : Nat) (l : List Nat) (a : Act) : putF dsts σ (j :: l) a = putF dsts σ l (a.put (dsts.getD j none) (σ j)) := rfl
theorem preF_nil (VP : List (Value → World → Prop)) (σ : Nat → Value) (w : World) : PreF VP σ w [] = True := rfl
theorem preF_cons (VP : List (Value → World → Prop)) (σ : Nat → Value) (w : World) (j : Nat) (l : List Nat) : PreF VP σ w (j :: l) = (VP.getD j (fun _ _ => True) (σ j) w ∧ PreF VP σ w l) := rfl
end Go.Proofs.YtehjfmjibiafdaaGreat

/- Structs of integers in memory: loads of a whole struct; lists of structs laid flat. -/
namespace Go.Proofs.YtehjfmjibiafdaaGreat
open Go Go.RowKit

section
variable {P : Program}
theorem run_load_flat (w : World) (ty : TypeId) (ad : Addr) (xs : List Value) (d : TypeDesc) (hu : P.underlying ty = some d) (hd : (match d with | .struct _ | .array _ _ => true | _ => false) = true)
    (hi : (P.info? ty).map (·.size) = some xs.length) (hc : ∀ j u, xs[j]? = some u → w.cell? (ad.add j) = some u) : (loadVar ty ad).run P w = .ok (.agg xs.toArray) w := by
  have hl : (loadCells ad xs.length).run P w = .ok xs.toArray w := run_loadCells_list (P := P) w ad xs hc
  cases hq : P.info? ty with
  | none => simp [hq] at hi
  | some i =>
    have hs : i.size = xs.length := by simpa [hq] using hi
    have hagg : (isAgg ty).run P w = .ok true w := by
      unfold isAgg
      rw [Sem.run_bind, run_underlying hu w]
      cases d <;> simp_all
    simp [loadVar, Sem.run_bind, hagg, sizeOf, typeInfo, hq, hs, hl]

theorem run_op_load (ρ : Operand → Value) (o : Oper) (w : World) (ty : TypeId) (x : Operand) (ho : o.op = .load ty x) (ad : Addr) (hx : ρ x = .pointer (some ad)) (xs : List Value) (d : TypeDesc) (hu : P.underlying ty = some d)
    (hd : (match d with | .struct _ | .array _ _ => true | _ => false) = true) (hi : (P.info? ty).map (·.size) = some xs.length) (hc : ∀ j u, xs[j]? = some u → w.cell? (ad.add j) = some u) :
    (execOp ρ o).run P w = .ok (.value (.agg xs.toArray)) w := by
  unfold execOp
  simp only [ho, hx, Instr.loadAt, Instr.sureAddr, Sem.run_bind, Sem.run_pure, Result.andThen_ok, run_load_flat w ty ad xs d hu hd hi hc]

theorem wpList_load_flat {ops : Array Oper} {rest : List Oper} {o : Oper} {a : Act} {w : World} {Q : Exit → Act → World → Prop} (hgd : o.guard = none) (ty : TypeId) (x : Operand) (ho : o.op = .load ty x)
    (ad : Addr) (hx : a.eval x = .pointer (some ad)) (xs : List Value) (d : TypeDesc) (hu : P.underlying ty = some d) (hd : (match d with | .struct _ | .array _ _ => true | _ => false) = true)
    (hi : (P.info? ty).map (·.size) = some xs.length) (hc : ∀ j u, xs[j]? = some u → w.cell? (ad.add j) = some u)
    (h : wpList P ops Q rest (a.put o.dst (.agg xs.toArray)) w) : wpList P ops Q (o :: rest) a w :=
  wpList_plain hgd fun K hK => by
    unfold Oper.wp
    rw [run_op_load a.eval o w ty x ho ad hx xs d hu hd hi hc, Oper.upon_value]
    exact hK _ _ h
end

theorem flat_get {α : Type} (f : α → List Int) (n : Nat) (hf : ∀ x, (f x).length = n) : ∀ (l : List α) (k : Nat) (hk : k < l.length) (j : Nat), j < n → (l.flatMap f)[k * n + j]? = (f l[k])[j]?
  | x :: l, 0, _, j, hj => by
    simp only [List.flatMap_cons, Nat.zero_mul, Nat.zero_add, List.getElem_cons_zero]
    rw [List.getElem?_append_left (by rw [hf]; exact hj)]
  | x :: l, k + 1, hk, j, hj => by
    simp only [List.flatMap_cons, List.getElem_cons_succ]
    rw [List.getElem?_append_right (by rw [hf, Nat.succ_mul]; omega), hf, show (k + 1) * n + j - n = k * n + j by rw [Nat.succ_mul]; omega]
    exact flat_get f n hf l k (by simpa using hk) j hj
theorem unflat {α : Type} (f : α → List Int) (k : Nat) (mk : ∀ zs : List Int, zs.length = k → ∃ x, f x = zs) : ∀ (n : Nat) (zs : List Int), zs.length = n * k → ∃ l : List α, l.length = n ∧ zs = l.flatMap f
  | 0, zs, h => ⟨[], rfl, List.eq_nil_of_length_eq_zero (by simpa using h)⟩
  | n + 1, zs, h => by
    rw [Nat.succ_mul] at h
    obtain ⟨x, hx⟩ := mk (zs.take k) (by rw [List.length_take]; omega)
    obtain ⟨l, hl, hz⟩ := unflat f k mk n (zs.drop k) (by rw [List.length_drop]; omega)
    exact ⟨x :: l, by simp [hl], by rw [List.flatMap_cons, hx, ← hz, List.take_append_drop]⟩

/-- One record of a list that lies flat. -/
theorem Lies.elem {α : Type} {f : α → List Int} {n : Nat} {w : World} {B : Nat} {A : Option Addr} {l : List α} (h : Lies w B A (ints (l.flatMap f))) (hf : ∀ x, (f x).length = n) (hn : 0 < n) {k : Nat} (hk : k < l.length) :
    ∃ a, A = some a ∧ a.block < B ∧ ∀ j u, (ints (f l[k]))[j]? = some u → w.cell? ((a.add (k * n)).add j) = some u := by
  have hget : ∀ j, j < n → ∃ u, (ints (l.flatMap f))[k * n + j]? = some u ∧ (ints (f l[k]))[j]? = some u := by
    intro j hj
    have h1 := flat_get f n hf l k hk j hj
    have h2 : (f l[k])[j]? = some ((f l[k])[j]'(by rw [hf]; exact hj)) := List.getElem?_eq_getElem _
    refine ⟨.int .i64 ((f l[k])[j]'(by rw [hf]; exact hj)), ?_, ?_⟩
    · rw [ints, List.getElem?_map, h1, h2]; rfl
    · rw [ints, List.getElem?_map, h2]; rfl
  obtain ⟨u0, h0, _⟩ := hget 0 hn
  obtain ⟨a, rfl, hb, _⟩ := h _ u0 h0
  refine ⟨a, rfl, hb, fun j u hu => ?_⟩
  have hj : j < n := by
    rcases Nat.lt_or_ge j n with h | h
    · exact h
    · rw [List.getElem?_eq_none (by rw [ints_length, hf]; exact h)] at hu; cases hu
  obtain ⟨u', h1, h2⟩ := hget j hj
  rw [h2] at hu
  cases hu
  obtain ⟨a', e, _, hc⟩ := h _ _ h1
  cases e
  rw [add_add_]
  exact hc
end Go.Proofs.YtehjfmjibiafdaaGreat
