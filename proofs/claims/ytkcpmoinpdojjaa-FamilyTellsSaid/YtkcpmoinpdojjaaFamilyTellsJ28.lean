import Derived.Test.YtkcpmoinpdojjaaFamilyTellsJ7
import Derived.Test.YtkcpmoinpdojjaaFamilyTellsJ27
import Derived.Test.YtkcpmoinpdojjaaFamilyTellsJ20
import Derived.Shelf.SlSortCmp.NoneTotal
import Derived.Test.YtkcpmoinpdojjaaFamilyTellsJ3
/- Families: the plain part: bonds in the order of their children, who is above, who is under. -/
namespace Go.Proofs.Ytkcpmoinpdojjaa
open Go Go.RowKit

def ltH (a b : Hd) : Bool := decide (a.1 < b.1) || (decide (a.1 = b.1) && decide (a.2 < b.2))
theorem ltH_iff (a b : Hd) : ltH a b = true ↔ a.1 < b.1 ∨ a.1 = b.1 ∧ a.2 < b.2 := by simp [ltH]
theorem ltH_irrefl (a : Hd) : ltH a a = false := by simp [ltH]
theorem ltH_trans {a b c : Hd} (h : ltH a b = true) (k : ltH b c = true) : ltH a c = true := by rw [ltH_iff] at *; omega
theorem ltH_tri {a b : Hd} (h : ltH a b = false) (k : ltH b a = false) : a = b := by
  have h' : ¬ (a.1 < b.1 ∨ a.1 = b.1 ∧ a.2 < b.2) := fun e => by rw [(ltH_iff a b).2 e] at h; cases h
  have k' : ¬ (b.1 < a.1 ∨ b.1 = a.1 ∧ b.2 < a.2) := fun e => by rw [(ltH_iff b a).2 e] at k; cases k
  exact Prod.ext (by omega) (by omega)
theorem ltH_asymm {a b : Hd} (h : ltH a b = true) : ltH b a = false := by
  cases e : ltH b a with
  | false => rfl
  | true => have := ltH_trans h e; rw [ltH_irrefl] at this; cases this
theorem ltH_ne {a b : Hd} (h : ltH a b = true) : a ≠ b := by rintro rfl; rw [ltH_irrefl] at h; cases h

/-- The bonds stand in the order of their children; no child twice. -/
def SortB (B : List Bd) : Prop := B.Pairwise (fun a b => ltH a.1 b.1 = true)
/-- No handle is under itself. -/
def Acy (B : List Bd) : Prop := ∃ rk : Hd → Nat, ∀ b ∈ B, rk b.2 < rk b.1
structure FamOk (B : List Bd) : Prop where
  so : SortB B
  ac : Acy B
theorem famOk_nil : FamOk [] := ⟨.nil, fun _ => 0, by simp⟩

def parB (B : List Bd) (h : Hd) : Option Hd := (B.find? (fun b => decide (b.1 = h))).map (·.2)
def outB (B : List Bd) (h : Hd) : List Bd := B.filter (fun b => decide (b.1 ≠ h))
def goneB (B : List Bd) (h : Hd) : List Bd := B.filter (fun b => !(decide (b.1 = h) || decide (b.2 = h)))
def insB (B : List Bd) (x : Bd) : List Bd := (outB B x.1).takeWhile (fun b => ltH b.1 x.1) ++ x :: (outB B x.1).dropWhile (fun b => ltH b.1 x.1)
def kidsB (B : List Bd) (h : Hd) : List Hd := (B.filter (fun b => decide (b.2 = h))).map (·.1)

theorem FamOk.sub {B C : List Bd} (h : FamOk B) (hs : C.Sublist B) : FamOk C :=
  ⟨h.so.sublist hs, by obtain ⟨rk, hr⟩ := h.ac; exact ⟨rk, fun b hb => hr b (hs.subset hb)⟩⟩
theorem SortB.inj {B : List Bd} (h : SortB B) {c p q : Hd} (h1 : (c, p) ∈ B) (h2 : (c, q) ∈ B) : p = q := by
  induction B with
  | nil => cases h1
  | cons b B ih =>
    have h3 := List.pairwise_cons.1 h
    rcases List.mem_cons.1 h1 with e1 | e1 <;> rcases List.mem_cons.1 h2 with e2 | e2
    · exact congrArg Prod.snd (e1.trans e2.symm)
    · have := h3.1 _ e2; rw [← e1, ltH_irrefl] at this; cases this
    · have := h3.1 _ e1; rw [← e2, ltH_irrefl] at this; cases this
    · exact ih h3.2 e1 e2
theorem SortB.keys {B : List Bd} (h : SortB B) : B.Pairwise (fun a b => a.1 ≠ b.1) := h.imp (fun h => ltH_ne h)
theorem parB_some {B : List Bd} {h p : Hd} (e : parB B h = some p) : (h, p) ∈ B := by
  unfold parB at e
  cases hf : B.find? (fun b => decide (b.1 = h)) with
  | none => rw [hf] at e; cases e
  | some b =>
    rw [hf] at e
    have h1 := List.find?_some hf
    have h2 := List.mem_of_find?_eq_some hf
    simp only [decide_eq_true_eq] at h1
    simp only [Option.map_some, Option.some.injEq] at e
    rw [← h1, ← e]; exact h2
theorem parB_none {B : List Bd} {h : Hd} (e : parB B h = none) : ∀ b ∈ B, b.1 ≠ h := by
  unfold parB at e
  rw [Option.map_eq_none_iff, List.find?_eq_none] at e
  intro b hb
  simpa using e b hb
theorem parB_of {B : List Bd} (hs : SortB B) {h p : Hd} (hm : (h, p) ∈ B) : parB B h = some p := by
  cases e : parB B h with
  | none => exact absurd rfl (parB_none e _ hm)
  | some q => rw [hs.inj (parB_some e) hm]

/-- a is h, or above it. -/
inductive Up (B : List Bd) : Hd → Hd → Prop
  | refl (h : Hd) : Up B h h
  | step {h p a : Hd} : (h, p) ∈ B → Up B p a → Up B h a
theorem Up.trans {B : List Bd} {a b c : Hd} (h : Up B a b) (k : Up B b c) : Up B a c := by
  induction h with
  | refl => exact k
  | step hm _ ih => exact .step hm (ih k)
theorem Up.le {B : List Bd} {rk : Hd → Nat} (hr : ∀ b ∈ B, rk b.2 < rk b.1) {h a : Hd} (hu : Up B h a) : rk a ≤ rk h := by
  induction hu with
  | refl => exact Nat.le_refl _
  | step hm _ ih => have := hr _ hm; simp only at this; omega
theorem Up.cases' {B : List Bd} {h a : Hd} (hu : Up B h a) : h = a ∨ ∃ p, (h, p) ∈ B ∧ Up B p a := by
  cases hu with
  | refl => exact .inl rfl
  | step hm k => exact .inr ⟨_, hm, k⟩
theorem up_none {B : List Bd} {h a : Hd} (hp : parB B h = none) : Up B h a ↔ h = a :=
  ⟨fun hu => by rcases hu.cases' with e | ⟨p, hm, -⟩
                · exact e
                · exact absurd rfl (parB_none hp _ hm), fun e => e ▸ .refl _⟩
theorem up_some {B : List Bd} (hs : SortB B) {h p a : Hd} (hp : parB B h = some p) : Up B h a ↔ h = a ∨ Up B p a :=
  ⟨fun hu => by rcases hu.cases' with e | ⟨q, hm, hk⟩
                · exact .inl e
                · rw [hs.inj (parB_some hp) hm]; exact .inr hk, fun e => by
                rcases e with rfl | e
                · exact .refl _
                · exact .step (parB_some hp) e⟩

/-- Ranks may be bounded. -/
theorem Acy.bound {B : List Bd} (h : Acy B) : ∃ (rk : Hd → Nat) (N : Nat), (∀ b ∈ B, rk b.2 < rk b.1) ∧ ∀ x, rk x ≤ N := by
  obtain ⟨rk, hr⟩ := h
  let S : List Hd := B.map (·.1) ++ B.map (·.2)
  have hb : ∀ (S : List Hd), ∃ N, ∀ x ∈ S, rk x ≤ N := by
    intro S
    induction S with
    | nil => exact ⟨0, by simp⟩
    | cons y S ih =>
      obtain ⟨N, hN⟩ := ih
      refine ⟨max (rk y) N, fun x hx => ?_⟩
      rcases List.mem_cons.1 hx with rfl | hx
      · exact Nat.le_max_left _ _
      · exact Nat.le_trans (hN x hx) (Nat.le_max_right _ _)
  obtain ⟨N, hN⟩ := hb S
  refine ⟨fun x => if x ∈ S then rk x else 0, N, fun b hb => ?_, fun x => ?_⟩
  · have m1 : b.1 ∈ S := List.mem_append_left _ (List.mem_map.2 ⟨b, hb, rfl⟩)
    have m2 : b.2 ∈ S := List.mem_append_right _ (List.mem_map.2 ⟨b, hb, rfl⟩)
    simp only [m1, m2, if_true]
    exact hr b hb
  · by_cases hx : x ∈ S
    · simp only [hx, if_true]; exact hN x hx
    · simp [hx]

theorem mem_insB {B : List Bd} {x b : Bd} : b ∈ insB B x ↔ b = x ∨ (b ∈ B ∧ b.1 ≠ x.1) := by
  unfold insB
  rw [List.mem_append, List.mem_cons]
  have h1 : b ∈ outB B x.1 ↔ b ∈ (outB B x.1).takeWhile (fun b => ltH b.1 x.1) ∨ b ∈ (outB B x.1).dropWhile (fun b => ltH b.1 x.1) := by
    rw [← List.mem_append, List.takeWhile_append_dropWhile]
  have h2 : b ∈ outB B x.1 ↔ b ∈ B ∧ b.1 ≠ x.1 := by unfold outB; rw [List.mem_filter]; simp
  rw [← h2, h1]
  constructor
  · rintro (h | h | h)
    · exact .inr (.inl h)
    · exact .inl h
    · exact .inr (.inr h)
  · rintro (h | h | h)
    · exact .inr (.inl h)
    · exact .inl h
    · exact .inr (.inr h)
theorem dropWhile_le {B : List Bd} (hs : SortB B) {c : Hd} (hne : ∀ b ∈ B, b.1 ≠ c) : ∀ b ∈ B.dropWhile (fun b => ltH b.1 c), ltH c b.1 = true := by
  induction B with
  | nil => simp
  | cons x B ih =>
    have h3 := List.pairwise_cons.1 hs
    rw [List.dropWhile_cons]
    by_cases hx : ltH x.1 c = true
    · rw [if_pos hx]; exact ih h3.2 (fun b hb => hne b (List.mem_cons_of_mem _ hb))
    · rw [if_neg hx]
      have hcx : ltH c x.1 = true := by
        cases e : ltH c x.1 with
        | true => rfl
        | false => exact absurd (ltH_tri (by simpa using hx) e) (hne x (by simp))
      intro b hb
      rcases List.mem_cons.1 hb with rfl | hb
      · exact hcx
      · exact ltH_trans hcx (h3.1 b hb)
theorem takeWhile_lt {B : List Bd} {c : Hd} : ∀ b ∈ B.takeWhile (fun b => ltH b.1 c), ltH b.1 c = true := by
  induction B with
  | nil => simp
  | cons x B ih =>
    rw [List.takeWhile_cons]
    by_cases hx : ltH x.1 c = true
    · rw [if_pos hx]
      intro b hb
      rcases List.mem_cons.1 hb with rfl | hb
      · exact hx
      · exact ih b hb
    · rw [if_neg hx]; simp
theorem insB_sort {B : List Bd} (hs : SortB B) (x : Bd) : SortB (insB B x) := by
  have ho : SortB (outB B x.1) := hs.sublist List.filter_sublist
  have hne : ∀ b ∈ outB B x.1, b.1 ≠ x.1 := fun b hb => by
    have := (List.mem_filter.1 hb).2
    simpa using this
  unfold insB SortB
  have hd := dropWhile_le ho hne
  have ht := @takeWhile_lt (outB B x.1) x.1
  rw [List.pairwise_append]
  refine ⟨ho.sublist (List.takeWhile_sublist _), List.pairwise_cons.2 ⟨hd, ho.sublist (List.dropWhile_sublist _)⟩, ?_⟩
  intro a ha b hb
  rcases List.mem_cons.1 hb with rfl | hb
  · exact ht a ha
  · exact ltH_trans (ht a ha) (hd b hb)
theorem insB_ok {B : List Bd} (h : FamOk B) {c p : Hd} (hn : ¬ Up B p c) : FamOk (insB B (c, p)) := by
  refine ⟨insB_sort h.so _, ?_⟩
  obtain ⟨rk, hr⟩ := h.ac
  classical
  refine ⟨fun x => if Up B x c then rk x + (rk p + 1) else rk x, fun b hb => ?_⟩
  rcases mem_insB.1 hb with rfl | ⟨hb, hne⟩
  · simp only [hn, if_false, Up.refl c, if_true]; omega
  · have h1 := hr b hb
    have h2 : Up B b.1 c ↔ Up B b.2 c := by
      constructor
      · intro hu
        rcases hu.cases' with e | ⟨q, hm, hk⟩
        · exact absurd e hne
        · rw [h.so.inj (show (b.1, b.2) ∈ B from hb) hm]; exact hk
      · exact fun hu => .step (show (b.1, b.2) ∈ B from hb) hu
    by_cases hu : Up B b.2 c
    · simp only [hu, h2.2 hu, if_true]; omega
    · have hu' : ¬ Up B b.1 c := fun e => hu (h2.1 e)
      simp only [hu, hu', if_false]; exact h1
theorem insB_perm (B : List Bd) (x : Bd) : (insB B x).Perm (x :: outB B x.1) := by
  unfold insB
  refine List.perm_middle.trans (List.Perm.cons _ ?_)
  rw [List.takeWhile_append_dropWhile]
/-- A permutation of the bonds that is sorted is the bonds. -/
theorem sortB_eq {B C : List Bd} (hs : SortB B) (hp : C.Perm B) (hc : C.Pairwise (fun x y => ltH y.1 x.1 = false)) : C = B := by
  have hk : C.Pairwise (fun a b => a.1 ≠ b.1) := (List.Perm.pairwise_iff (fun h => Ne.symm h) hp).2 hs.keys
  have hc2 : SortB C := by
    refine (hc.and hk).imp ?_
    rintro a b ⟨h1, h2⟩
    cases e : ltH a.1 b.1 with
    | true => rfl
    | false => exact absurd (ltH_tri e h1) h2
  refine List.Perm.eq_of_pairwise (le := fun a b : Bd => ltH a.1 b.1 = true) (fun a b ha hb h1 h2 => ?_) hc2 hs hp
  rw [ltH_asymm h1] at h2; cases h2

/-! Who is under. -/
def underN (B : List Bd) : Nat → Hd → List Hd
  | 0, _ => []
  | n + 1, h => (kidsB B h).flatMap (fun c => c :: underN B n c)
/-- All that is under h is at most n generations below. -/
def Low (B : List Bd) : Nat → Hd → Prop
  | 0, _ => False
  | n + 1, h => ∀ c ∈ kidsB B h, Low B n c
theorem mem_kids {B : List Bd} {h c : Hd} : c ∈ kidsB B h ↔ (c, h) ∈ B := by
  unfold kidsB
  rw [List.mem_map]
  constructor
  · rintro ⟨b, hb, rfl⟩
    obtain ⟨h1, h2⟩ := List.mem_filter.1 hb
    simp only [decide_eq_true_eq] at h2
    rw [← h2]; exact h1
  · intro hm; exact ⟨(c, h), List.mem_filter.2 ⟨hm, by simp⟩, rfl⟩
theorem Low.up {B : List Bd} : ∀ {n m : Nat} {h : Hd}, Low B n h → n ≤ m → Low B m h
  | n + 1, m + 1, h, hl, hm => fun c hc => Low.up (hl c hc) (by omega)
theorem underN_eq {B : List Bd} : ∀ {n m : Nat} {h : Hd}, Low B n h → Low B m h → underN B n h = underN B m h
  | n + 1, m + 1, h, h1, h2 => by
    unfold underN
    have key : ∀ l : List Hd, (∀ c ∈ l, c ∈ kidsB B h) → l.flatMap (fun c => c :: underN B n c) = l.flatMap (fun c => c :: underN B m c) := by
      intro l
      induction l with
      | nil => intro _; rfl
      | cons c l ih =>
        intro hl
        rw [List.flatMap_cons, List.flatMap_cons, ih (fun c hc => hl c (List.mem_cons_of_mem _ hc)), underN_eq (h1 c (hl c (by simp))) (h2 c (hl c (by simp)))]
    exact key _ (fun c hc => hc)
theorem Acy.low {B : List Bd} (h : Acy B) : ∃ N, ∀ x, Low B N x := by
  obtain ⟨rk, N, hr, hN⟩ := h.bound
  have key : ∀ n x, N < rk x + n → Low B n x := by
    intro n
    induction n with
    | zero => intro x hx; have := hN x; omega
    | succ n ih =>
      intro x hx c hc
      refine ih c ?_
      have := hr _ (mem_kids.1 hc)
      simp only at this
      omega
  exact ⟨N + 1, fun x => key _ x (by omega)⟩
open Classical in
noncomputable def lowN (B : List Bd) : Nat := if h : ∃ N, ∀ x, Low B N x then h.choose else 0
noncomputable def underB (B : List Bd) (h : Hd) : List Hd := underN B (lowN B) h
theorem lowN_spec {B : List Bd} (h : Acy B) (x : Hd) : Low B (lowN B) x := by
  unfold lowN
  rw [dif_pos h.low]
  exact h.low.choose_spec x
theorem underB_eq {B : List Bd} (h : Acy B) (x : Hd) : underB B x = (kidsB B x).flatMap (fun c => c :: underB B c) := by
  have h1 : underB B x = underN B (lowN B + 1) x := underN_eq (lowN_spec h x) ((lowN_spec h x).up (by omega))
  rw [h1]; rfl
theorem mem_under {B : List Bd} : ∀ {n : Nat} {h x : Hd}, Low B n h → (x ∈ underN B n h ↔ ∃ p, (x, p) ∈ B ∧ Up B p h)
  | n + 1, h, x, hl => by
    unfold underN
    rw [List.mem_flatMap]
    constructor
    · rintro ⟨c, hc, hx⟩
      rcases List.mem_cons.1 hx with rfl | hx
      · exact ⟨h, mem_kids.1 hc, .refl _⟩
      · obtain ⟨p, h1, h2⟩ := (mem_under (hl c hc)).1 hx
        exact ⟨p, h1, h2.trans (.step (mem_kids.1 hc) (.refl _))⟩
    · rintro ⟨p, h1, h2⟩
      -- the last step of the way up
      have key : ∀ {a : Hd}, Up B a h → a = h ∨ ∃ c, (c, h) ∈ B ∧ Up B a c := by
        intro a hu
        induction hu with
        | refl => exact .inl rfl
        | @step a q z hm hk ih =>
          rcases ih hl h2 with e | ⟨c, h3, h4⟩
          · subst e; exact .inr ⟨a, hm, .refl _⟩
          · exact .inr ⟨c, h3, .step hm h4⟩
      rcases key h2 with rfl | ⟨c, h3, h4⟩
      · exact ⟨x, mem_kids.2 h1, by simp⟩
      · exact ⟨c, mem_kids.2 h3, List.mem_cons_of_mem _ ((mem_under (hl c (mem_kids.2 h3))).2 ⟨p, h1, h4⟩)⟩
theorem mem_underB {B : List Bd} (h : FamOk B) {c p : Hd} : (c = p ∨ p ∈ underB B c) ↔ Up B p c := by
  unfold underB
  rw [mem_under (lowN_spec h.ac c)]
  constructor
  · rintro (rfl | ⟨q, h1, h2⟩)
    · exact .refl _
    · exact .step h1 h2
  · intro hu
    rcases hu.cases' with e | ⟨q, h1, h2⟩
    · exact .inl e.symm
    · exact .inr ⟨q, h1, h2⟩
/-- How many are under: no more than there are bonds. -/
theorem nodup_le {α : Type} [DecidableEq α] : ∀ {xs ys : List α}, xs.Nodup → (∀ x ∈ xs, x ∈ ys) → xs.length ≤ ys.length
  | [], _, _, _ => by simp
  | x :: xs, ys, hn, hs => by
    have h1 := List.nodup_cons.1 hn
    have h2 := nodup_le (xs := xs) (ys := ys.erase x) h1.2 (fun y hy => by
      refine (List.mem_erase_of_ne ?_).2 (hs y (List.mem_cons_of_mem _ hy))
      rintro rfl; exact h1.1 hy)
    have h3 := List.length_erase_of_mem (hs x (by simp))
    have h4 : 0 < ys.length := List.length_pos_of_mem (hs x (by simp))
    rw [List.length_cons]; omega
theorem kids_nodup {B : List Bd} (hs : SortB B) (h : Hd) : (kidsB B h).Nodup := by
  unfold kidsB List.Nodup
  rw [List.pairwise_map]
  exact hs.keys.sublist List.filter_sublist
theorem Up.lin {B : List Bd} (hs : SortB B) {x a b : Hd} (h : Up B x a) (k : Up B x b) : Up B a b ∨ Up B b a := by
  induction h with
  | refl => exact .inl k
  | step hm h' ih =>
    rcases k.cases' with rfl | ⟨q, hm2, hk⟩
    · exact .inr (.step hm h')
    · rw [hs.inj hm2 hm] at hk; exact ih hk
theorem under_nodup {B : List Bd} (h : FamOk B) : ∀ {n : Nat} {x : Hd}, Low B n x → (underN B n x).Nodup
  | n + 1, x, hl => by
    obtain ⟨rk, hr⟩ := h.ac
    unfold underN List.Nodup
    rw [List.pairwise_flatMap]
    refine ⟨fun c hc => List.nodup_cons.2 ⟨fun hm => ?_, under_nodup h (hl c hc)⟩, ?_⟩
    · obtain ⟨p, h1, h2⟩ := (mem_under (hl c hc)).1 hm
      have := hr _ h1
      have := h2.le hr
      simp only at *
      omega
    · refine List.Pairwise.imp_of_mem ?_ (kids_nodup h.so x)
      intro a b ha hb hne y hy z hz e
      subst e
      have ua : Up B y a := by
        rcases List.mem_cons.1 hy with rfl | hy
        · exact .refl _
        · obtain ⟨p, h1, h2⟩ := (mem_under (hl a ha)).1 hy; exact .step h1 h2
      have ub : Up B y b := by
        rcases List.mem_cons.1 hz with rfl | hz
        · exact .refl _
        · obtain ⟨p, h1, h2⟩ := (mem_under (hl b hb)).1 hz; exact .step h1 h2
      have ma := mem_kids.1 ha
      have mb := mem_kids.1 hb
      have r1 := hr _ ma
      have r2 := hr _ mb
      simp only at r1 r2
      rcases ua.lin h.so ub with hu | hu
      · rcases hu.cases' with e | ⟨q, hm, hk⟩
        · exact hne e
        · have := h.so.inj hm ma
          subst this
          have := hk.le hr
          omega
      · rcases hu.cases' with e | ⟨q, hm, hk⟩
        · exact hne e.symm
        · have := h.so.inj hm mb
          subst this
          have := hk.le hr
          omega
theorem under_len {B : List Bd} (h : FamOk B) (x : Hd) : (underB B x).length ≤ B.length := by
  have h1 := nodup_le (under_nodup h (lowN_spec h.ac x)) (ys := B.map (·.1)) (fun y hy => by
    obtain ⟨p, h1, -⟩ := (mem_under (lowN_spec h.ac x)).1 hy
    exact List.mem_map.2 ⟨_, h1, rfl⟩)
  rw [List.length_map] at h1
  exact h1
end Go.Proofs.Ytkcpmoinpdojjaa

/- Families: the map of the program; New, Parent, Loosen. (printed by mk_fam1.py) -/
namespace Go.Proofs.Ytkcpmoinpdojjaa
open Go Go.RowKit Go.Maps
attribute [local go_sem] AllFrom.cons_eq AllFrom.nil_eq putF_nil putF_cons wantedL_none wantedL_some OpGoalT OpGoalV OpGoalQ OpGoalA OpGoalK YieldsR preF_nil preF_cons

def bdPr (b : Bd) : Value × Value := (hdV b.1, hdV b.2)
theorem bdPr_keys : HdKeys (β := Hd) bdPr := ⟨fun _ => rfl⟩
/-- Block f is a family of the bonds B; F: its blocks. -/
structure RepF (w : World) (f : Nat) (B : List Bd) (F : List Nat) : Prop where
  ok : FamOk B
  r : ∀ b ∈ B, HdR b.1 ∧ HdR b.2
  at_ : ∃ (m : Nat) (l : List Bd), w.heap[f]? = some (.cells #[.map (some m)] 156 (0, 0)) ∧ MapAt Try.prog 45 w m (l.map bdPr) ∧ l.Perm B ∧ F = [f, m] ∧ f ≠ m
theorem RepF.mod {w w' : World} {f : Nat} {B : List Bd} {F G : List Nat} (h : RepF w f B F) (hm : Mod G w w') (hd : ∀ y ∈ F, y ∉ G) : RepF w' f B F := by
  obtain ⟨ho, hr, m, l, h1, h2, h3, rfl, h5⟩ := h
  exact ⟨ho, hr, m, l, hm.keep h1 (hd f (by simp)), h2.mod hm (hd m (by simp)), h3, rfl, h5⟩
theorem RepF.below {w w' : World} {f : Nat} {B : List Bd} {F : List Nat} (h : RepF w f B F) (hb : Below w.heap.size w w') : RepF w' f B F := h.mod (Mod.ofBelow hb) (by simp)
theorem RepF.lt {w : World} {f : Nat} {B : List Bd} {F : List Nat} (h : RepF w f B F) : ∀ y ∈ F, y < w.heap.size := by
  obtain ⟨ho, hr, m, l, h1, h2, h3, rfl, h5⟩ := h
  intro y hy
  simp only [List.mem_cons, List.not_mem_nil, or_false] at hy
  rcases hy with rfl | rfl
  · exact blk_lt h1
  · exact h2.lt
theorem MapAt.freshH {w' : World} {b : Nat} (h : w'.heap[b]? = some (.map #[] 0)) : MapAt Try.prog 45 w' b [] := ⟨#[], 0, h, ⟨Go.MapKept.stamped_empty 0, by simp, rfl⟩⟩

def NewF (w : World) (e : Ending) (w' : World) : Prop := ∃ f F, e = .returned (.pointer (some ⟨f, 0, none⟩)) ∧ RepF w' f [] F ∧ (∀ y ∈ F, w.heap.size ≤ y) ∧ Below w.heap.size w w'
set_option maxRecDepth 20000 in
theorem famNew_any (w : World) : Calls Try.prog 38 #[] w (NewF w) := by
  have hmm := @run_makeMap Try.prog
  obtain ⟨w2, hw2⟩ : ∃ w2, (w.alloc (.map #[] 0)).alloc (.cells #[.map (some w.heap.size)] 156) = w2 := ⟨_, rfl⟩
  have h0 : w2.heap[w.heap.size]? = some (.map #[] 0) := by rw [← hw2]; exact blk_alloc (MapKept.heap_alloc w _).1 _
  have h1 : w2.heap[w.heap.size + 1]? = some (.cells #[.map (some w.heap.size)] 156 (0, 0)) := by
    rw [← hw2]; have := heap_alloc_new (w.alloc (.map #[] 0)) (.cells #[.map (some w.heap.size)] 156); simpa using this
  have hb2 : Below w.heap.size w w2 := by rw [← hw2]; exact ((Below.refl _ _).alloc (Nat.le_refl _) _).alloc (by simp) _
  have Hw2 := Lib.hid hw2; have H0 := Lib.hid h0; have H1 := Lib.hid h1; have Hb2 := Lib.hid hb2
  clear hw2 h0 h1 hb2
  go_enter Try.func38, Try.ntmps38
  go_wp2
  go_ret
  rw [Hw2.out]
  refine ⟨w.heap.size + 1, [w.heap.size + 1, w.heap.size], rfl, ⟨famOk_nil, by simp, w.heap.size, [], H1.out, MapAt.freshH H0.out, .refl _, rfl, by omega⟩, ?_, Hb2.out⟩
  intro y hy
  simp only [List.mem_cons, List.not_mem_nil, or_false] at hy
  omega

section
variable {w : World} {f : Nat} {B : List Bd} {F : List Nat}
/-- A look-up in the family's map, in whatever world holds it. -/
def parV (o : Option Hd) : Hd := o.getD (0, 0)
theorem RepF.look (h : RepF w f B F) : ∃ m, F = [f, m] ∧ (∀ W, Below w.heap.size w W → W.cell? ⟨f, 0, none⟩ = some (.map (some m)) ∧ f < W.heap.size ∧ ∀ s g, HdR (s, g) →
    (Instr.lookup 154 (.map (some m)) (.agg #[.int .i64 s, .int .i64 g]) true).run Try.prog W = .ok (.tuple #[hdV (parV (parB B (s, g))), .bool (parB B (s, g)).isSome]) W) := by
  obtain ⟨ho, hr, m, l, h1, h2, h3, rfl, h5⟩ := h
  refine ⟨m, rfl, fun W hb => ?_⟩
  have hm := Mod.ofBelow hb
  have h1' := hm.keep h1 (by simp)
  have h2' := h2.mod hm (by simp)
  have e0 := blk_cell h1' 0
  simp only [List.getElem?_toArray, List.getElem?_cons_zero] at e0
  refine ⟨e0, blk_lt h1', fun s g hsg => ?_⟩
  rw [show (.agg #[.int .i64 s, .int .i64 g] : Value) = hdV (s, g) from rfl]
  cases hp : parB B (s, g) with
  | some p => exact mh_in bdPr_keys Try.underlying154 h2' hsg (h3.mem_iff.2 (parB_some hp)) true
  | none => exact mh_out bdPr_keys Try.underlying154 (Try.zeroValue45 _) h2' hsg (fun x hx => parB_none hp x (h3.mem_iff.1 hx)) true

def ParPost (o : Option Hd) (w : World) (e : Ending) (w' : World) : Prop := e = .returned (.tuple #[hdV (parV o), .bool o.isSome]) ∧ Below w.heap.size w w'
set_option maxRecDepth 20000 in
set_option maxHeartbeats 4000000 in
theorem parent_any (h : RepF w f B F) (s g : Int) (hr : HdR (s, g)) : Calls Try.prog 42 #[.pointer (some ⟨f, 0, none⟩), .agg #[.int .i64 s, .int .i64 g]] w (ParPost (parB B (s, g)) w) := by
  obtain ⟨m, -, hL⟩ := h.look
  obtain ⟨w0, hw0, hb0, hz0, hs0⟩ := box1 w (.cells #[.int .i64 s, .int .i64 g] 45)
  obtain ⟨w1, hw1, hb1, hz1, hs1⟩ := box1 w0 (.cells #[.int .i64 0, .int .i64 0] 45)
  have hz01 := (Mod.ofBelow hb1).keep hz0 (by simp)
  have hB1 := hb0.trans (hb1.mono hb0.size)
  have hL1 := fun W (hW : Below w1.heap.size w1 W) => (⟨(hL W (hB1.trans (hW.mono hB1.size))).1, (hL W (hB1.trans (hW.mono hB1.size))).2.1, (hL W (hB1.trans (hW.mono hB1.size))).2.2 s g hr⟩ : _ ∧ _ ∧ _)
  generalize parB B (s, g) = o at *
  unfold ParPost
  obtain ⟨⟨ps, pg⟩, hps⟩ : ∃ x, parV o = x := ⟨_, rfl⟩
  simp only [hdV, handleC, hps] at hL1 ⊢
  generalize o.isSome = bo at *
  obtain ⟨zl, hzl⟩ : ∃ zl, zl = ints [0, 0] := ⟨_, rfl⟩
  obtain ⟨rl, hrl⟩ : ∃ rl, rl = ints [ps, pg] := ⟨_, rfl⟩
  have Hb0 := Lib.hid hb0; have Hs0 := Lib.hid hs0; have Hs1 := Lib.hid hs1; have HB1 := Lib.hid hB1; have HH := Lib.hid hb1; have Hz := Lib.hid hz01; have Hu := Lib.hid hz1; have HL := Lib.hid hL1; have Hzl := Lib.hid hzl; have Hrl := Lib.hid hrl
  clear hb0 hs0 hs1 hB1 hb1 hz01 hz1 hL1 hzl hrl
  clear hz0 hL h hps
  go_enter Try.func42, Try.ntmps42
  go_wp2_with fail
  clear hw0 hw1
  refine wp_planK [9] 11 [0] [some 9, some 10, some 11, some 12, some 13, some 14, some 8, some 15, some 16, some 6, none, some 7] [[], [0], [0, 1], [0, 1, 2], [], [0, 1, 2, 3, 4], [0, 1, 2, 3, 4, 5], [0, 1, 2, 3, 4, 5, 6], [0, 1, 2, 3, 4, 5, 6], [], [0, 1, 2, 3, 4, 5, 6, 7, 9], [0, 1, 2, 3, 4, 5, 6, 7, 8, 9, 10]] [0, 1, 2, 3, 4, 5, 6, 7, 8, 9, 10] (fun L σ V => IGet 9 10 w1 zl.toArray rl.toArray 45 L σ V) mixed rfl (by kernel_rfl) (by decide) (by decide) (by decide) (IGet.start (Below.refl _ _).drew) rfl ?_
  iterate 11 apply Exists.intro
  refine ⟨rfl, ?_, ?_⟩
  · simp only [List.take_succ_cons, List.take_zero, AllFrom.cons_eq, AllFrom.nil_eq, OpGoalK]
    refine ⟨?_, ?_, ?_, ?_, ?_, ?_, ?_, ?_, ?_, ?_, ?_, trivial⟩
    all_goals (intro L' σ V h1 h2 h3 hI hp; have HA1 := Lib.hid h1; have HA2 := Lib.hid h2; have HA3 := Lib.hid h3; clear h1 h2 h3; (try simp only [List.getD_cons_zero, List.getD_cons_succ, preK_cons, preK_nil] at hp); (try simp only [List.mem_cons, List.not_mem_nil, or_false, eq_self, Nat.reduceEqDiff, Nat.reduceAdd, Nat.zero_add, false_or, true_or, true_and, and_true] at hp); (first | (have hq : True := hp; clear hq hp) | skip); have HI := Lib.hid hI; clear hI)
    all_goals (
      have hLV := HL.out V HI.out.b
      have hc := hLV.1; have hl := hLV.2.1; have hk := hLV.2.2
      have hzV := (Mod.ofBelow HI.out.b).keep Hz.out (by simp)
      have q0 := blk_cell hzV 0
      have q1 := blk_cell hzV 1
      simp only [List.getElem?_toArray, List.getElem?_cons_zero, List.getElem?_cons_succ] at q0 q1
      have ql := blk_lt hzV
      clear hLV hzV)
    · (go_simp; exact ⟨.inr rfl, HI.out.read (by decide) (by decide) _⟩)
    · (go_simp; exact ⟨.inr rfl, HI.out.read (by decide) (by decide) _⟩)
    · (go_simp; exact ⟨.inr rfl, HI.out.read (by decide) (by decide) _⟩)
    · (go_simp; exact ⟨.inr rfl, HI.out.read (by decide) (by decide) _⟩)
    · (go_simp; exact ⟨.inr rfl, HI.out.read (by decide) (by decide) _⟩)
    · (go_simp; exact ⟨.inr rfl, HI.out.read (by decide) (by decide) _⟩)
    · (go_simp; exact ⟨.inr rfl, HI.out.read (by decide) (by decide) _⟩)
    · (go_simp; exact ⟨.inr rfl, HI.out.read (by decide) (by decide) _⟩)
    · (go_simp; exact ⟨.inr rfl, HI.out.read (by decide) (by decide) _⟩)
    · go_simp
      have hmk := HI.out.made (by decide) (HA3.out 10 (by decide))
      rw [Hzl.out] at hmk ⊢
      exact PostK.mk (c := undef) (.inl (by decide)) hmk
    · simp only [wantedL_none, if_true, Nat.reduceAdd, Nat.zero_add]
      have x3 := HA1.out
      simp only [Nat.reduceAdd, Nat.zero_add] at x3
      generalize hρ : Act.eval _ = ρ
      refine IGet.yr_stored HI.out (by decide) (HA2.out 9 (by decide)) x3 (by rw [Hzl.out, Hrl.out]; rfl) 45 (.tmp 6) (.tmp 15) rfl ?_ ?_ (by rw [Hrl.out]; kernel_rfl) (by rw [Hrl.out]; exact ints_one _) (fun V' hV' => PostK.mk (c := undef) (.inr rfl) hV')
      · rw [← hρ]
        go_simp
      · rw [← hρ]
        go_simp
        rw [Hrl.out]
        rfl
  · intro L' σ V h1 hI hp
    obtain ⟨r, s9, hr, hst⟩ := hI.blk (h1 9 (by decide))
    rw [if_pos (h1 10 (by decide)), Hrl.out] at hst
    clear h1
    simp only [preK_cons, preK_nil, List.getD_cons_zero, List.getD_cons_succ] at hp; simp only [List.mem_cons, List.not_mem_nil, or_false, eq_self, Nat.reduceEqDiff, false_or, true_or, true_and, and_true] at hp
    have HB := Lib.hid hI.b
    have Hr := Lib.hid hr
    have Hst := Lib.hid hst
    clear hI hst hr
    simp only [List.drop_succ_cons, List.drop_zero]
    go_simp
    clear hp
    generalize σ 9 = v9 at *
    subst s9
    have hst : V.heap[r]? = some (.cells #[.int .i64 ps, .int .i64 pg] 45 (0, 0)) := Hst.out
    have hu := (Mod.ofBelow HB.out).keep Hu.out (by simp)
    have hr := Hr.out
    have hs1 := Hs1.out
    have hs0 := Hs0.out
    have n1 : r ≠ w0.heap.size := by omega
    have n2 : w0.heap.size ≠ r := by omega
    have hle : w.heap.size ≤ w0.heap.size := by omega
    have v0 := blk_cell hst 0
    have v1 := blk_cell hst 1
    simp only [List.getElem?_toArray, List.getElem?_cons_zero, List.getElem?_cons_succ] at v0 v1
    have vl := blk_lt hst
    have u0 := blk_cell hu 0
    have u1 := blk_cell hu 1
    simp only [List.getElem?_toArray, List.getElem?_cons_zero, List.getElem?_cons_succ] at u0 u1
    have ul := blk_lt hu
    have f0 := blk_free hu 0
    have f1 := blk_free hu 1
    have hBf : Below w.heap.size w V := HB1.out.trans (HB.out.mono HB1.out.size)
    have HBf := Lib.hid hBf
    clear hBf
    clear hst hu hr hs1 hs0
    go_wp2_with fail
    refine ⟨rfl, ?_⟩
    go_wp2
    refine bodyPost_ret (v := .tuple #[.agg #[.int .i64 ps, .int .i64 pg], .bool bo]) (by unfold results; try go_simp) rfl ?_
    refine ⟨rfl, ?_⟩
    repeat (refine Below.setCell ?_ hle _)
    exact HBf.out
  all_goals exact undef

theorem RepF.del {k p : Hd} (h : RepF w f B F) (hm : (k, p) ∈ B) (ty : TypeId) : ∃ (m : Nat) (w' : World), F = [f, m] ∧ w.cell? ⟨f, 0, none⟩ = some (.map (some m)) ∧ f < w.heap.size ∧
    (Builtin.delete_ #[154, 45] ty #[.map (some m), hdV k]).run Try.prog w = .ok (.tuple #[]) w' ∧ RepF w' f (outB B k) F ∧ Mod [m] w w' := by
  obtain ⟨ho, hr, m, l, h1, h2, h3, rfl, h5⟩ := h
  obtain ⟨w', l', a1, a2, rfl, a4, -⟩ := mh_del (ty := ty) bdPr_keys Try.underlying154 h2 (hr _ hm).1 (h3.mem_iff.2 hm)
  have e0 := blk_cell h1 0
  simp only [List.getElem?_toArray, List.getElem?_cons_zero] at e0
  refine ⟨m, w', rfl, e0, blk_lt h1, a1, ⟨ho.sub List.filter_sublist, fun b hb => hr b (List.mem_filter.1 hb).1, m, _, a4.keep h1 (by simpa using h5), a2, h3.filter _, rfl, h5⟩, a4⟩
theorem RepF.upd {k p : Hd} (h : RepF w f B F) (hk : HdR k) (hp : HdR p) (ho' : FamOk (insB B (k, p))) : ∃ (m : Nat) (w' : World), F = [f, m] ∧ w.cell? ⟨f, 0, none⟩ = some (.map (some m)) ∧ f < w.heap.size ∧
    (Instr.mapUpdate 154 (.map (some m)) (hdV k) (hdV p)).run Try.prog w = .ok () w' ∧ RepF w' f (insB B (k, p)) F ∧ Mod [m] w w' := by
  obtain ⟨ho, hr, m, l, h1, h2, h3, rfl, h5⟩ := h
  obtain ⟨w', l', a1, a2, a3, a4, -⟩ := mh_upd bdPr_keys Try.underlying154 h2 hk p
  have e0 := blk_cell h1 0
  simp only [List.getElem?_toArray, List.getElem?_cons_zero] at e0
  refine ⟨m, w', rfl, e0, blk_lt h1, a1, ⟨ho', fun b hb => ?_, m, _, a4.keep h1 (by simpa using h5), a2, ?_, rfl, h5⟩, a4⟩
  · rcases mem_insB.1 hb with rfl | ⟨hb, -⟩
    · exact ⟨hk, hp⟩
    · exact hr b hb
  · exact a3.trans (((h3.filter _).cons _).trans (insB_perm B (k, p)).symm)

def looE (o : Option Hd) : Int := if o.isSome then 0 else 5
def FRet (B' : List Bd) (r : Value) (f : Nat) (F : List Nat) (w : World) (e : Ending) (w' : World) : Prop := e = .returned r ∧ RepF w' f B' F ∧ Mod F w w'
theorem outB_none {k : Hd} (h : parB B k = none) : outB B k = B := List.filter_eq_self.2 fun b hb => by simpa using parB_none h b hb
set_option maxRecDepth 20000 in
set_option maxHeartbeats 4000000 in
theorem loosen_any (h : RepF w f B F) (s g : Int) (hr : HdR (s, g)) : Calls Try.prog 92 #[.pointer (some ⟨f, 0, none⟩), .agg #[.int .i64 s, .int .i64 g]] w (FRet (outB B (s, g)) (.int .i64 (looE (parB B (s, g)))) f F w) := by
  obtain ⟨m, hF, hL⟩ := h.look
  obtain ⟨w0, hw0, hb0, hz0, hs0⟩ := box1 w (.cells #[.int .i64 s, .int .i64 g] 45)
  have hL1 := fun W (hW : Below w0.heap.size w0 W) => (⟨(hL W (hb0.trans (hW.mono hb0.size))).1, (hL W (hb0.trans (hW.mono hb0.size))).2.1, (hL W (hb0.trans (hW.mono hb0.size))).2.2 s g hr⟩ : _ ∧ _ ∧ _)
  have ho : parB B (s, g) = parB B (s, g) := rfl
  generalize hoo : parB B (s, g) = o at hL1 ⊢
  obtain ⟨⟨ps, pg⟩, hps⟩ : ∃ x, parV o = x := ⟨_, rfl⟩
  simp only [hdV, handleC, hps] at hL1
  have h0 := h.below hb0
  obtain ⟨zl, hzl⟩ : ∃ zl, zl = ints [0, 0] := ⟨_, rfl⟩
  obtain ⟨rl, hrl⟩ : ∃ rl, rl = ints [ps, pg] := ⟨_, rfl⟩
  generalize hbo : o.isSome = bo at hL1
  have Hb0 := Lib.hid hb0; have Hs0 := Lib.hid hs0; have Hz := Lib.hid hz0; have HL := Lib.hid hL1; have Hzl := Lib.hid hzl; have Hrl := Lib.hid hrl; have H0 := Lib.hid h0; have Hps := Lib.hid hps; have Hoo := Lib.hid hoo; have HF := Lib.hid hF; have Hbo := Lib.hid hbo
  clear hb0 hs0 hz0 hL1 hzl hrl h0 hps hoo hF hbo
  clear hL h ho hr
  go_enter Try.func92, Try.ntmps92
  go_wp2_with fail
  clear hw0
  refine wp_planK [9] 11 [0] [some 8, some 9, some 10, some 11, some 12, some 13, some 7, some 14, some 15, some 5, none, some 6] [[], [0], [0, 1], [0, 1, 2], [], [0, 1, 2, 3, 4], [0, 1, 2, 3, 4, 5], [0, 1, 2, 3, 4, 5, 6], [0, 1, 2, 3, 4, 5, 6], [], [0, 1, 2, 3, 4, 5, 6, 7, 9], [0, 1, 2, 3, 4, 5, 6, 7, 8, 9, 10]] [0, 1, 2, 3, 4, 5, 6, 7, 8, 9, 10] (fun L σ V => IGet 9 10 w0 zl.toArray rl.toArray 45 L σ V) mixed rfl (by kernel_rfl) (by decide) (by decide) (by decide) (IGet.start (Below.refl _ _).drew) rfl ?_
  iterate 11 apply Exists.intro
  refine ⟨rfl, ?_, ?_⟩
  · simp only [List.take_succ_cons, List.take_zero, AllFrom.cons_eq, AllFrom.nil_eq, OpGoalK]
    refine ⟨?_, ?_, ?_, ?_, ?_, ?_, ?_, ?_, ?_, ?_, ?_, trivial⟩
    all_goals (intro L' σ V h1 h2 h3 hI hp; have HA1 := Lib.hid h1; have HA2 := Lib.hid h2; have HA3 := Lib.hid h3; clear h1 h2 h3; (try simp only [List.getD_cons_zero, List.getD_cons_succ, preK_cons, preK_nil] at hp); (try simp only [List.mem_cons, List.not_mem_nil, or_false, eq_self, Nat.reduceEqDiff, Nat.reduceAdd, Nat.zero_add, false_or, true_or, true_and, and_true] at hp); (first | (have hq : True := hp; clear hq hp) | skip); have HI := Lib.hid hI; clear hI)
    all_goals (
      have hLV := HL.out V HI.out.b
      have hc := hLV.1; have hl := hLV.2.1; have hk := hLV.2.2
      have hzV := (Mod.ofBelow HI.out.b).keep Hz.out (by simp)
      have q0 := blk_cell hzV 0
      have q1 := blk_cell hzV 1
      simp only [List.getElem?_toArray, List.getElem?_cons_zero, List.getElem?_cons_succ] at q0 q1
      have ql := blk_lt hzV
      clear hLV hzV)
    · (go_simp; exact ⟨.inr rfl, HI.out.read (by decide) (by decide) _⟩)
    · (go_simp; exact ⟨.inr rfl, HI.out.read (by decide) (by decide) _⟩)
    · (go_simp; exact ⟨.inr rfl, HI.out.read (by decide) (by decide) _⟩)
    · (go_simp; exact ⟨.inr rfl, HI.out.read (by decide) (by decide) _⟩)
    · (go_simp; exact ⟨.inr rfl, HI.out.read (by decide) (by decide) _⟩)
    · (go_simp; exact ⟨.inr rfl, HI.out.read (by decide) (by decide) _⟩)
    · (go_simp; exact ⟨.inr rfl, HI.out.read (by decide) (by decide) _⟩)
    · (go_simp; exact ⟨.inr rfl, HI.out.read (by decide) (by decide) _⟩)
    · (go_simp; exact ⟨.inr rfl, HI.out.read (by decide) (by decide) _⟩)
    · go_simp
      have hmk := HI.out.made (by decide) (HA3.out 10 (by decide))
      rw [Hzl.out] at hmk ⊢
      exact PostK.mk (c := undef) (.inl (by decide)) hmk
    · simp only [wantedL_none, if_true, Nat.reduceAdd, Nat.zero_add]
      have x3 := HA1.out
      simp only [Nat.reduceAdd, Nat.zero_add] at x3
      generalize hρ : Act.eval _ = ρ
      refine IGet.yr_stored HI.out (by decide) (HA2.out 9 (by decide)) x3 (by rw [Hzl.out, Hrl.out]; rfl) 45 (.tmp 5) (.tmp 14) rfl ?_ ?_ (by rw [Hrl.out]; kernel_rfl) (by rw [Hrl.out]; exact ints_one _) (fun V' hV' => PostK.mk (c := undef) (.inr rfl) hV')
      · rw [← hρ]
        go_simp
      · rw [← hρ]
        go_simp
        rw [Hrl.out]
        rfl
  · intro L' σ V h1 hI hp
    obtain ⟨r, s9, hr, hst⟩ := hI.blk (h1 9 (by decide))
    rw [if_pos (h1 10 (by decide)), Hrl.out] at hst
    clear h1
    simp only [preK_cons, preK_nil, List.getD_cons_zero, List.getD_cons_succ] at hp; simp only [List.mem_cons, List.not_mem_nil, or_false, eq_self, Nat.reduceEqDiff, false_or, true_or, true_and, and_true] at hp
    have HB := Lib.hid hI.b
    have Hr := Lib.hid hr
    have Hst := Lib.hid hst
    clear hI hst hr
    simp only [List.drop_succ_cons, List.drop_zero]
    go_simp
    clear hp
    generalize σ 9 = v9 at *
    subst s9
    have hz := (Mod.ofBelow HB.out).keep Hz.out (by simp)
    have h1 := H0.out.below HB.out
    have hBf : Below w.heap.size w V := Hb0.out.trans (HB.out.mono Hb0.out.size)
    go_wp2_with fail
    refine ⟨rfl, ?_⟩
    cases o with
    | none =>
      obtain rfl : bo = false := Hbo.out.symm
      have HX := Lib.hid h1
      have HBf := Lib.hid hBf
      clear hBf
      clear hz h1
      go_wp2
      go_ret
      rw [outB_none Hoo.out]
      exact ⟨rfl, HX.out, Mod.ofBelow (HBf.out) |>.mono (by simp)⟩
    | some q =>
      obtain rfl : bo = true := Hbo.out.symm
      obtain ⟨m1, w4, hF1, hc, hl, hrun, h4, hm4⟩ := (h1.below below_drew).del (parB_some Hoo.out) 0
      obtain rfl : m1 = m := by
        have := hF1.symm.trans HF.out
        simpa using this
      have hM : Mod F w w4 := (((Mod.ofBelow hBf).mono (by simp) : Mod F w V).andBelow below_drew).step (hm4.mono (by rw [HF.out]; intro x hx; exact .inl (by simp at hx; simp [hx])))
      simp only [hdV, handleC] at hrun
      have q0 := blk_cell hz 0
      have q1 := blk_cell hz 1
      simp only [List.getElem?_toArray, List.getElem?_cons_zero, List.getElem?_cons_succ] at q0 q1
      have ql := blk_lt hz
      have hc' : V.cell? ⟨f, 0, none⟩ = some (.map (some m1)) := hc
      have hl' : f < V.heap.size := hl
      have H4 := Lib.hid h4; have HM := Lib.hid hM
      clear h4 hM
      clear hz h1 hBf hm4 hF1 hc hl
      go_wp2_with fail
      refine wp_planR 5 [0] [some 18, some 19, some 20, some 21, some 22, none] [[], [0], [0, 1], [0, 1, 2], [], [0, 1, 2, 3, 4]] [0, 1, 2, 3, 4] mixed rfl (by kernel_rfl) (by decide) (by decide) rfl ?_
      iterate 5 apply Exists.intro
      refine ⟨rfl, ?_, ?_⟩
      · simp only [List.take_succ_cons, List.take_zero, AllFrom.cons_eq, AllFrom.nil_eq, OpGoalQ]
        refine ⟨?_, ?_, ?_, ?_, ?_, trivial⟩
        all_goals (intro σ hp; (try simp only [List.getD_cons_zero, List.getD_cons_succ, List.map_cons, List.map_nil, preF_cons, preF_nil, isV, and_true] at hp); (first | (have hq : True := hp; clear hq hp) | skip))
        all_goals (go_simp; exact ⟨rfl, rfl⟩)
      intro σ hp
      simp only [List.getD_cons_zero, List.getD_cons_succ, List.map_cons, List.map_nil, preF_cons, preF_nil, isV, and_true] at hp
      simp only [List.drop_succ_cons, List.drop_zero]
      go_simp
      clear hp
      go_wp2
      refine ⟨rfl, ?_⟩
      go_wp2
      go_ret
      exact ⟨rfl, H4.out, HM.out⟩
  all_goals exact undef
end
end Go.Proofs.Ytkcpmoinpdojjaa

/- slices.SortFunc at a row of records of one's own: it is permuted, and sorted. -/
namespace Go.Proofs.Ytkcpmoinpdojjaa
open Go Go.RowKit Go.Shelf Go.Sort

section
variable {α : Type} [Inhabited α] {enc : α → List Value} {k : Nat}
theorem get_bang {l : List α} {i : Nat} (h : i < l.length) : l.toArray[i]! = l[i] := by
  rw [getElem!_pos _ i (by simpa using h)]; simp
theorem flat_bang (hk : ∀ x, (enc x).length = k) (l : List α) (t : Nat) (ht : t < l.length * k) : (l.flatMap enc)[t]? = some (flatK enc k l.toArray)[t]! := by
  have k0 : 0 < k := by rcases Nat.eq_zero_or_pos k with h | h
                        · subst h; simp at ht
                        · exact h
  have hq : t / k < l.length := Nat.div_lt_of_lt_mul (by rw [Nat.mul_comm]; exact ht)
  have hr : t % k < k := Nat.mod_lt _ k0
  rw [get_flatK _ _ _ _ (by simpa using ht), get_bang hq]
  have h1 := flatV_get hk l (t / k) hq (t % k) hr
  rw [show t / k * k + t % k = t by rw [Nat.mul_comm]; exact Nat.div_add_mod t k] at h1
  rw [h1, List.getElem?_eq_getElem (by rw [hk]; exact hr), getElem!_pos _ _ (by rw [hk]; exact hr)]
/-- The row, laid anew with as many records. -/
theorem own_putRowK (hk : ∀ x, (enc x).length = k) {w : World} {B E g cap : Nat} {l l' : List α} (hown : w.ownsRow B E k (.slice (some ⟨g, 0, none⟩) l.length cap) l.length (l.flatMap enc)) (hl : l'.length = l.length) (m : Nat) (os : Array Obj) :
    (sortWorldK enc k w g 0 m l'.toArray os).ownsRow B E k (.slice (some ⟨g, 0, none⟩) l'.length cap) l'.length (l'.flatMap enc) ∧ Mod [g] w (sortWorldK enc k w g 0 m l'.toArray os) := by
  obtain ⟨hx, ⟨h, -⟩ | ⟨g', cap', cur, h, hB, hb, hn, hc, hs, ht⟩⟩ := hown
  · cases h
  simp only [Value.slice.injEq, Option.some.injEq, Addr.mk.injEq, true_and] at h
  obtain ⟨⟨rfl, -⟩, rfl⟩ := h
  have hgl := blk_lt hb
  have hput : (putRowK enc k (Sort.ahead w m) g 0 l'.toArray).heap[g]? = some (.cells (putCells id 0 (flatK enc k l'.toArray) cur) E (0, 0)) := by
    unfold putRowK putRow mapBlock
    show (w.heap.modify g _)[g]? = _
    rw [Array.getElem?_modify, if_pos rfl, hb]
    rfl
  have hsz : (putRowK enc k (Sort.ahead w m) g 0 l'.toArray).heap.size = w.heap.size := by
    unfold putRowK
    rw [size_putRow]
    rfl
  have hmod : Mod [g] w (sortWorldK enc k w g 0 m l'.toArray os) := by
    refine ⟨rfl, rfl, rfl, ?_, fun j hj hn => ?_⟩
    · show _ ≤ ((putRowK enc k (Sort.ahead w m) g 0 l'.toArray).heap ++ os).size
      rw [Array.size_append, hsz]; omega
    · show ((putRowK enc k (Sort.ahead w m) g 0 l'.toArray).heap ++ os)[j]? = _
      rw [Array.getElem?_append_left (by rw [hsz]; exact hj)]
      unfold putRowK putRow mapBlock
      show (w.heap.modify g _)[j]? = _
      rw [Array.getElem?_modify, if_neg (fun e => hn (by simp [e]))]
  have hnk : l.length * k ≤ cap * k := Nat.mul_le_mul_right k hn
  refine ⟨⟨by rw [flatV_length hk], .inr ⟨g, cap, putCells id 0 (flatK enc k l'.toArray) cur, rfl, hB, ?_, by omega, hc, by rw [putCells, Array.size_mapIdx]; exact hs, ?_⟩⟩, hmod⟩
  · show ((putRowK enc k (Sort.ahead w m) g 0 l'.toArray).heap ++ os)[g]? = _
    rw [Array.getElem?_append_left (by rw [hsz]; exact hgl)]
    exact hput
  · apply List.ext_getElem?
    intro t
    rw [List.getElem?_take]
    by_cases h1 : t < l'.length * k
    · rw [if_pos h1, flat_bang hk l' t h1]
      have h2 : t < cur.size := by rw [hs]; rw [hl] at h1; omega
      rw [Array.getElem?_toList, putCells, Array.getElem?_mapIdx, Array.getElem?_eq_getElem h2]
      simp only [Option.map_some, Nat.zero_le, true_and, Nat.zero_add, size_flatK, List.size_toArray, id, Nat.sub_zero]
      rw [if_pos h1]
    · rw [if_neg h1, List.getElem?_eq_none (by rw [flatV_length hk]; omega)]
/-- What the sort leaves of a row. -/
def SortedRow (enc : α → List Value) (k B E : Nat) (lt : α → α → Bool) (l : List α) (v : Value) (w : World) (e : Ending) (w' : World) : Prop :=
  e = .returned (.tuple #[]) ∧ ∃ l' : List α, l'.Perm l ∧ l'.Pairwise (fun x y => lt y x = false) ∧ w'.ownsRow B E k v l'.length (l'.flatMap enc) ∧ Mod v.ownBlock.toList w w'
theorem sort_own {P : Program} {ρ : Ren} (L : SlLaysF0.n6 P ρ) (aE : ∀ w, (isAgg (ρ.t 24)).run P w = .ok true w) (zE : ∀ w, (Go.sizeOf (ρ.t 24)).run P w = .ok k w) (hk : ∀ x, (enc x).length = k) (h1 : ∀ x, ∀ v ∈ enc x, v.oneCell' = true)
    (cf : α → α → Int) (hO : SWO (ltOf cf)) (g : Nat) (eg : ∀ args w, (callFunc g args).run P w = .ok (.enter g args) w)
    (hcmp : ∀ x y W, Calls P g #[.agg (enc x).toArray, .agg (enc y).toArray] W fun e w' => e = .returned (.int .i64 (cf x y)) ∧ ∃ q os, w' = grow (W.drewN q) os)
    {w : World} {B E : Nat} {v : Value} {l : List α} (hown : w.ownsRow B E k v l.length (l.flatMap enc)) (hl : l.length < 4611686018427387904) :
    Calls P (ρ.f 6) #[v, .func (.func g) #[] #[]] w (SortedRow enc k B E (ltOf cf) l v w) := by
  obtain ⟨A, cap, rfl, -, -⟩ := row_slice hown
  by_cases h0 : l.length = 0
  · have hn : l = [] := List.eq_nil_of_length_eq_zero h0
    subst hn
    refine (AnyF.slices_SortFunc_none L A cap _ w).mono ?_
    rintro e w' ⟨rfl, rfl⟩
    exact ⟨rfl, [], .refl _, .nil, hown, Mod.refl _ _⟩
  · obtain ⟨g0, cap0, cur, hv, hB, hb, hn, hc, hs, ht⟩ := row_some hown (by omega)
    simp only [Value.slice.injEq, true_and] at hv
    obtain ⟨rfl, rfl⟩ := hv
    have hH : HoldsK enc k w g0 0 l.toArray := by
      intro j hj
      rw [size_flatK, List.size_toArray] at hj
      have := flat_bang hk l j hj
      refine ⟨?_, ?_⟩
      · rw [Nat.zero_add]; exact row_cell hown this
      · rw [Nat.zero_add]; exact row_free hown j
    have hcon := AnyQ.slices_SortFunc L k aE zE enc hk h1 cf hO g #[] g0 0 cap l.toArray w eg (fun m os dk _ x y => by simpa using hcmp x y _) hH (blk_lt hb) (by simpa using hl)
    rw [List.size_toArray] at hcon
    refine hcon.mono ?_
    rintro e w' ⟨rfl, d', n, os, hp, hsd, rfl⟩
    obtain ⟨hp1, -, hp3⟩ := hp
    rw [List.size_toArray] at hp1
    have e1 : d' = d'.toList.toArray := by simp
    have hlen : d'.toList.length = l.length := by simpa using hp1
    obtain ⟨h3, h4⟩ := own_putRowK (l' := d'.toList) hk hown hlen n os
    rw [← e1] at h3 h4
    refine ⟨rfl, d'.toList, ?_, ?_, ?_, ?_⟩
    · have hp2 : d'.size = l.length := by simpa using hp1
      have a1 : (d'.extract 0 l.length) = d' := by rw [← hp2]; exact Array.extract_size
      have a2 : (l.toArray.extract 0 l.length) = l.toArray := by
        have : l.toArray.size = l.length := by simp
        rw [← this]; exact Array.extract_size
      rw [a1, a2] at hp3
      exact hp3
    · refine List.pairwise_iff_getElem.2 fun i j hi hj hij => ?_
      have := hsd i j (Nat.zero_le _) hij (by rw [hlen] at hj; exact hj)
      rw [getElem!_pos d' i (by simpa using hi), getElem!_pos d' j (by simpa using hj)] at this
      simpa using this
    · rw [hlen] at h3 ⊢; exact h3
    · exact h4
end
end Go.Proofs.Ytkcpmoinpdojjaa
