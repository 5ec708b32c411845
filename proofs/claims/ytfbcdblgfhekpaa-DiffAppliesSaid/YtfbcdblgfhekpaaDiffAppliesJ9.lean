import Derived.DeepKeys4
import Derived.Test.YtfbcdblgfhekpaaDiffAppliesJ8
import Derived.Test.YtfbcdblgfhekpaaDiffAppliesJ7
import Derived.Test.YtfbcdblgfhekpaaDiffAppliesJ1
import Derived.Test.YtfbcdblgfhekpaaDiffAppliesJ5
import Derived.Test.YtfbcdblgfhekpaaDiffAppliesJ3
import Derived.Lib.LazyBuf
import Derived.Maps.Range
import Derived.Test.YtfbcdblgfhekpaaDiffAppliesJ2
/- Maps whose keys are handles. -/
namespace Go.Proofs.Ytfbcdblgfhekpaa
open Go Go.RowKit Go.Maps

def HdR (h : Hd) : Prop := InR h.1 ∧ InR h.2
def hdV (h : Hd) : Value := .agg (handleC h).toArray
theorem hdV_inj {a b : Hd} (h : hdV a = hdV b) : a = b := by
  have h1 : (handleC a).toArray = (handleC b).toArray := Value.agg.inj h
  have h2 : handleC a = handleC b := by simpa using congrArg Array.toList h1
  unfold handleC at h2
  simp only [List.cons.injEq, Value.int.injEq, true_and, and_true] at h2
  exact Prod.ext h2.1 h2.2
theorem hd_keyed : Keyed Try.prog 28 :=
  Keyed.of_law (deep_law_laid laid_ (m := 3) (by decide) (of_decide_eq_true (by kernel_rfl)) (by kernel_rfl) (by rw [Try.underlying28]))
theorem wf_of_inR {z : Int} (h : InR z) : (Lit.int .i64 z).wf = true := by
  unfold InR at h
  simp [Lit.wf, IntKind.min, IntKind.max, IntKind.bits, IntKind.signed]
  omega
theorem hd_lits (s g : Int) (hs : InR s) (hg : InR g) (d : Nat) : Try.prog.keyLits (d + 2) 28 [.int .i64 s, .int .i64 g] = some [.int .i64 s, .int .i64 g] := by
  have h1 : ∀ z : Int, InR z → Try.prog.keyLits (d + 1) 3 [.int .i64 z] = some [.int .i64 z] := fun z hz => by
    unfold Program.keyLits
    rw [Try.underlying3]
    simp [wf_of_inR hz]
  unfold Program.keyLits
  rw [Try.underlying28]
  simp only []
  have hc : Try.prog.cellsOf 3 = 1 := by kernel_rfl
  have hC : Try.prog.cellsOf 28 = 2 := by kernel_rfl
  simp [hc, hC, h1 s hs, h1 g hg]
theorem hd_key {h : Hd} (hr : HdR h) : ∃ kl, keyOf Try.prog 28 (hdV h) = some kl := by
  obtain ⟨s, g⟩ := h
  have h1 : (Try.prog.keyType 28 && (hdV (s, g)).formed Try.prog 28) = true := by kernel_rfl
  obtain ⟨d, hd⟩ : ∃ d, Try.prog.types.size + 1 = d + 2 := ⟨Try.prog.types.size - 1, by have : 0 < Try.prog.types.size := of_decide_eq_true (by kernel_rfl); omega⟩
  unfold keyOf
  rw [Try.underlying28]
  simp only [h1, if_true]
  rw [hd, show (hdV (s, g)).cells.toList = [.int .i64 s, .int .i64 g] from rfl, hd_lits s g hr.1 hr.2]
  exact ⟨_, rfl⟩

/-- Entries whose keys are handles. -/
structure HdKeys {β : Type} (enc : Hd × β → Value × Value) : Prop where
  key : ∀ x, (enc x).1 = hdV x.1
section
variable {β : Type} {enc : Hd × β → Value × Value} {w : World} {b : Nat} {l : List (Hd × β)} {t e : TypeId} {k : Hd}
theorem mh_apart (K : HdKeys enc) (h : MapAt Try.prog 28 w b (l.map enc)) : l.Pairwise (fun x y => x.1 ≠ y.1) := by
  obtain ⟨es, clock, -, hok⟩ := h
  have := hok.apart
  rw [List.pairwise_map] at this
  exact this.imp fun {x y} hne e => hne (by rw [K.key, K.key, e])
theorem mh_ne (K : HdKeys enc) (hn : ∀ x ∈ l, x.1 ≠ k) : ∀ p ∈ l.map enc, p.1 ≠ hdV k := by
  intro p hp e
  obtain ⟨x, hx, rfl⟩ := List.mem_map.1 hp
  rw [K.key] at e
  exact hn x hx (hdV_inj e)
theorem mh_in (K : HdKeys enc) (ht : Try.prog.underlying t = some (.map 28 e)) (h : MapAt Try.prog 28 w b (l.map enc)) (hr : HdR k) {v : β} (hm : (k, v) ∈ l) (c : Bool) :
    (Instr.lookup t (.map (some b)) (hdV k) c).run Try.prog w = .ok (if c then .tuple #[(enc (k, v)).2, .bool true] else (enc (k, v)).2) w := by
  obtain ⟨kl, hk⟩ := hd_key hr
  refine h.look_in hd_keyed ht hk ?_ c
  have : enc (k, v) ∈ l.map enc := List.mem_map.2 ⟨_, hm, rfl⟩
  rw [show enc (k, v) = (hdV k, (enc (k, v)).2) from Prod.ext (K.key _) rfl] at this
  exact this
theorem mh_out (K : HdKeys enc) (ht : Try.prog.underlying t = some (.map 28 e)) {z : Value} (hz : (zeroValue e).run Try.prog w = .ok z w) (h : MapAt Try.prog 28 w b (l.map enc)) (hr : HdR k) (hn : ∀ x ∈ l, x.1 ≠ k) (c : Bool) :
    (Instr.lookup t (.map (some b)) (hdV k) c).run Try.prog w = .ok (if c then .tuple #[z, .bool false] else z) w := by
  obtain ⟨kl, hk⟩ := hd_key hr
  exact h.look_out hd_keyed ht hz hk (mh_ne K hn) c
theorem mh_split (h : l.Pairwise (fun x y => x.1 ≠ y.1)) {v : β} (hm : (k, v) ∈ l) : ∃ l1 l2, l = l1 ++ (k, v) :: l2 ∧ l.filter (fun x => decide (x.1 ≠ k)) = l1 ++ l2 := by
  obtain ⟨l1, l2, rfl⟩ := List.append_of_mem hm
  refine ⟨l1, l2, rfl, ?_⟩
  rw [List.pairwise_append, List.pairwise_cons] at h
  obtain ⟨-, ⟨h2, -⟩, h3⟩ := h
  rw [List.filter_append, List.filter_cons]
  simp only [ne_eq, not_true, decide_false, Bool.false_eq_true, if_false]
  congr 1
  · exact List.filter_eq_self.2 fun x hx => by simpa using h3 x hx (k, v) (by simp)
  · exact List.filter_eq_self.2 fun x hx => by simpa using (h2 x hx).symm
theorem mh_upd (K : HdKeys enc) (ht : Try.prog.underlying t = some (.map 28 e)) (h : MapAt Try.prog 28 w b (l.map enc)) (hr : HdR k) (v : β) :
    ∃ (w' : World) (l' : List (Hd × β)), (Instr.mapUpdate t (.map (some b)) (hdV k) (enc (k, v)).2).run Try.prog w = .ok () w' ∧ MapAt Try.prog 28 w' b (l'.map enc) ∧ l'.Perm ((k, v) :: l.filter (fun x => decide (x.1 ≠ k))) ∧ Mod [b] w w' ∧ w'.heap.size = w.heap.size := by
  obtain ⟨kl, hk⟩ := hd_key hr
  have hap := mh_apart K h
  have hkv : enc (k, v) = (hdV k, (enc (k, v)).2) := Prod.ext (K.key _) rfl
  by_cases hin : ∃ v0, (k, v0) ∈ l
  · obtain ⟨v0, hv0⟩ := hin
    obtain ⟨l1, l2, rfl, hf⟩ := mh_split hap hv0
    rw [List.map_append, List.map_cons, show enc (k, v0) = (hdV k, (enc (k, v0)).2) from Prod.ext (K.key _) rfl] at h
    obtain ⟨w', h1, h2, h3⟩ := h.put_old hd_keyed ht hk (enc (k, v)).2
    refine ⟨w', l1 ++ (k, v) :: l2, h1, ?_, ?_, h3⟩
    · rw [List.map_append, List.map_cons, hkv]; exact h2
    · rw [hf]; exact List.perm_middle
  · have hn : ∀ x ∈ l, x.1 ≠ k := fun x hx e => hin ⟨x.2, by rw [← e]; exact hx⟩
    obtain ⟨w', h1, h2, h3⟩ := h.put_new hd_keyed ht hk (mh_ne K hn) (enc (k, v)).2
    refine ⟨w', l ++ [(k, v)], h1, ?_, ?_, h3⟩
    · rw [List.map_append, List.map_cons, List.map_nil, hkv]; exact h2
    · rw [List.filter_eq_self.2 (fun x hx => by simpa using hn x hx)]
      exact List.perm_append_singleton _ _
theorem mh_del {ty : TypeId} (K : HdKeys enc) (ht : Try.prog.underlying t = some (.map 28 e)) (h : MapAt Try.prog 28 w b (l.map enc)) (hr : HdR k) {v0 : β} (hm : (k, v0) ∈ l) :
    ∃ (w' : World) (l' : List (Hd × β)), (Builtin.delete_ #[t, 28] ty #[.map (some b), hdV k]).run Try.prog w = .ok (.tuple #[]) w' ∧ MapAt Try.prog 28 w' b (l'.map enc) ∧ l' = l.filter (fun x => decide (x.1 ≠ k)) ∧ Mod [b] w w' ∧ w'.heap.size = w.heap.size := by
  obtain ⟨kl, hk⟩ := hd_key hr
  obtain ⟨l1, l2, rfl, hf⟩ := mh_split (mh_apart K h) hm
  rw [List.map_append, List.map_cons, show enc (k, v0) = (hdV k, (enc (k, v0)).2) from Prod.ext (K.key _) rfl] at h
  obtain ⟨w', h1, h2, h3⟩ := h.del_in (ty := ty) hd_keyed ht hk
  exact ⟨w', l1 ++ l2, h1, by rw [List.map_append]; exact h2, hf.symm, h3⟩
end

/-! 'range' over a map; an entry that has come may be deleted. -/
section
variable {P : Program} {kt : TypeId} {w : World} {b r : Nat} {l todo : List (Value × Value)}
theorem RangeAt.map (h : RangeAt P kt w b r l todo) : MapAt P kt w b l := by
  obtain ⟨es, clock, since, seen, c0, h1, h2, -⟩ := h
  exact ⟨es, clock, h1, h2⟩
theorem RangeAt.ne (h : RangeAt P kt w b r l todo) : b ≠ r := by
  obtain ⟨es, clock, since, seen, c0, h1, h2, h3, -⟩ := h
  rintro rfl; rw [h1] at h3; cases h3
theorem filter_erase {α : Type} (q : α → Bool) : ∀ (l : List α) (j : Nat) (x : α), l[j]? = some x → q x = false → (l.eraseIdx j).filter q = l.filter q
  | [], j, x, h, _ => by simp at h
  | y :: l, 0, x, h, hq => by
    simp only [List.getElem?_cons_zero, Option.some.injEq] at h
    subst h
    simp [hq]
  | y :: l, j + 1, x, h, hq => by
    simp only [List.getElem?_cons_succ] at h
    rw [List.eraseIdx_cons_succ, List.filter_cons, List.filter_cons, filter_erase q l j x h hq]
theorem RangeAt.del {t e ty : TypeId} {key : Value} {kl : Lit} (K : Keyed P kt) (ht : P.underlying t = some (.map kt e)) {l1 l2 : List (Value × Value)} {v0 : Value} (h : RangeAt P kt w b r (l1 ++ (key, v0) :: l2) todo) (hkey : keyOf P kt key = some kl) (hn : (key, v0) ∉ todo) :
    ∃ w', (Builtin.delete_ #[t, kt] ty #[.map (some b), key]).run P w = .ok (.tuple #[]) w' ∧ RangeAt P kt w' b r (l1 ++ l2) todo ∧ Mod [b] w w' ∧ w'.heap.size = w.heap.size := by
  have hbr := h.ne
  obtain ⟨es, clock, since, seen, c0, hb, hok, h3, h4, h5, h7, h6⟩ := h
  rcases K.find w hkey es.toList hok.keys with ⟨_, h2⟩ | ⟨j, e0, f1, f2, f3⟩
  · have hv : (key, v0) ∈ prs es := by rw [hok.prs]; simp
    obtain ⟨x, hx, hx2⟩ := List.mem_map.1 hv
    exact absurd (congrArg Prod.fst hx2) (h2 x hx)
  · obtain ⟨rfl, hv0⟩ := split_at hok f2 f3
    have hjs : l1.length < es.size := by have := (List.getElem?_eq_some_iff.1 f2).1; simpa using this
    have hsub : (es.eraseIdxIfInBounds l1.length).toList = es.toList.eraseIdx l1.length := by
      unfold Array.eraseIdxIfInBounds
      rw [dif_pos hjs]
      simp
    have hseen : (!seen.contains e0.born) = false := by
      cases hq : (!seen.contains e0.born) with
      | false => rfl
      | true =>
        refine absurd ?_ hn
        rw [← h6]
        refine List.mem_map.2 ⟨e0, ?_, by rw [f3, hv0]⟩
        unfold leftOf
        rw [Array.toList_filter]
        exact List.mem_filter.2 ⟨List.mem_of_getElem? f2, hq⟩
    refine ⟨ChangeMaps.setBlock w b (.map (es.eraseIdxIfInBounds l1.length) clock), ?_, ⟨_, clock, since, seen, c0, setBlock_same hb, ⟨MapKept.stamped_erase hok.st _, ?_, ?_⟩, ?_, ?_, h5, h7, ?_⟩, setBlock_mod _ _ _, setBlock_size _ _ _⟩
    · simp [Builtin.delete_, run_underlying ht, MapKept.run_getObj_map hb, K.check w _ hkey, f1, MapKept.run_setObj_map _ hb, Result.andThen, ChangeMaps.setBlock]
    · intro x hx
      rw [hsub] at hx
      exact hok.keys x ((List.eraseIdx_sublist _ _).subset hx)
    · have := hok.prs
      unfold prs at this ⊢
      rw [hsub, ChangeMaps.map_eraseIdx, this, List.eraseIdx_append_of_length_le (Nat.le_refl _), Nat.sub_self]
      rfl
    · rw [setBlock_ne (Ne.symm hbr)]; exact h3
    · intro x hx
      rw [hsub] at hx
      exact h4 x ((List.eraseIdx_sublist _ _).subset hx)
    · rw [← h6]
      unfold prs leftOf
      rw [Array.toList_filter, Array.toList_filter, hsub, filter_erase _ _ _ e0 f2 hseen]
theorem RangeAt.nextE {α : Type} {enc : α → Value × Value} {ts : List α} (h : RangeAt P kt w b r l (ts.map enc)) (hne : ts ≠ []) :
    ∃ t1 x t2 w', ts = t1 ++ x :: t2 ∧ (∀ ty, (Instr.next (.pointer (some ⟨r, 0, none⟩)) false ty).run P w = .ok (.tuple #[.bool true, (enc x).1, (enc x).2]) w') ∧
      (Instr.entry (.pointer (some ⟨r, 0, none⟩))).run P w' = .ok (.tuple #[(enc x).1, (enc x).2]) w' ∧ enc x ∈ l ∧ RangeAt P kt w' b r l ((t1 ++ t2).map enc) ∧ Mod [r] w w' ∧ w'.heap.size = w.heap.size := by
  obtain ⟨t1, p, t2, w', he, hp, hn, hen, hr, hm, hs⟩ := h.next (by simpa using hne) 0
  obtain ⟨a, c, rfl, rfl, hc⟩ := List.map_eq_append_iff.1 he
  obtain ⟨x, t, rfl, rfl, rfl⟩ := List.map_eq_cons_iff.1 hc
  refine ⟨a, x, t, w', rfl, fun ty => ?_, hen, hp, by rw [List.map_append]; exact hr, hm, hs⟩
  have : (Instr.next (.pointer (some ⟨r, 0, none⟩)) false ty) = (Instr.next (.pointer (some ⟨r, 0, none⟩)) false 0) := rfl
  rw [this]; exact hn
end
end Go.Proofs.Ytfbcdblgfhekpaa

/- Families: the plain part: bonds in the order of their children, who is above, who is under. -/
namespace Go.Proofs.Ytfbcdblgfhekpaa
open Go Go.RowKit

def ltH (a b : Hd) : Bool := decide (a.1 < b.1) || (decide (a.1 = b.1) && decide (a.2 < b.2))
theorem ltH_iff (a b : Hd) : ltH a b = true ↔ a.1 < b.1 ∨ a.1 = b.1 ∧ a.2 < b.2 := by simp [ltH]
theorem ltH_irrefl (a : Hd) : ltH a a = false := by simp [ltH]
theorem ltH_trans {a b c : Hd} (h : ltH a b = true) (k : ltH b c = true) : ltH a c = true := by rw [ltH_iff] at *; omega
theorem ltH_tri {a b : Hd} (h : ltH a b = false) (k : ltH b a = false) : a = b := by
  have h' : ¬ (a.1 < b.1 ∨ a.1 = b.1 ∧ a.2 < b.2) := fun e => by rw [(ltH_iff a b).2 e] at h; cases h
  have k' : ¬ (b.1 < a.1 ∨ b.1 = a.1 ∧ b.2 < a.2) := fun e => by rw [(ltH_iff b a).2 e] at k; cases k
  exact Prod.ext (by omega) (by omega)
theorem ltH_asymm {a b : Hd} (h : ltH a b = true) : ltH b a = false := by
  cases e : ltH b a with
  | false => rfl
  | true => have := ltH_trans h e; rw [ltH_irrefl] at this; cases this
theorem ltH_ne {a b : Hd} (h : ltH a b = true) : a ≠ b := by rintro rfl; rw [ltH_irrefl] at h; cases h

/-- The bonds stand in the order of their children; no child twice. -/
def SortB (B : List Bd) : Prop := B.Pairwise (fun a b => ltH a.1 b.1 = true)
/-- No handle is under itself. -/
def Acy (B : List Bd) : Prop := ∃ rk : Hd → Nat, ∀ b ∈ B, rk b.2 < rk b.1
def parB (B : List Bd) (h : Hd) : Option Hd := (B.find? (fun b => decide (b.1 = h))).map (·.2)
def kidsB (B : List Bd) (h : Hd) : List Hd := (B.filter (fun b => decide (b.2 = h))).map (·.1)

theorem SortB.inj {B : List Bd} (h : SortB B) {c p q : Hd} (h1 : (c, p) ∈ B) (h2 : (c, q) ∈ B) : p = q := by
  induction B with
  | nil => cases h1
  | cons b B ih =>
    have h3 := List.pairwise_cons.1 h
    rcases List.mem_cons.1 h1 with e1 | e1 <;> rcases List.mem_cons.1 h2 with e2 | e2
    · exact congrArg Prod.snd (e1.trans e2.symm)
    · have := h3.1 _ e2; rw [← e1, ltH_irrefl] at this; cases this
    · have := h3.1 _ e1; rw [← e2, ltH_irrefl] at this; cases this
    · exact ih h3.2 e1 e2
theorem SortB.keys {B : List Bd} (h : SortB B) : B.Pairwise (fun a b => a.1 ≠ b.1) := h.imp (fun h => ltH_ne h)
theorem parB_some {B : List Bd} {h p : Hd} (e : parB B h = some p) : (h, p) ∈ B := by
  unfold parB at e
  cases hf : B.find? (fun b => decide (b.1 = h)) with
  | none => rw [hf] at e; cases e
  | some b =>
    rw [hf] at e
    have h1 := List.find?_some hf
    have h2 := List.mem_of_find?_eq_some hf
    simp only [decide_eq_true_eq] at h1
    simp only [Option.map_some, Option.some.injEq] at e
    rw [← h1, ← e]; exact h2
theorem parB_none {B : List Bd} {h : Hd} (e : parB B h = none) : ∀ b ∈ B, b.1 ≠ h := by
  unfold parB at e
  rw [Option.map_eq_none_iff, List.find?_eq_none] at e
  intro b hb
  simpa using e b hb
/-- a is h, or above it. -/
inductive Up (B : List Bd) : Hd → Hd → Prop
  | refl (h : Hd) : Up B h h
  | step {h p a : Hd} : (h, p) ∈ B → Up B p a → Up B h a
theorem Up.trans {B : List Bd} {a b c : Hd} (h : Up B a b) (k : Up B b c) : Up B a c := by
  induction h with
  | refl => exact k
  | step hm _ ih => exact .step hm (ih k)
theorem Up.cases' {B : List Bd} {h a : Hd} (hu : Up B h a) : h = a ∨ ∃ p, (h, p) ∈ B ∧ Up B p a := by
  cases hu with
  | refl => exact .inl rfl
  | step hm k => exact .inr ⟨_, hm, k⟩
theorem up_none {B : List Bd} {h a : Hd} (hp : parB B h = none) : Up B h a ↔ h = a :=
  ⟨fun hu => by rcases hu.cases' with e | ⟨p, hm, -⟩
                · exact e
                · exact absurd rfl (parB_none hp _ hm), fun e => e ▸ .refl _⟩
theorem up_some {B : List Bd} (hs : SortB B) {h p a : Hd} (hp : parB B h = some p) : Up B h a ↔ h = a ∨ Up B p a :=
  ⟨fun hu => by rcases hu.cases' with e | ⟨q, hm, hk⟩
                · exact .inl e
                · rw [hs.inj (parB_some hp) hm]; exact .inr hk, fun e => by
                rcases e with rfl | e
                · exact .refl _
                · exact .step (parB_some hp) e⟩

/-- Ranks may be bounded. -/
theorem Acy.bound {B : List Bd} (h : Acy B) : ∃ (rk : Hd → Nat) (N : Nat), (∀ b ∈ B, rk b.2 < rk b.1) ∧ ∀ x, rk x ≤ N := by
  obtain ⟨rk, hr⟩ := h
  let S : List Hd := B.map (·.1) ++ B.map (·.2)
  have hb : ∀ (S : List Hd), ∃ N, ∀ x ∈ S, rk x ≤ N := by
    intro S
    induction S with
    | nil => exact ⟨0, by simp⟩
    | cons y S ih =>
      obtain ⟨N, hN⟩ := ih
      refine ⟨max (rk y) N, fun x hx => ?_⟩
      rcases List.mem_cons.1 hx with rfl | hx
      · exact Nat.le_max_left _ _
      · exact Nat.le_trans (hN x hx) (Nat.le_max_right _ _)
  obtain ⟨N, hN⟩ := hb S
  refine ⟨fun x => if x ∈ S then rk x else 0, N, fun b hb => ?_, fun x => ?_⟩
  · have m1 : b.1 ∈ S := List.mem_append_left _ (List.mem_map.2 ⟨b, hb, rfl⟩)
    have m2 : b.2 ∈ S := List.mem_append_right _ (List.mem_map.2 ⟨b, hb, rfl⟩)
    simp only [m1, m2, if_true]
    exact hr b hb
  · by_cases hx : x ∈ S
    · simp only [hx, if_true]; exact hN x hx
    · simp [hx]

/-- All that is under h is at most n generations below. -/
def Low (B : List Bd) : Nat → Hd → Prop
  | 0, _ => False
  | n + 1, h => ∀ c ∈ kidsB B h, Low B n c
theorem mem_kids {B : List Bd} {h c : Hd} : c ∈ kidsB B h ↔ (c, h) ∈ B := by
  unfold kidsB
  rw [List.mem_map]
  constructor
  · rintro ⟨b, hb, rfl⟩
    obtain ⟨h1, h2⟩ := List.mem_filter.1 hb
    simp only [decide_eq_true_eq] at h2
    rw [← h2]; exact h1
  · intro hm; exact ⟨(c, h), List.mem_filter.2 ⟨hm, by simp⟩, rfl⟩
theorem Acy.low {B : List Bd} (h : Acy B) : ∃ N, ∀ x, Low B N x := by
  obtain ⟨rk, N, hr, hN⟩ := h.bound
  have key : ∀ n x, N < rk x + n → Low B n x := by
    intro n
    induction n with
    | zero => intro x hx; have := hN x; omega
    | succ n ih =>
      intro x hx c hc
      refine ih c ?_
      have := hr _ (mem_kids.1 hc)
      simp only at this
      omega
  exact ⟨N + 1, fun x => key _ x (by omega)⟩
end Go.Proofs.Ytfbcdblgfhekpaa

/- The reference's slots: Free, Take. -/
namespace Go.Proofs.Ytfbcdblgfhekpaa
open Go.RowKit

attribute [local go_sem] AllFrom.cons_eq AllFrom.nil_eq putF_nil putF_cons wantedL_none wantedL_some OpGoalT OpGoalS OpGoalP YieldsR preF_nil preF_cons

end Go.Proofs.Ytfbcdblgfhekpaa

/- The reference's slots: Take. -/
namespace Go.Proofs.Ytfbcdblgfhekpaa
open Go.RowKit

attribute [local go_sem] AllFrom.cons_eq AllFrom.nil_eq putF_nil putF_cons wantedL_none wantedL_some OpGoalT OpGoalS OpGoalP OpGoalV YieldsR preF_nil preF_cons

end Go.Proofs.Ytfbcdblgfhekpaa

/- Tables: a field that holds a slice of one's own, appended to. -/
namespace Go.Proofs.Ytfbcdblgfhekpaa
open Go Go.RowKit

/-- A cell of block p holds a slice of one's own, in another block. -/
structure FieldAt {α : Type} (enc : α → List Value) (E n : Nat) (w : World) (p o : Nat) (cs : Array Value) (T : TypeId) (v : Value) (l : List α) : Prop where
  blk : w.heap[p]? = some (.cells cs T (0, 0))
  here : cs[o]? = some v
  row : w.ownsRow 0 E n v l.length (l.flatMap enc)
  ne : ∀ k, v.ownBlock = some k → k ≠ p
section
variable {α : Type} {enc : α → List Value} {E n : Nat} {w w' w1 w2 : World} {p o : Nat} {cs : Array Value} {T : TypeId} {v v' : Value} {l : List α}
theorem FieldAt.mod (h : FieldAt enc E n w p o cs T v l) {F : List Nat} (hm : Mod F w w') (hp : p ∉ F) (hv : ∀ k, v.ownBlock = some k → k ∉ F) : FieldAt enc E n w' p o cs T v l :=
  ⟨hm.keep h.blk hp, h.here, row_mod h.row hm hv, h.ne⟩
theorem FieldAt.cell (h : FieldAt enc E n w p o cs T v l) : w.cell? ⟨p, o, none⟩ = some v := by rw [blk_cell h.blk]; exact h.here
theorem FieldAt.lt (h : FieldAt enc E n w p o cs T v l) : p < w.heap.size := blk_lt h.blk
/-- What a field is behind a store of a slice v'. -/
structure FieldPost (enc : α → List Value) (E n : Nat) (w : World) (p o : Nat) (cs : Array Value) (T : TypeId) (v : Value) (l' : List α) (w' : World) : Prop where
  ex : ∃ v', FieldAt enc E n w' p o (cs.setIfInBounds o v') T v' l' ∧ (∀ k, v'.ownBlock = some k → v.ownBlock = some k ∨ w.heap.size ≤ k)
  mod : Mod (p :: v.ownBlock.toList) w w'
end

attribute [local go_sem] AllFrom.cons_eq AllFrom.nil_eq putF_nil putF_cons wantedL_none wantedL_some OpGoalT OpGoalV OpGoalQ YieldsR preF_nil preF_cons

end Go.Proofs.Ytfbcdblgfhekpaa

/- Tables: a place of a column is removed: the last one takes it. -/
namespace Go.Proofs.Ytfbcdblgfhekpaa
open Go Go.RowKit

theorem FieldPost.drew {α : Type} {enc : α → List Value} {E n : Nat} {w w' : World} {p o : Nat} {cs : Array Value} {T : TypeId} {v : Value} {l : List α} (h : FieldPost enc E n w p o cs T v l w') : FieldPost enc E n w p o cs T v l w'.drew := by
  obtain ⟨⟨v', hf, hl⟩, hm⟩ := h
  exact ⟨⟨v', ⟨hf.blk, hf.here, hf.row, hf.ne⟩, hl⟩, hm.drew⟩
/-- What a field is behind a store of a slice that lies where the old one lay. -/
structure FieldSame {α : Type} (enc : α → List Value) (E n : Nat) (w : World) (p o : Nat) (cs : Array Value) (T : TypeId) (v : Value) (l' : List α) (w' : World) : Prop where
  ex : ∃ v', FieldAt enc E n w' p o (cs.setIfInBounds o v') T v' l' ∧ (∀ k, v'.ownBlock = some k → v.ownBlock = some k)
  mod : Mod (p :: v.ownBlock.toList) w w'
theorem FieldSame.post {α : Type} {enc : α → List Value} {E n : Nat} {w w' : World} {p o : Nat} {cs : Array Value} {T : TypeId} {v : Value} {l : List α} (h : FieldSame enc E n w p o cs T v l w') : FieldPost enc E n w p o cs T v l w' := by
  obtain ⟨⟨v', hf, hl⟩, hm⟩ := h
  exact ⟨⟨v', hf, fun k hk => .inl (hl k hk)⟩, hm⟩
theorem FieldSame.new {α : Type} {enc : α → List Value} {E n : Nat} {w w' w2 : World} {p o r : Nat} {cs : Array Value} {T : TypeId} {v : Value} {l : List α} (h : FieldSame enc E n w p o cs T v l w') (hm : Mod [r] w' w2) (hr : w.heap.size ≤ r) (hp : p < w.heap.size) (hv : ∀ k, v.ownBlock = some k → k < w.heap.size) :
    FieldSame enc E n w p o cs T v l w2 := by
  obtain ⟨⟨v', hf, hl⟩, hm0⟩ := h
  exact ⟨⟨v', hf.mod hm (by simp; omega) (fun k hk => by have := hv k (hl k hk); simp; omega), hl⟩, hm0.trans hm (fun x hx => .inr (by simp at hx; omega))⟩
section
variable {α : Type} {enc : α → List Value} {E n : Nat} {w W : World} {p o : Nat} {cs : Array Value} {T : TypeId} {l : List α}
end
attribute [local go_sem] AllFrom.cons_eq AllFrom.nil_eq putF_nil putF_cons wantedL_none wantedL_some OpGoalT OpGoalV OpGoalQ YieldsR preF_nil preF_cons

end Go.Proofs.Ytfbcdblgfhekpaa

/- Tables: a place of the column of handles is removed. -/
namespace Go.Proofs.Ytfbcdblgfhekpaa
open Go Go.RowKit

attribute [local go_sem] AllFrom.cons_eq AllFrom.nil_eq putF_nil putF_cons wantedL_none wantedL_some OpGoalT OpGoalV OpGoalQ YieldsR preF_nil preF_cons

end Go.Proofs.Ytfbcdblgfhekpaa

/- What a system does to a beast, as plain lists: each value of the result by its source. -/
namespace Go.Proofs.Ytfbcdblgfhekpaa
open Go

end Go.Proofs.Ytfbcdblgfhekpaa

/- Tables in memory. -/
namespace Go.Proofs.Ytfbcdblgfhekpaa
open Go Go.RowKit

def updL {α : Type} (f : Nat → α) (k : Nat) (x : α) : Nat → α := fun j => if j = k then x else f j
theorem updL_same {α : Type} (f : Nat → α) (k : Nat) (x : α) : updL f k x k = x := by simp [updL]
theorem updL_ne {α : Type} (f : Nat → α) {k j : Nat} (x : α) (h : j ≠ k) : updL f k x j = f j := by simp [updL, h]
section
variable {w w' : World} {p kn m : Nat} {hs : List Hd} {ls : Nat → List Int} {vh : Value} {cs : List (Nat × Nat)} {Fs : Nat → List Nat}
end
end Go.Proofs.Ytfbcdblgfhekpaa

/- slices.Clone, and the reference's Copy. -/
namespace Go.Proofs.Ytfbcdblgfhekpaa
open Go Go.RowKit

def MadeR {α : Type} (E n : Nat) (enc : α → List Value) (l : List α) (w : World) (e : Ending) (w' : World) : Prop := ∃ v, e = .returned v ∧ w'.ownsRow w.heap.size E n v l.length (l.flatMap enc) ∧ Below w.heap.size w w'
theorem flat_one {α : Type} {enc : α → List Value} (h : ∀ x, ∀ u ∈ enc x, u.oneCell' = true) (l : List α) : ∀ u ∈ l.flatMap enc, u.oneCell' = true := fun u hu => by
  obtain ⟨x, _, hx⟩ := List.mem_flatMap.1 hu
  exact h x u hx

set_option maxRecDepth 100000 in
set_option maxHeartbeats 1000000 in
theorem copyR_any (A : Option Addr) (c : Nat) (l : List Rw) (w : World) (hl : l.length * 88 ≤ 140737488351232) (hA : Lies w w.heap.size A (l.flatMap rwC)) (hn : A = none → l = []) (hc : A = none → c = 0) :
    Calls Try.prog 26 #[.slice A l.length c] w (MadeR 33 11 rwC l w) := by
  have Hl := Lib.hid hl
  have hl2 : l.length ≤ 9223372036854775807 := by omega
  clear hl
  cases A with
  | none =>
    obtain rfl := hn rfl
    obtain rfl := hc rfl
    clear hn hc hA Hl hl2
    have hnil := fun w => run_eql_slice_nil w 22 33 none 0 0 Try.underlying22
    simp only [Option.isNone_none] at hnil
    go_enter Try.func26, Try.ntmps26
    go_wp2
    go_ret
    exact ⟨_, rfl, ⟨rfl, .inl ⟨rfl, rfl⟩⟩, Below.refl _ _⟩
  | some a =>
    have hnews : ∀ j u, (l.flatMap rwC)[j]? = some u → w.cell? (a.add j) = some u := fun j u hu => by
      obtain ⟨a', e, _, h⟩ := hA j u hu
      cases e; exact h
    have hb : ∀ j u, (l.flatMap rwC)[j]? = some u → a.block < w.heap.size := fun j u hu => by
      obtain ⟨a', e, h, _⟩ := hA j u hu
      cases e; exact h
    have hnew2 : ∀ o, ∀ j u, (l.flatMap rwC)[j]? = some u → (w.alloc o).cell? (a.add j) = some u := fun o j u hu =>
      (((Below.refl w.heap.size w).alloc (Nat.le_refl _) o).cell (p := a.add j) (by rw [add_block]; exact hb j u hu)).trans (hnews j u hu)
    have HN := Lib.hid hnew2; have HN0 := Lib.hid hnews
    have H0 := Lib.hid (flatV_length rwC_len l)
    have HO := Lib.hid (flat_one rwC_one l)
    obtain ⟨i0, hi, hz0, hz1, hz2⟩ := info_parts inf_Row
    have HI := Lib.hid hi; have HZ0 := Lib.hid hz0; have HZ1 := Lib.hid hz1; have HZ2 := Lib.hid hz2
    clear hA hn hc hnews hb hnew2 hi hz0 hz1 hz2
    have hnil := fun w => run_eql_slice_nil w 22 33 (some a) l.length c Try.underlying22
    simp only [Option.isNone_some] at hnil
    go_enter Try.func26, Try.ntmps26
    go_wp2_with (at_builtin; refine wpList_append_own_at _ rfl _ _ 22 rfl w.heap.size 33 i0 _ 11 88 Try.underlying22 HI.out HZ0.out HZ1.out HZ2.out rfl (by omega) (.slice none 0 0) 0 [] rfl ⟨by simp, .inl ⟨rfl, rfl⟩⟩ a l.length c (l.flatMap rwC) rfl (H0.out) HN0.out HO.out (by unfold maxLen; omega) (by have := Hl.out; omega) (Nat.le_refl _) ?_; intro v' w' hown hg _ _)
    go_ret
    refine ⟨_, rfl, ?_, (Below.refl w.heap.size w).grown hg (Nat.le_refl _) (fun k hk => by cases hk)⟩
    simpa using hown
end Go.Proofs.Ytfbcdblgfhekpaa

/- Tables: isRow, of, Handles, Column, Set. -/
namespace Go.Proofs.Ytfbcdblgfhekpaa
open Go Go.RowKit

section
variable {w : World} {p kn m : Nat} {hs : List Hd} {ls : Nat → List Int} {vh : Value} {cs : List (Nat × Nat)} {Fs : Nat → List Nat}

end
end Go.Proofs.Ytfbcdblgfhekpaa

/- Tables: Column, Set. -/
namespace Go.Proofs.Ytfbcdblgfhekpaa
open Go Go.RowKit

section
variable {w : World} {p kn m : Nat} {hs : List Hd} {ls : Nat → List Int} {vh : Value} {cs : List (Nat × Nat)} {Fs : Nat → List Nat}
end
end Go.Proofs.Ytfbcdblgfhekpaa

/- Tables: Row. -/
namespace Go.Proofs.Ytfbcdblgfhekpaa
open Go Go.RowKit

theorem RangeAt.left_eq {P : Program} {kt : TypeId} {w : World} {b r : Nat} {l todo : List (Value × Value)} (h : RangeAt P kt w b r l todo) : w.rangeLeft b r = todo.length := by
  obtain ⟨es, clock, since, seen, c0, h1, _, h3, _, _, _, h6⟩ := h
  simp only [World.rangeLeft, h1, h3]
  rw [← h6]; simp [prs]
def zero11 : List Int := [0, 0, 0, 0, 0, 0, 0, 0, 0, 0, 0]

section
variable {w : World} {p kn m : Nat} {hs : List Hd} {ls : Nat → List Int} {vh : Value} {cs : List (Nat × Nat)} {Fs : Nat → List Nat}
attribute [local go_sem] AllFrom.cons_eq AllFrom.nil_eq putF_nil putF_cons wantedL_none wantedL_some OpGoalT OpGoalV OpGoalQ YieldsR preF_nil preF_cons

end
end Go.Proofs.Ytfbcdblgfhekpaa

/- Tables: Add. -/
namespace Go.Proofs.Ytfbcdblgfhekpaa
open Go Go.RowKit

attribute [local go_sem] AllFrom.cons_eq AllFrom.nil_eq putF_nil putF_cons wantedL_none wantedL_some OpGoalT OpGoalV OpGoalQ YieldsR preF_nil preF_cons

section
variable {w : World} {p kn m : Nat} {hs : List Hd} {ls : Nat → List Int} {vh : Value} {cs : List (Nat × Nat)} {Fs : Nat → List Nat}

end
end Go.Proofs.Ytfbcdblgfhekpaa

/- The reference's table: Add. -/
namespace Go.Proofs.Ytfbcdblgfhekpaa
open Go Go.RowKit

attribute [local go_sem] AllFrom.cons_eq AllFrom.nil_eq putF_nil putF_cons wantedL_none wantedL_some OpGoalT OpGoalV OpGoalQ YieldsR preF_nil preF_cons

section
variable {w : World} {q kn : Nat} {rows : List Rw} {vl : Value}
end
end Go.Proofs.Ytfbcdblgfhekpaa

/- The contracts of Check and of the reference's SystemCheck. -/
namespace Go.Proofs.Ytfbcdblgfhekpaa
open Go.RowKit

end Go.Proofs.Ytfbcdblgfhekpaa
