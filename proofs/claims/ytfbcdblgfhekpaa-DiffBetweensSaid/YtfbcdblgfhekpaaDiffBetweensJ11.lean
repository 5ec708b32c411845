import Derived.Maps.RangeRun
import Derived.Maps.Keyed
import Derived.Test.YtfbcdblgfhekpaaDiffBetweensJ4
import Derived.DeepKeys4
import Derived.Test.YtfbcdblgfhekpaaDiffBetweensJ9
import Derived.Test.YtfbcdblgfhekpaaDiffBetweensJ1
/- Maps: the entries as a list of pairs, in the order in which they were laid. -/
namespace Go.Proofs.Ytfbcdblgfhekpaa
open Go Go.RowKit Go.Maps Go.MapKept
open Go.ChangeMaps (setBlock)
open Go.ChangeMaps

def prs (es : Array MapEntry) : List (Value × Value) := es.toList.map fun e => (e.key, e.val)

theorem setBlock_same {w : World} {b : Nat} {o o' : Obj} (hb : w.heap[b]? = some o) : (setBlock w b o').heap[b]? = some o' := by
  have := blk_lt hb
  simp [setBlock, this]
theorem setBlock_ne {w : World} {b k : Nat} {o' : Obj} (hk : k ≠ b) : (setBlock w b o').heap[k]? = w.heap[k]? := by
  simp [setBlock, Array.getElem?_setIfInBounds, Ne.symm hk]
theorem setBlock_size (w : World) (b : Nat) (o' : Obj) : (setBlock w b o').heap.size = w.heap.size := by simp [setBlock]
theorem setBlock_mod (w : World) (b : Nat) (o' : Obj) : Mod [b] w (setBlock w b o') :=
  ⟨rfl, rfl, rfl, by rw [setBlock_size]; exact Nat.le_refl _, fun k _ hk => setBlock_ne (by simpa using hk)⟩

section
variable {P : Program} {kt : TypeId} {w : World} {b : Nat} {l : List (Value × Value)}

structure EsOk (P : Program) (kt : TypeId) (es : Array MapEntry) (clock : Nat) (l : List (Value × Value)) : Prop where
  st : Stamped es clock
  keys : ∀ e ∈ es.toList, ∃ kl, keyOf P kt e.key = some kl
  prs : prs es = l
/-- Block b is a map of the pairs l. -/
def MapAt (P : Program) (kt : TypeId) (w : World) (b : Nat) (l : List (Value × Value)) : Prop := ∃ es clock, w.heap[b]? = some (.map es clock) ∧ EsOk P kt es clock l

theorem MapAt.lt (h : MapAt P kt w b l) : b < w.heap.size := by obtain ⟨es, c, hb, -⟩ := h; exact blk_lt hb
theorem MapAt.mod {w' : World} {F : List Nat} (h : MapAt P kt w b l) (hm : Mod F w w') (hd : b ∉ F) : MapAt P kt w' b l := by
  obtain ⟨es, c, hb, hk⟩ := h; exact ⟨es, c, hm.keep hb hd, hk⟩
theorem MapAt.made (w : World) : MapAt P kt (w.alloc (.map #[] 0)) w.heap.size [] := ⟨#[], 0, (MapKept.heap_alloc w _).1, ⟨stamped_empty 0, by simp, rfl⟩⟩
theorem EsOk.apart {es : Array MapEntry} {clock : Nat} (h : EsOk P kt es clock l) : l.Pairwise (fun p q => p.1 ≠ q.1) := by
  have := ((stamped_iff es clock).1 h.st).2.2
  rw [← h.prs]
  exact List.pairwise_map.2 this
theorem EsOk.mem {es : Array MapEntry} {clock : Nat} (h : EsOk P kt es clock l) {e : MapEntry} (he : e ∈ es.toList) : (e.key, e.val) ∈ l := by
  rw [← h.prs]; exact List.mem_map.2 ⟨e, he, rfl⟩
theorem pair_same : ∀ {l : List (Value × Value)}, l.Pairwise (fun p q => p.1 ≠ q.1) → ∀ {k v v' : Value}, (k, v) ∈ l → (k, v') ∈ l → v = v'
  | p :: l, hp, k, v, v', h1, h2 => by
    obtain ⟨ha, hb⟩ := List.pairwise_cons.1 hp
    rcases List.mem_cons.1 h1 with e1 | h1
    · rcases List.mem_cons.1 h2 with e2 | h2
      · have := e1.trans e2.symm; cases this; rfl
      · exact absurd (by rw [← e1]) (ha _ h2)
    · rcases List.mem_cons.1 h2 with e2 | h2
      · exact absurd (by rw [← e2]) (ha _ h1)
      · exact pair_same hb h1 h2
variable {t e : TypeId} {key : Value} {kl : Lit}
/-- A look-up at a key that is there. -/
theorem MapAt.look_in (K : Keyed P kt) (ht : P.underlying t = some (.map kt e)) (h : MapAt P kt w b l) (hkey : keyOf P kt key = some kl) {v : Value} (hv : (key, v) ∈ l) (c : Bool) :
    (Instr.lookup t (.map (some b)) key c).run P w = .ok (if c then .tuple #[v, .bool true] else v) w := by
  obtain ⟨es, clock, hb, hok⟩ := h
  rcases K.find w hkey es.toList hok.keys with ⟨_, h2⟩ | ⟨j, e0, h1, h2, h3⟩
  · rw [← hok.prs] at hv
    obtain ⟨x, hx, hx2⟩ := List.mem_map.1 hv
    exact absurd (congrArg Prod.fst hx2) (h2 x hx)
  · have hm := hok.mem (List.mem_of_getElem? h2)
    rw [h3] at hm
    have := pair_same hok.apart hm hv
    simp [Instr.lookup, run_underlying ht, MapKept.run_getObj_map hb, K.check w _ hkey, h1, Result.andThen, this]
/-- A look-up at a key that is not there. -/
theorem MapAt.look_out (K : Keyed P kt) (ht : P.underlying t = some (.map kt e)) {z : Value} (hz : (zeroValue e).run P w = .ok z w) (h : MapAt P kt w b l) (hkey : keyOf P kt key = some kl) (hv : ∀ p ∈ l, p.1 ≠ key) (c : Bool) :
    (Instr.lookup t (.map (some b)) key c).run P w = .ok (if c then .tuple #[z, .bool false] else z) w := by
  obtain ⟨es, clock, hb, hok⟩ := h
  rcases K.find w hkey es.toList hok.keys with ⟨h1, _⟩ | ⟨j, e0, h1, h2, h3⟩
  · simp [Instr.lookup, run_underlying ht, MapKept.run_getObj_map hb, K.check w _ hkey, h1, hz, Result.andThen]
  · exact absurd h3 (hv _ (hok.mem (List.mem_of_getElem? h2)))
/-- A store at a new key. -/
theorem MapAt.put_new (K : Keyed P kt) (ht : P.underlying t = some (.map kt e)) (h : MapAt P kt w b l) (hkey : keyOf P kt key = some kl) (hv : ∀ p ∈ l, p.1 ≠ key) (v : Value) :
    ∃ w', (Instr.mapUpdate t (.map (some b)) key v).run P w = .ok () w' ∧ MapAt P kt w' b (l ++ [(key, v)]) ∧ Mod [b] w w' ∧ w'.heap.size = w.heap.size := by
  obtain ⟨es, clock, hb, hok⟩ := h
  have hne : ∀ x ∈ es.toList, x.key ≠ key := fun x hx => hv _ (hok.mem hx)
  rcases K.find w hkey es.toList hok.keys with ⟨h1, _⟩ | ⟨j, e0, h1, h2, h3⟩
  · refine ⟨setBlock w b (.map (es.push ⟨key, v, clock⟩) (clock + 1)), ?_, ⟨_, _, setBlock_same hb, stamped_push hok.st hne, ?_, ?_⟩, setBlock_mod _ _ _, setBlock_size _ _ _⟩
    · simp [Instr.mapUpdate, run_underlying ht, MapKept.run_getObj_map hb, K.check w false hkey, h1, MapKept.run_setObj_map _ hb, Result.andThen, setBlock]
    · intro x hx
      simp only [Array.toList_push, List.mem_append, List.mem_singleton] at hx
      rcases hx with hx | rfl
      · exact hok.keys x hx
      · exact ⟨kl, hkey⟩
    · rw [← hok.prs]; simp [Go.Proofs.Ytfbcdblgfhekpaa.prs]
  · exact absurd h3 (hne e0 (List.mem_of_getElem? h2))
theorem apart_mid {l1 l2 : List (Value × Value)} {k v : Value} (h : (l1 ++ (k, v) :: l2).Pairwise (fun p q => p.1 ≠ q.1)) : ∀ p ∈ l1 ++ l2, p.1 ≠ k := by
  intro p hp
  rw [List.pairwise_append] at h
  obtain ⟨h1, h2, h3⟩ := h
  rcases List.mem_append.1 hp with hp | hp
  · exact h3 p hp (k, v) (by simp)
  · exact (fun e => (List.pairwise_cons.1 h2).1 p hp e.symm)
/-- Where an entry stands, its pair stands. -/
theorem split_at {es : Array MapEntry} {clock : Nat} {l1 l2 : List (Value × Value)} {v0 : Value} (hok : EsOk P kt es clock (l1 ++ (key, v0) :: l2)) {j : Nat} {e0 : MapEntry} (h2 : es.toList[j]? = some e0) (h3 : e0.key = key) : j = l1.length ∧ e0.val = v0 := by
  have hj : (l1 ++ (key, v0) :: l2)[j]? = some (key, e0.val) := by
    rw [← hok.prs, prs, List.getElem?_map, h2, ← h3]; rfl
  have hap := hok.apart
  have hm := pair_same hap (List.mem_of_getElem? hj) (show (key, v0) ∈ l1 ++ (key, v0) :: l2 by simp)
  refine ⟨?_, hm⟩
  rcases Nat.lt_trichotomy j l1.length with h | h | h
  · rw [List.getElem?_append_left h] at hj
    exact absurd rfl (apart_mid hap _ (List.mem_append_left _ (List.mem_of_getElem? hj)))
  · exact h
  · rw [List.getElem?_append_right (by omega), show j - l1.length = (j - l1.length - 1) + 1 by omega, List.getElem?_cons_succ] at hj
    exact absurd rfl (apart_mid hap _ (List.mem_append_right _ (List.mem_of_getElem? hj)))
/-- A store at a key that is there. -/
theorem MapAt.put_old (K : Keyed P kt) (ht : P.underlying t = some (.map kt e)) {l1 l2 : List (Value × Value)} {v0 : Value} (h : MapAt P kt w b (l1 ++ (key, v0) :: l2)) (hkey : keyOf P kt key = some kl) (v : Value) :
    ∃ w', (Instr.mapUpdate t (.map (some b)) key v).run P w = .ok () w' ∧ MapAt P kt w' b (l1 ++ (key, v) :: l2) ∧ Mod [b] w w' ∧ w'.heap.size = w.heap.size := by
  obtain ⟨es, clock, hb, hok⟩ := h
  rcases K.find w hkey es.toList hok.keys with ⟨_, h2⟩ | ⟨j, e0, h1, h2, h3⟩
  · have hv : (key, v0) ∈ prs es := by rw [hok.prs]; simp
    obtain ⟨x, hx, hx2⟩ := List.mem_map.1 hv
    exact absurd (congrArg Prod.fst hx2) (h2 x hx)
  · have hj : es[j]? = some e0 := by simpa using h2
    obtain ⟨rfl, -⟩ := split_at hok h2 h3
    have hkeyf : ∀ e', es[l1.length]? = some e' → ({ e' with key := key, val := v } : MapEntry).key = e'.key := fun e' he' => by rw [hj] at he'; cases he'; exact h3.symm
    have hlist : (es.modify l1.length (fun e' => { e' with key := key, val := v })).toList = es.toList.set l1.length { e0 with key := key, val := v } := by rw [Array.toList_modify, modify_eq_set _ _ _ _ h2]
    refine ⟨setBlock w b (.map (es.modify l1.length (fun e' => { e' with key := key, val := v })) clock), ?_, ⟨_, _, setBlock_same hb, stamped_modify hok.st _ _ (fun _ _ => rfl) (fun e' _ he' => hkeyf e' he'), ?_, ?_⟩, setBlock_mod _ _ _, setBlock_size _ _ _⟩
    · simp [Instr.mapUpdate, run_underlying ht, MapKept.run_getObj_map hb, K.check w false hkey, h1, hj, h3, K.stays w hkey, MapKept.run_setObj_map _ hb, Result.andThen, setBlock]
    · intro x hx
      rw [hlist] at hx
      rcases List.mem_or_eq_of_mem_set hx with hx | rfl
      · exact hok.keys x hx
      · exact ⟨kl, hkey⟩
    · unfold Go.Proofs.Ytfbcdblgfhekpaa.prs
      rw [hlist, List.map_set]
      have := hok.prs
      unfold Go.Proofs.Ytfbcdblgfhekpaa.prs at this
      rw [this, List.set_append_right _ _ (Nat.le_refl _), Nat.sub_self]
      rfl
/-- delete at a key that is there. -/
theorem MapAt.del_in {ty : TypeId} (K : Keyed P kt) (ht : P.underlying t = some (.map kt e)) {l1 l2 : List (Value × Value)} {v0 : Value} (h : MapAt P kt w b (l1 ++ (key, v0) :: l2)) (hkey : keyOf P kt key = some kl) :
    ∃ w', (Builtin.delete_ #[t, kt] ty #[.map (some b), key]).run P w = .ok (.tuple #[]) w' ∧ MapAt P kt w' b (l1 ++ l2) ∧ Mod [b] w w' ∧ w'.heap.size = w.heap.size := by
  obtain ⟨es, clock, hb, hok⟩ := h
  rcases K.find w hkey es.toList hok.keys with ⟨_, h2⟩ | ⟨j, e0, h1, h2, h3⟩
  · have hv : (key, v0) ∈ prs es := by rw [hok.prs]; simp
    obtain ⟨x, hx, hx2⟩ := List.mem_map.1 hv
    exact absurd (congrArg Prod.fst hx2) (h2 x hx)
  · obtain ⟨rfl, -⟩ := split_at hok h2 h3
    have hjs : l1.length < es.size := by have := (List.getElem?_eq_some_iff.1 h2).1; simpa using this
    have hsub : (es.eraseIdxIfInBounds l1.length).toList = es.toList.eraseIdx l1.length := by
      unfold Array.eraseIdxIfInBounds
      rw [dif_pos hjs]
      simp
    refine ⟨setBlock w b (.map (es.eraseIdxIfInBounds l1.length) clock), ?_, ⟨_, _, setBlock_same hb, stamped_erase hok.st _, ?_, ?_⟩, setBlock_mod _ _ _, setBlock_size _ _ _⟩
    · simp [Builtin.delete_, run_underlying ht, MapKept.run_getObj_map hb, K.check w _ hkey, h1, MapKept.run_setObj_map _ hb, Result.andThen, setBlock]
    · intro x hx
      rw [hsub] at hx
      exact hok.keys x ((List.eraseIdx_sublist _ _).subset hx)
    · have := hok.prs
      unfold Go.Proofs.Ytfbcdblgfhekpaa.prs at this ⊢
      rw [hsub, ChangeMaps.map_eraseIdx, this, List.eraseIdx_append_of_length_le (Nat.le_refl _), Nat.sub_self]
      rfl

/-! 'range' over a map whose entries stay. -/
/-- Block r is an iterator over map b of the pairs l, of which 'todo' are still to come. -/
def RangeAt (P : Program) (kt : TypeId) (w : World) (b r : Nat) (l todo : List (Value × Value)) : Prop :=
  ∃ es clock since seen c0, w.heap[b]? = some (.map es clock) ∧ EsOk P kt es clock l ∧ w.heap[r]? = some (.mapIter (some b) since seen c0) ∧ (∀ x ∈ es.toList, x.born < since) ∧ since ≤ c0 ∧ since ≤ clock ∧ prs (leftOf es seen) = todo
theorem RangeAt.mod {w' : World} {F : List Nat} {r : Nat} {todo : List (Value × Value)} (h : RangeAt P kt w b r l todo) (hm : Mod F w w') (hb : b ∉ F) (hr : r ∉ F) : RangeAt P kt w' b r l todo := by
  obtain ⟨es, clock, since, seen, c0, h1, h2, h3, h4, h5, h7, h6⟩ := h
  exact ⟨es, clock, since, seen, c0, hm.keep h1 hb, h2, hm.keep h3 hr, h4, h5, h7, h6⟩
theorem RangeAt.lt {r : Nat} {todo : List (Value × Value)} (h : RangeAt P kt w b r l todo) : r < w.heap.size := by obtain ⟨_, _, _, _, _, _, _, h3, _⟩ := h; exact blk_lt h3
theorem MapAt.range (ht : P.underlying t = some (.map kt e)) (h : MapAt P kt w b l) :
    ∃ o, (Instr.range t (.map (some b))).run P w = .ok (.pointer (some ⟨w.heap.size, 0, none⟩)) (w.alloc o) ∧ RangeAt P kt (w.alloc o) b w.heap.size l l := by
  obtain ⟨es, clock, hb, hok⟩ := h
  refine ⟨_, run_range_map w t kt e b es clock ht hb, es, clock, clock, #[], clock, blk_alloc hb _, hok, (MapKept.heap_alloc w _).1, ((stamped_iff es clock).1 hok.st).1, Nat.le_refl _, Nat.le_refl _, ?_⟩
  rw [← hok.prs]
  unfold leftOf
  congr 1
  rw [Array.filter_eq_self]
  simp
theorem RangeAt.over {r : Nat} (h : RangeAt P kt w b r l []) (ty : TypeId) : (Instr.next (.pointer (some ⟨r, 0, none⟩)) false ty).run P w = .ok (.tuple #[.bool false]) w := by
  obtain ⟨es, clock, since, seen, c0, h1, h2, h3, h4, h5, h7, h6⟩ := h
  rcases run_next_at (P := P) w ty r b since c0 seen es clock h3 h1 h4 h5 with ⟨_, hr⟩ | ⟨x, hx, _⟩
  · exact hr
  · have : (x.key, x.val) ∈ prs (leftOf es seen) := List.mem_map.2 ⟨x, hx, rfl⟩
    rw [h6] at this
    cases this
theorem RangeAt.next {r : Nat} {todo : List (Value × Value)} (h : RangeAt P kt w b r l todo) (hne : todo ≠ []) (ty : TypeId) :
    ∃ t1 p t2 w', todo = t1 ++ p :: t2 ∧ p ∈ l ∧ (Instr.next (.pointer (some ⟨r, 0, none⟩)) false ty).run P w = .ok (.tuple #[.bool true, p.1, p.2]) w' ∧
      (Instr.entry (.pointer (some ⟨r, 0, none⟩))).run P w' = .ok (.tuple #[p.1, p.2]) w' ∧ RangeAt P kt w' b r l (t1 ++ t2) ∧ Mod [r] w w' ∧ w'.heap.size = w.heap.size := by
  obtain ⟨es, clock, since, seen, c0, h1, h2, h3, h4, h5, h7, h6⟩ := h
  have hbr : b ≠ r := by rintro rfl; rw [h1] at h3; cases h3
  rcases run_next_at (P := P) w ty r b since c0 seen es clock h3 h1 h4 h5 with ⟨h0, _⟩ | ⟨x, hx, w1, hw1, hr⟩
  · have : leftOf es seen = #[] := Array.eq_empty_of_size_eq_zero h0
    rw [this] at h6
    exact absurd h6.symm hne
  · have hm1 : Mod [] w w1 := by 
      rcases hw1 with rfl | rfl
      · exact Mod.refl _ _
      · exact (Mod.refl _ _).drew
    have hs1 : w1.heap.size = w.heap.size := by rcases hw1 with rfl | rfl <;> rfl
    obtain ⟨hxe, hxs⟩ := mem_left hx
    have hst := (stamped_iff es clock).1 h2.st
    obtain ⟨a, c, hac⟩ := List.append_of_mem hx
    have hnd : ((leftOf es seen).toList.map (·.born)).Nodup := by
      unfold leftOf
      rw [Array.toList_filter]
      exact List.Nodup.sublist (List.Sublist.map _ List.filter_sublist) hst.2.1
    have hleft : (leftOf es (seen.push x.born)).toList = a ++ c := by
      have e1 : (leftOf es (seen.push x.born)).toList = (leftOf es seen).toList.filter (fun y => !(y.born == x.born)) := by
        unfold leftOf
        rw [Array.toList_filter, Array.toList_filter, List.filter_filter]
        apply List.filter_congr
        intro y _
        rw [Array.contains_push]
        cases (y.born == x.born) <;> cases seen.contains y.born <;> rfl
      rw [e1, hac]
      rw [hac, List.map_append, List.map_cons] at hnd
      rw [List.nodup_append] at hnd
      obtain ⟨_, n2, n3⟩ := hnd
      rw [List.nodup_cons] at n2
      rw [List.filter_append, List.filter_cons]
      simp only [beq_self_eq_true, Bool.not_true, Bool.false_eq_true, if_false]
      congr 1
      · rw [List.filter_eq_self]
        intro y hy
        have := n3 y.born (List.mem_map.2 ⟨y, hy, rfl⟩) x.born (by simp)
        simpa using this
      · rw [List.filter_eq_self]
        intro y hy
        have : y.born ≠ x.born := fun e => n2.1 (by rw [← e]; exact List.mem_map.2 ⟨y, hy, rfl⟩)
        simpa using this
    have h1' : (setBlock w1 r (.mapIter (some b) since (seen.push x.born) clock)).heap[b]? = some (.map es clock) := by rw [setBlock_ne hbr]; exact hm1.keep h1 (by simp)
    have h3' : (setBlock w1 r (.mapIter (some b) since (seen.push x.born) clock)).heap[r]? = some (.mapIter (some b) since (seen.push x.born) clock) := setBlock_same (hm1.keep h3 (by simp))
    refine ⟨a.map (fun y => (y.key, y.val)), (x.key, x.val), c.map (fun y => (y.key, y.val)), _, ?_, h2.mem hxe, hr, run_entry_at _ r b since seen es clock x h3' h1' hxe hst.2.1, ⟨es, clock, since, seen.push x.born, clock, h1', h2, h3', h4, h7, h7, ?_⟩, (hm1.mono (G := [r]) (by simp)).trans (setBlock_mod _ _ _) (fun x hx => .inl hx), ?_⟩
    · rw [← h6]; unfold prs; rw [hac]; simp
    · unfold prs; rw [hleft, List.map_append]
    · rw [setBlock_size, hs1]
end
end Go.Proofs.Ytfbcdblgfhekpaa

/- Maps whose keys are handles. -/
namespace Go.Proofs.Ytfbcdblgfhekpaa
open Go Go.RowKit Go.Maps

def HdR (h : Hd) : Prop := InR h.1 ∧ InR h.2
def hdV (h : Hd) : Value := .agg (handleC h).toArray
theorem hdV_inj {a b : Hd} (h : hdV a = hdV b) : a = b := by
  have h1 : (handleC a).toArray = (handleC b).toArray := Value.agg.inj h
  have h2 : handleC a = handleC b := by simpa using congrArg Array.toList h1
  unfold handleC at h2
  simp only [List.cons.injEq, Value.int.injEq, true_and, and_true] at h2
  exact Prod.ext h2.1 h2.2
theorem hd_keyed : Keyed Try.prog 28 :=
  Keyed.of_law (deep_law_laid laid_ (m := 3) (by decide) (of_decide_eq_true (by kernel_rfl)) (by kernel_rfl) (by rw [Try.underlying28]))
theorem wf_of_inR {z : Int} (h : InR z) : (Lit.int .i64 z).wf = true := by
  unfold InR at h
  simp [Lit.wf, IntKind.min, IntKind.max, IntKind.bits, IntKind.signed]
  omega
theorem hd_lits (s g : Int) (hs : InR s) (hg : InR g) (d : Nat) : Try.prog.keyLits (d + 2) 28 [.int .i64 s, .int .i64 g] = some [.int .i64 s, .int .i64 g] := by
  have h1 : ∀ z : Int, InR z → Try.prog.keyLits (d + 1) 3 [.int .i64 z] = some [.int .i64 z] := fun z hz => by
    unfold Program.keyLits
    rw [Try.underlying3]
    simp [wf_of_inR hz]
  unfold Program.keyLits
  rw [Try.underlying28]
  simp only []
  have hc : Try.prog.cellsOf 3 = 1 := by kernel_rfl
  have hC : Try.prog.cellsOf 28 = 2 := by kernel_rfl
  simp [hc, hC, h1 s hs, h1 g hg]
theorem hd_key {h : Hd} (hr : HdR h) : ∃ kl, keyOf Try.prog 28 (hdV h) = some kl := by
  obtain ⟨s, g⟩ := h
  have h1 : (Try.prog.keyType 28 && (hdV (s, g)).formed Try.prog 28) = true := by kernel_rfl
  obtain ⟨d, hd⟩ : ∃ d, Try.prog.types.size + 1 = d + 2 := ⟨Try.prog.types.size - 1, by have : 0 < Try.prog.types.size := of_decide_eq_true (by kernel_rfl); omega⟩
  unfold keyOf
  rw [Try.underlying28]
  simp only [h1, if_true]
  rw [hd, show (hdV (s, g)).cells.toList = [.int .i64 s, .int .i64 g] from rfl, hd_lits s g hr.1 hr.2]
  exact ⟨_, rfl⟩

/-- Entries whose keys are handles. -/
structure HdKeys {β : Type} (enc : Hd × β → Value × Value) : Prop where
  key : ∀ x, (enc x).1 = hdV x.1
section
variable {β : Type} {enc : Hd × β → Value × Value} {w : World} {b : Nat} {l : List (Hd × β)} {t e : TypeId} {k : Hd}
theorem mh_apart (K : HdKeys enc) (h : MapAt Try.prog 28 w b (l.map enc)) : l.Pairwise (fun x y => x.1 ≠ y.1) := by
  obtain ⟨es, clock, -, hok⟩ := h
  have := hok.apart
  rw [List.pairwise_map] at this
  exact this.imp fun {x y} hne e => hne (by rw [K.key, K.key, e])
theorem mh_ne (K : HdKeys enc) (hn : ∀ x ∈ l, x.1 ≠ k) : ∀ p ∈ l.map enc, p.1 ≠ hdV k := by
  intro p hp e
  obtain ⟨x, hx, rfl⟩ := List.mem_map.1 hp
  rw [K.key] at e
  exact hn x hx (hdV_inj e)
theorem mh_in (K : HdKeys enc) (ht : Try.prog.underlying t = some (.map 28 e)) (h : MapAt Try.prog 28 w b (l.map enc)) (hr : HdR k) {v : β} (hm : (k, v) ∈ l) (c : Bool) :
    (Instr.lookup t (.map (some b)) (hdV k) c).run Try.prog w = .ok (if c then .tuple #[(enc (k, v)).2, .bool true] else (enc (k, v)).2) w := by
  obtain ⟨kl, hk⟩ := hd_key hr
  refine h.look_in hd_keyed ht hk ?_ c
  have : enc (k, v) ∈ l.map enc := List.mem_map.2 ⟨_, hm, rfl⟩
  rw [show enc (k, v) = (hdV k, (enc (k, v)).2) from Prod.ext (K.key _) rfl] at this
  exact this
theorem mh_out (K : HdKeys enc) (ht : Try.prog.underlying t = some (.map 28 e)) {z : Value} (hz : (zeroValue e).run Try.prog w = .ok z w) (h : MapAt Try.prog 28 w b (l.map enc)) (hr : HdR k) (hn : ∀ x ∈ l, x.1 ≠ k) (c : Bool) :
    (Instr.lookup t (.map (some b)) (hdV k) c).run Try.prog w = .ok (if c then .tuple #[z, .bool false] else z) w := by
  obtain ⟨kl, hk⟩ := hd_key hr
  exact h.look_out hd_keyed ht hz hk (mh_ne K hn) c
theorem mh_split (h : l.Pairwise (fun x y => x.1 ≠ y.1)) {v : β} (hm : (k, v) ∈ l) : ∃ l1 l2, l = l1 ++ (k, v) :: l2 ∧ l.filter (fun x => decide (x.1 ≠ k)) = l1 ++ l2 := by
  obtain ⟨l1, l2, rfl⟩ := List.append_of_mem hm
  refine ⟨l1, l2, rfl, ?_⟩
  rw [List.pairwise_append, List.pairwise_cons] at h
  obtain ⟨-, ⟨h2, -⟩, h3⟩ := h
  rw [List.filter_append, List.filter_cons]
  simp only [ne_eq, not_true, decide_false, Bool.false_eq_true, if_false]
  congr 1
  · exact List.filter_eq_self.2 fun x hx => by simpa using h3 x hx (k, v) (by simp)
  · exact List.filter_eq_self.2 fun x hx => by simpa using (h2 x hx).symm
theorem mh_upd (K : HdKeys enc) (ht : Try.prog.underlying t = some (.map 28 e)) (h : MapAt Try.prog 28 w b (l.map enc)) (hr : HdR k) (v : β) :
    ∃ (w' : World) (l' : List (Hd × β)), (Instr.mapUpdate t (.map (some b)) (hdV k) (enc (k, v)).2).run Try.prog w = .ok () w' ∧ MapAt Try.prog 28 w' b (l'.map enc) ∧ l'.Perm ((k, v) :: l.filter (fun x => decide (x.1 ≠ k))) ∧ Mod [b] w w' ∧ w'.heap.size = w.heap.size := by
  obtain ⟨kl, hk⟩ := hd_key hr
  have hap := mh_apart K h
  have hkv : enc (k, v) = (hdV k, (enc (k, v)).2) := Prod.ext (K.key _) rfl
  by_cases hin : ∃ v0, (k, v0) ∈ l
  · obtain ⟨v0, hv0⟩ := hin
    obtain ⟨l1, l2, rfl, hf⟩ := mh_split hap hv0
    rw [List.map_append, List.map_cons, show enc (k, v0) = (hdV k, (enc (k, v0)).2) from Prod.ext (K.key _) rfl] at h
    obtain ⟨w', h1, h2, h3⟩ := h.put_old hd_keyed ht hk (enc (k, v)).2
    refine ⟨w', l1 ++ (k, v) :: l2, h1, ?_, ?_, h3⟩
    · rw [List.map_append, List.map_cons, hkv]; exact h2
    · rw [hf]; exact List.perm_middle
  · have hn : ∀ x ∈ l, x.1 ≠ k := fun x hx e => hin ⟨x.2, by rw [← e]; exact hx⟩
    obtain ⟨w', h1, h2, h3⟩ := h.put_new hd_keyed ht hk (mh_ne K hn) (enc (k, v)).2
    refine ⟨w', l ++ [(k, v)], h1, ?_, ?_, h3⟩
    · rw [List.map_append, List.map_cons, List.map_nil, hkv]; exact h2
    · rw [List.filter_eq_self.2 (fun x hx => by simpa using hn x hx)]
      exact List.perm_append_singleton _ _
theorem mh_del {ty : TypeId} (K : HdKeys enc) (ht : Try.prog.underlying t = some (.map 28 e)) (h : MapAt Try.prog 28 w b (l.map enc)) (hr : HdR k) {v0 : β} (hm : (k, v0) ∈ l) :
    ∃ (w' : World) (l' : List (Hd × β)), (Builtin.delete_ #[t, 28] ty #[.map (some b), hdV k]).run Try.prog w = .ok (.tuple #[]) w' ∧ MapAt Try.prog 28 w' b (l'.map enc) ∧ l' = l.filter (fun x => decide (x.1 ≠ k)) ∧ Mod [b] w w' ∧ w'.heap.size = w.heap.size := by
  obtain ⟨kl, hk⟩ := hd_key hr
  obtain ⟨l1, l2, rfl, hf⟩ := mh_split (mh_apart K h) hm
  rw [List.map_append, List.map_cons, show enc (k, v0) = (hdV k, (enc (k, v0)).2) from Prod.ext (K.key _) rfl] at h
  obtain ⟨w', h1, h2, h3⟩ := h.del_in (ty := ty) hd_keyed ht hk
  exact ⟨w', l1 ++ l2, h1, by rw [List.map_append]; exact h2, hf.symm, h3⟩
end

/-! 'range' over a map; an entry that has come may be deleted. -/
section
variable {P : Program} {kt : TypeId} {w : World} {b r : Nat} {l todo : List (Value × Value)}
theorem RangeAt.map (h : RangeAt P kt w b r l todo) : MapAt P kt w b l := by
  obtain ⟨es, clock, since, seen, c0, h1, h2, -⟩ := h
  exact ⟨es, clock, h1, h2⟩
theorem RangeAt.ne (h : RangeAt P kt w b r l todo) : b ≠ r := by
  obtain ⟨es, clock, since, seen, c0, h1, h2, h3, -⟩ := h
  rintro rfl; rw [h1] at h3; cases h3
theorem filter_erase {α : Type} (q : α → Bool) : ∀ (l : List α) (j : Nat) (x : α), l[j]? = some x → q x = false → (l.eraseIdx j).filter q = l.filter q
  | [], j, x, h, _ => by simp at h
  | y :: l, 0, x, h, hq => by
    simp only [List.getElem?_cons_zero, Option.some.injEq] at h
    subst h
    simp [hq]
  | y :: l, j + 1, x, h, hq => by
    simp only [List.getElem?_cons_succ] at h
    rw [List.eraseIdx_cons_succ, List.filter_cons, List.filter_cons, filter_erase q l j x h hq]
theorem RangeAt.del {t e ty : TypeId} {key : Value} {kl : Lit} (K : Keyed P kt) (ht : P.underlying t = some (.map kt e)) {l1 l2 : List (Value × Value)} {v0 : Value} (h : RangeAt P kt w b r (l1 ++ (key, v0) :: l2) todo) (hkey : keyOf P kt key = some kl) (hn : (key, v0) ∉ todo) :
    ∃ w', (Builtin.delete_ #[t, kt] ty #[.map (some b), key]).run P w = .ok (.tuple #[]) w' ∧ RangeAt P kt w' b r (l1 ++ l2) todo ∧ Mod [b] w w' ∧ w'.heap.size = w.heap.size := by
  have hbr := h.ne
  obtain ⟨es, clock, since, seen, c0, hb, hok, h3, h4, h5, h7, h6⟩ := h
  rcases K.find w hkey es.toList hok.keys with ⟨_, h2⟩ | ⟨j, e0, f1, f2, f3⟩
  · have hv : (key, v0) ∈ prs es := by rw [hok.prs]; simp
    obtain ⟨x, hx, hx2⟩ := List.mem_map.1 hv
    exact absurd (congrArg Prod.fst hx2) (h2 x hx)
  · obtain ⟨rfl, hv0⟩ := split_at hok f2 f3
    have hjs : l1.length < es.size := by have := (List.getElem?_eq_some_iff.1 f2).1; simpa using this
    have hsub : (es.eraseIdxIfInBounds l1.length).toList = es.toList.eraseIdx l1.length := by
      unfold Array.eraseIdxIfInBounds
      rw [dif_pos hjs]
      simp
    have hseen : (!seen.contains e0.born) = false := by
      cases hq : (!seen.contains e0.born) with
      | false => rfl
      | true =>
        refine absurd ?_ hn
        rw [← h6]
        refine List.mem_map.2 ⟨e0, ?_, by rw [f3, hv0]⟩
        unfold leftOf
        rw [Array.toList_filter]
        exact List.mem_filter.2 ⟨List.mem_of_getElem? f2, hq⟩
    refine ⟨ChangeMaps.setBlock w b (.map (es.eraseIdxIfInBounds l1.length) clock), ?_, ⟨_, clock, since, seen, c0, setBlock_same hb, ⟨MapKept.stamped_erase hok.st _, ?_, ?_⟩, ?_, ?_, h5, h7, ?_⟩, setBlock_mod _ _ _, setBlock_size _ _ _⟩
    · simp [Builtin.delete_, run_underlying ht, MapKept.run_getObj_map hb, K.check w _ hkey, f1, MapKept.run_setObj_map _ hb, Result.andThen, ChangeMaps.setBlock]
    · intro x hx
      rw [hsub] at hx
      exact hok.keys x ((List.eraseIdx_sublist _ _).subset hx)
    · have := hok.prs
      unfold prs at this ⊢
      rw [hsub, ChangeMaps.map_eraseIdx, this, List.eraseIdx_append_of_length_le (Nat.le_refl _), Nat.sub_self]
      rfl
    · rw [setBlock_ne (Ne.symm hbr)]; exact h3
    · intro x hx
      rw [hsub] at hx
      exact h4 x ((List.eraseIdx_sublist _ _).subset hx)
    · rw [← h6]
      unfold prs leftOf
      rw [Array.toList_filter, Array.toList_filter, hsub, filter_erase _ _ _ e0 f2 hseen]
theorem RangeAt.nextE {α : Type} {enc : α → Value × Value} {ts : List α} (h : RangeAt P kt w b r l (ts.map enc)) (hne : ts ≠ []) :
    ∃ t1 x t2 w', ts = t1 ++ x :: t2 ∧ (∀ ty, (Instr.next (.pointer (some ⟨r, 0, none⟩)) false ty).run P w = .ok (.tuple #[.bool true, (enc x).1, (enc x).2]) w') ∧
      (Instr.entry (.pointer (some ⟨r, 0, none⟩))).run P w' = .ok (.tuple #[(enc x).1, (enc x).2]) w' ∧ enc x ∈ l ∧ RangeAt P kt w' b r l ((t1 ++ t2).map enc) ∧ Mod [r] w w' ∧ w'.heap.size = w.heap.size := by
  obtain ⟨t1, p, t2, w', he, hp, hn, hen, hr, hm, hs⟩ := h.next (by simpa using hne) 0
  obtain ⟨a, c, rfl, rfl, hc⟩ := List.map_eq_append_iff.1 he
  obtain ⟨x, t, rfl, rfl, rfl⟩ := List.map_eq_cons_iff.1 hc
  refine ⟨a, x, t, w', rfl, fun ty => ?_, hen, hp, by rw [List.map_append]; exact hr, hm, hs⟩
  have : (Instr.next (.pointer (some ⟨r, 0, none⟩)) false ty) = (Instr.next (.pointer (some ⟨r, 0, none⟩)) false 0) := rfl
  rw [this]; exact hn
end
end Go.Proofs.Ytfbcdblgfhekpaa
