import Derived.Test.YtehjfmjibiafdaaGreatZooTellsJ10
import Derived.Maps.RangeRun
import Derived.Maps.Keyed
import Derived.Test.YtehjfmjibiafdaaGreatZooTellsJ4
/- The reference's slots: Take. -/
namespace Go.Proofs.YtehjfmjibiafdaaGreat
open Go.RowKit

attribute [local go_sem] AllFrom.cons_eq AllFrom.nil_eq putF_nil putF_cons wantedL_none wantedL_some OpGoalT OpGoalS OpGoalP OpGoalV YieldsR preF_nil preF_cons

def intC (z : Int) : List Value := [.int .i64 z]
def boolC (b : Bool) : List Value := [.bool b]
theorem ints_flat (l : List Int) : ints l = l.flatMap intC := by induction l with | nil => rfl | cons x l ih => simp only [List.flatMap_cons, ← ih]; rfl
theorem bools_flat (l : List Bool) : bools l = l.flatMap boolC := by induction l with | nil => rfl | cons x l ih => simp only [List.flatMap_cons, ← ih]; rfl
theorem intC_one (z : Int) : ∀ u ∈ intC z, u.oneCell' = true := by intro u hu; simp [intC] at hu; subst hu; rfl
theorem boolC_one (b : Bool) : ∀ u ∈ boolC b, u.oneCell' = true := by intro u hu; simp [boolC] at hu; subst hu; rfl
theorem gensS_len (l : Sl) : (gensS l).length = l.length := by simp [gensS]
theorem livesS_len (l : Sl) : (livesS l).length = l.length := by simp [livesS]
theorem RepRS.setLive {w W : World} {p : Nat} {l : Sl} {F G : List Nat} {n : Nat} (h : RepRS w p l F) (hm : Mod G w W) (hd : ∀ k ∈ F, k ∉ G) (hn : n < l.length) {g0 c0 g1 c1 : Nat}
    (hp : w.heap[p]? = some (.cells #[.slice (some ⟨g0, 0, none⟩) l.length c0, .slice (some ⟨g1, 0, none⟩) l.length c1] 45 (0, 0))) (b : Bool) : RepRS (W.setCell ⟨g1, n, none⟩ (.bool b)) p (l.set n (l[n].1, b)) F := by
  have hpF : p ∈ F := by obtain ⟨_, _, _, _, _, rfl, _⟩ := h; simp
  obtain ⟨g0', c0', g1', c1', hp', -, -, -, -, -, -, -, -, -, -, -, -, -, hset⟩ := (h.mod hm hd).at_ hn
  have hee := (hm.keep hp (hd p hpF)).symm.trans hp'
  simp only [Option.some.injEq, Obj.cells.injEq, Array.mk.injEq, List.cons.injEq, Value.slice.injEq, Addr.mk.injEq, and_true, true_and] at hee
  obtain ⟨⟨rfl, rfl⟩, rfl, rfl⟩ := hee
  exact hset b

end Go.Proofs.YtehjfmjibiafdaaGreat

/- Maps: the entries as a list of pairs, in the order in which they were laid. -/
namespace Go.Proofs.YtehjfmjibiafdaaGreat
open Go Go.RowKit Go.Maps Go.MapKept
open Go.ChangeMaps (setBlock)
open Go.ChangeMaps

def prs (es : Array MapEntry) : List (Value × Value) := es.toList.map fun e => (e.key, e.val)

theorem setBlock_same {w : World} {b : Nat} {o o' : Obj} (hb : w.heap[b]? = some o) : (setBlock w b o').heap[b]? = some o' := by
  have := blk_lt hb
  simp [setBlock, this]
theorem setBlock_ne {w : World} {b k : Nat} {o' : Obj} (hk : k ≠ b) : (setBlock w b o').heap[k]? = w.heap[k]? := by
  simp [setBlock, Array.getElem?_setIfInBounds, Ne.symm hk]
theorem setBlock_size (w : World) (b : Nat) (o' : Obj) : (setBlock w b o').heap.size = w.heap.size := by simp [setBlock]
theorem setBlock_mod (w : World) (b : Nat) (o' : Obj) : Mod [b] w (setBlock w b o') :=
  ⟨rfl, rfl, rfl, by rw [setBlock_size]; exact Nat.le_refl _, fun k _ hk => setBlock_ne (by simpa using hk)⟩

section
variable {P : Program} {kt : TypeId} {w : World} {b : Nat} {l : List (Value × Value)}

structure EsOk (P : Program) (kt : TypeId) (es : Array MapEntry) (clock : Nat) (l : List (Value × Value)) : Prop where
  st : Stamped es clock
  keys : ∀ e ∈ es.toList, ∃ kl, keyOf P kt e.key = some kl
  prs : prs es = l
/-- Block b is a map of the pairs l. -/
def MapAt (P : Program) (kt : TypeId) (w : World) (b : Nat) (l : List (Value × Value)) : Prop := ∃ es clock, w.heap[b]? = some (.map es clock) ∧ EsOk P kt es clock l

theorem MapAt.lt (h : MapAt P kt w b l) : b < w.heap.size := by obtain ⟨es, c, hb, -⟩ := h; exact blk_lt hb
theorem MapAt.mod {w' : World} {F : List Nat} (h : MapAt P kt w b l) (hm : Mod F w w') (hd : b ∉ F) : MapAt P kt w' b l := by
  obtain ⟨es, c, hb, hk⟩ := h; exact ⟨es, c, hm.keep hb hd, hk⟩
theorem MapAt.made (w : World) : MapAt P kt (w.alloc (.map #[] 0)) w.heap.size [] := ⟨#[], 0, (MapKept.heap_alloc w _).1, ⟨stamped_empty 0, by simp, rfl⟩⟩
theorem EsOk.apart {es : Array MapEntry} {clock : Nat} (h : EsOk P kt es clock l) : l.Pairwise (fun p q => p.1 ≠ q.1) := by
  have := ((stamped_iff es clock).1 h.st).2.2
  rw [← h.prs]
  exact List.pairwise_map.2 this
theorem EsOk.mem {es : Array MapEntry} {clock : Nat} (h : EsOk P kt es clock l) {e : MapEntry} (he : e ∈ es.toList) : (e.key, e.val) ∈ l := by
  rw [← h.prs]; exact List.mem_map.2 ⟨e, he, rfl⟩
theorem pair_same : ∀ {l : List (Value × Value)}, l.Pairwise (fun p q => p.1 ≠ q.1) → ∀ {k v v' : Value}, (k, v) ∈ l → (k, v') ∈ l → v = v'
  | p :: l, hp, k, v, v', h1, h2 => by
    obtain ⟨ha, hb⟩ := List.pairwise_cons.1 hp
    rcases List.mem_cons.1 h1 with e1 | h1
    · rcases List.mem_cons.1 h2 with e2 | h2
      · have := e1.trans e2.symm; cases this; rfl
      · exact absurd (by rw [← e1]) (ha _ h2)
    · rcases List.mem_cons.1 h2 with e2 | h2
      · exact absurd (by rw [← e2]) (ha _ h1)
      · exact pair_same hb h1 h2
variable {t e : TypeId} {key : Value} {kl : Lit}
/-- A look-up at a key that is there. -/
theorem MapAt.look_in (K : Keyed P kt) (ht : P.underlying t = some (.map kt e)) (h : MapAt P kt w b l) (hkey : keyOf P kt key = some kl) {v : Value} (hv : (key, v) ∈ l) (c : Bool) :
    (Instr.lookup t (.map (some b)) key c).run P w = .ok (if c then .tuple #[v, .bool true] else v) w := by
  obtain ⟨es, clock, hb, hok⟩ := h
  rcases K.find w hkey es.toList hok.keys with ⟨_, h2⟩ | ⟨j, e0, h1, h2, h3⟩
  · rw [← hok.prs] at hv
    obtain ⟨x, hx, hx2⟩ := List.mem_map.1 hv
    exact absurd (congrArg Prod.fst hx2) (h2 x hx)
  · have hm := hok.mem (List.mem_of_getElem? h2)
    rw [h3] at hm
    have := pair_same hok.apart hm hv
    simp [Instr.lookup, run_underlying ht, MapKept.run_getObj_map hb, K.check w _ hkey, h1, Result.andThen, this]
/-- A look-up at a key that is not there. -/
theorem MapAt.look_out (K : Keyed P kt) (ht : P.underlying t = some (.map kt e)) {z : Value} (hz : (zeroValue e).run P w = .ok z w) (h : MapAt P kt w b l) (hkey : keyOf P kt key = some kl) (hv : ∀ p ∈ l, p.1 ≠ key) (c : Bool) :
    (Instr.lookup t (.map (some b)) key c).run P w = .ok (if c then .tuple #[z, .bool false] else z) w := by
  obtain ⟨es, clock, hb, hok⟩ := h
  rcases K.find w hkey es.toList hok.keys with ⟨h1, _⟩ | ⟨j, e0, h1, h2, h3⟩
  · simp [Instr.lookup, run_underlying ht, MapKept.run_getObj_map hb, K.check w _ hkey, h1, hz, Result.andThen]
  · exact absurd h3 (hv _ (hok.mem (List.mem_of_getElem? h2)))
/-- A store at a new key. -/
theorem MapAt.put_new (K : Keyed P kt) (ht : P.underlying t = some (.map kt e)) (h : MapAt P kt w b l) (hkey : keyOf P kt key = some kl) (hv : ∀ p ∈ l, p.1 ≠ key) (v : Value) :
    ∃ w', (Instr.mapUpdate t (.map (some b)) key v).run P w = .ok () w' ∧ MapAt P kt w' b (l ++ [(key, v)]) ∧ Mod [b] w w' ∧ w'.heap.size = w.heap.size := by
  obtain ⟨es, clock, hb, hok⟩ := h
  have hne : ∀ x ∈ es.toList, x.key ≠ key := fun x hx => hv _ (hok.mem hx)
  rcases K.find w hkey es.toList hok.keys with ⟨h1, _⟩ | ⟨j, e0, h1, h2, h3⟩
  · refine ⟨setBlock w b (.map (es.push ⟨key, v, clock⟩) (clock + 1)), ?_, ⟨_, _, setBlock_same hb, stamped_push hok.st hne, ?_, ?_⟩, setBlock_mod _ _ _, setBlock_size _ _ _⟩
    · simp [Instr.mapUpdate, run_underlying ht, MapKept.run_getObj_map hb, K.check w false hkey, h1, MapKept.run_setObj_map _ hb, Result.andThen, setBlock]
    · intro x hx
      simp only [Array.toList_push, List.mem_append, List.mem_singleton] at hx
      rcases hx with hx | rfl
      · exact hok.keys x hx
      · exact ⟨kl, hkey⟩
    · rw [← hok.prs]; simp [Go.Proofs.YtehjfmjibiafdaaGreat.prs]
  · exact absurd h3 (hne e0 (List.mem_of_getElem? h2))
theorem apart_mid {l1 l2 : List (Value × Value)} {k v : Value} (h : (l1 ++ (k, v) :: l2).Pairwise (fun p q => p.1 ≠ q.1)) : ∀ p ∈ l1 ++ l2, p.1 ≠ k := by
  intro p hp
  rw [List.pairwise_append] at h
  obtain ⟨h1, h2, h3⟩ := h
  rcases List.mem_append.1 hp with hp | hp
  · exact h3 p hp (k, v) (by simp)
  · exact (fun e => (List.pairwise_cons.1 h2).1 p hp e.symm)
/-- Where an entry stands, its pair stands. -/
theorem split_at {es : Array MapEntry} {clock : Nat} {l1 l2 : List (Value × Value)} {v0 : Value} (hok : EsOk P kt es clock (l1 ++ (key, v0) :: l2)) {j : Nat} {e0 : MapEntry} (h2 : es.toList[j]? = some e0) (h3 : e0.key = key) : j = l1.length ∧ e0.val = v0 := by
  have hj : (l1 ++ (key, v0) :: l2)[j]? = some (key, e0.val) := by
    rw [← hok.prs, prs, List.getElem?_map, h2, ← h3]; rfl
  have hap := hok.apart
  have hm := pair_same hap (List.mem_of_getElem? hj) (show (key, v0) ∈ l1 ++ (key, v0) :: l2 by simp)
  refine ⟨?_, hm⟩
  rcases Nat.lt_trichotomy j l1.length with h | h | h
  · rw [List.getElem?_append_left h] at hj
    exact absurd rfl (apart_mid hap _ (List.mem_append_left _ (List.mem_of_getElem? hj)))
  · exact h
  · rw [List.getElem?_append_right (by omega), show j - l1.length = (j - l1.length - 1) + 1 by omega, List.getElem?_cons_succ] at hj
    exact absurd rfl (apart_mid hap _ (List.mem_append_right _ (List.mem_of_getElem? hj)))
/-- A store at a key that is there. -/
theorem MapAt.put_old (K : Keyed P kt) (ht : P.underlying t = some (.map kt e)) {l1 l2 : List (Value × Value)} {v0 : Value} (h : MapAt P kt w b (l1 ++ (key, v0) :: l2)) (hkey : keyOf P kt key = some kl) (v : Value) :
    ∃ w', (Instr.mapUpdate t (.map (some b)) key v).run P w = .ok () w' ∧ MapAt P kt w' b (l1 ++ (key, v) :: l2) ∧ Mod [b] w w' ∧ w'.heap.size = w.heap.size := by
  obtain ⟨es, clock, hb, hok⟩ := h
  rcases K.find w hkey es.toList hok.keys with ⟨_, h2⟩ | ⟨j, e0, h1, h2, h3⟩
  · have hv : (key, v0) ∈ prs es := by rw [hok.prs]; simp
    obtain ⟨x, hx, hx2⟩ := List.mem_map.1 hv
    exact absurd (congrArg Prod.fst hx2) (h2 x hx)
  · have hj : es[j]? = some e0 := by simpa using h2
    obtain ⟨rfl, -⟩ := split_at hok h2 h3
    have hkeyf : ∀ e', es[l1.length]? = some e' → ({ e' with key := key, val := v } : MapEntry).key = e'.key := fun e' he' => by rw [hj] at he'; cases he'; exact h3.symm
    have hlist : (es.modify l1.length (fun e' => { e' with key := key, val := v })).toList = es.toList.set l1.length { e0 with key := key, val := v } := by rw [Array.toList_modify, modify_eq_set _ _ _ _ h2]
    refine ⟨setBlock w b (.map (es.modify l1.length (fun e' => { e' with key := key, val := v })) clock), ?_, ⟨_, _, setBlock_same hb, stamped_modify hok.st _ _ (fun _ _ => rfl) (fun e' _ he' => hkeyf e' he'), ?_, ?_⟩, setBlock_mod _ _ _, setBlock_size _ _ _⟩
    · simp [Instr.mapUpdate, run_underlying ht, MapKept.run_getObj_map hb, K.check w false hkey, h1, hj, h3, K.stays w hkey, MapKept.run_setObj_map _ hb, Result.andThen, setBlock]
    · intro x hx
      rw [hlist] at hx
      rcases List.mem_or_eq_of_mem_set hx with hx | rfl
      · exact hok.keys x hx
      · exact ⟨kl, hkey⟩
    · unfold Go.Proofs.YtehjfmjibiafdaaGreat.prs
      rw [hlist, List.map_set]
      have := hok.prs
      unfold Go.Proofs.YtehjfmjibiafdaaGreat.prs at this
      rw [this, List.set_append_right _ _ (Nat.le_refl _), Nat.sub_self]
      rfl
/-- delete at a key that is there. -/
theorem MapAt.del_in {ty : TypeId} (K : Keyed P kt) (ht : P.underlying t = some (.map kt e)) {l1 l2 : List (Value × Value)} {v0 : Value} (h : MapAt P kt w b (l1 ++ (key, v0) :: l2)) (hkey : keyOf P kt key = some kl) :
    ∃ w', (Builtin.delete_ #[t, kt] ty #[.map (some b), key]).run P w = .ok (.tuple #[]) w' ∧ MapAt P kt w' b (l1 ++ l2) ∧ Mod [b] w w' ∧ w'.heap.size = w.heap.size := by
  obtain ⟨es, clock, hb, hok⟩ := h
  rcases K.find w hkey es.toList hok.keys with ⟨_, h2⟩ | ⟨j, e0, h1, h2, h3⟩
  · have hv : (key, v0) ∈ prs es := by rw [hok.prs]; simp
    obtain ⟨x, hx, hx2⟩ := List.mem_map.1 hv
    exact absurd (congrArg Prod.fst hx2) (h2 x hx)
  · obtain ⟨rfl, -⟩ := split_at hok h2 h3
    have hjs : l1.length < es.size := by have := (List.getElem?_eq_some_iff.1 h2).1; simpa using this
    have hsub : (es.eraseIdxIfInBounds l1.length).toList = es.toList.eraseIdx l1.length := by
      unfold Array.eraseIdxIfInBounds
      rw [dif_pos hjs]
      simp
    refine ⟨setBlock w b (.map (es.eraseIdxIfInBounds l1.length) clock), ?_, ⟨_, _, setBlock_same hb, stamped_erase hok.st _, ?_, ?_⟩, setBlock_mod _ _ _, setBlock_size _ _ _⟩
    · simp [Builtin.delete_, run_underlying ht, MapKept.run_getObj_map hb, K.check w _ hkey, h1, MapKept.run_setObj_map _ hb, Result.andThen, setBlock]
    · intro x hx
      rw [hsub] at hx
      exact hok.keys x ((List.eraseIdx_sublist _ _).subset hx)
    · have := hok.prs
      unfold Go.Proofs.YtehjfmjibiafdaaGreat.prs at this ⊢
      rw [hsub, ChangeMaps.map_eraseIdx, this, List.eraseIdx_append_of_length_le (Nat.le_refl _), Nat.sub_self]
      rfl

/-! 'range' over a map whose entries stay. -/
/-- Block r is an iterator over map b of the pairs l, of which 'todo' are still to come. -/
def RangeAt (P : Program) (kt : TypeId) (w : World) (b r : Nat) (l todo : List (Value × Value)) : Prop :=
  ∃ es clock since seen c0, w.heap[b]? = some (.map es clock) ∧ EsOk P kt es clock l ∧ w.heap[r]? = some (.mapIter (some b) since seen c0) ∧ (∀ x ∈ es.toList, x.born < since) ∧ since ≤ c0 ∧ since ≤ clock ∧ prs (leftOf es seen) = todo
theorem RangeAt.mod {w' : World} {F : List Nat} {r : Nat} {todo : List (Value × Value)} (h : RangeAt P kt w b r l todo) (hm : Mod F w w') (hb : b ∉ F) (hr : r ∉ F) : RangeAt P kt w' b r l todo := by
  obtain ⟨es, clock, since, seen, c0, h1, h2, h3, h4, h5, h7, h6⟩ := h
  exact ⟨es, clock, since, seen, c0, hm.keep h1 hb, h2, hm.keep h3 hr, h4, h5, h7, h6⟩
theorem RangeAt.lt {r : Nat} {todo : List (Value × Value)} (h : RangeAt P kt w b r l todo) : r < w.heap.size := by obtain ⟨_, _, _, _, _, _, _, h3, _⟩ := h; exact blk_lt h3
theorem MapAt.range (ht : P.underlying t = some (.map kt e)) (h : MapAt P kt w b l) :
    ∃ o, (Instr.range t (.map (some b))).run P w = .ok (.pointer (some ⟨w.heap.size, 0, none⟩)) (w.alloc o) ∧ RangeAt P kt (w.alloc o) b w.heap.size l l := by
  obtain ⟨es, clock, hb, hok⟩ := h
  refine ⟨_, run_range_map w t kt e b es clock ht hb, es, clock, clock, #[], clock, blk_alloc hb _, hok, (MapKept.heap_alloc w _).1, ((stamped_iff es clock).1 hok.st).1, Nat.le_refl _, Nat.le_refl _, ?_⟩
  rw [← hok.prs]
  unfold leftOf
  congr 1
  rw [Array.filter_eq_self]
  simp
theorem RangeAt.over {r : Nat} (h : RangeAt P kt w b r l []) (ty : TypeId) : (Instr.next (.pointer (some ⟨r, 0, none⟩)) false ty).run P w = .ok (.tuple #[.bool false]) w := by
  obtain ⟨es, clock, since, seen, c0, h1, h2, h3, h4, h5, h7, h6⟩ := h
  rcases run_next_at (P := P) w ty r b since c0 seen es clock h3 h1 h4 h5 with ⟨_, hr⟩ | ⟨x, hx, _⟩
  · exact hr
  · have : (x.key, x.val) ∈ prs (leftOf es seen) := List.mem_map.2 ⟨x, hx, rfl⟩
    rw [h6] at this
    cases this
theorem RangeAt.next {r : Nat} {todo : List (Value × Value)} (h : RangeAt P kt w b r l todo) (hne : todo ≠ []) (ty : TypeId) :
    ∃ t1 p t2 w', todo = t1 ++ p :: t2 ∧ p ∈ l ∧ (Instr.next (.pointer (some ⟨r, 0, none⟩)) false ty).run P w = .ok (.tuple #[.bool true, p.1, p.2]) w' ∧
      (Instr.entry (.pointer (some ⟨r, 0, none⟩))).run P w' = .ok (.tuple #[p.1, p.2]) w' ∧ RangeAt P kt w' b r l (t1 ++ t2) ∧ Mod [r] w w' ∧ w'.heap.size = w.heap.size := by
  obtain ⟨es, clock, since, seen, c0, h1, h2, h3, h4, h5, h7, h6⟩ := h
  have hbr : b ≠ r := by rintro rfl; rw [h1] at h3; cases h3
  rcases run_next_at (P := P) w ty r b since c0 seen es clock h3 h1 h4 h5 with ⟨h0, _⟩ | ⟨x, hx, w1, hw1, hr⟩
  · have : leftOf es seen = #[] := Array.eq_empty_of_size_eq_zero h0
    rw [this] at h6
    exact absurd h6.symm hne
  · have hm1 : Mod [] w w1 := by 
      rcases hw1 with rfl | rfl
      · exact Mod.refl _ _
      · exact (Mod.refl _ _).drew
    have hs1 : w1.heap.size = w.heap.size := by rcases hw1 with rfl | rfl <;> rfl
    obtain ⟨hxe, hxs⟩ := mem_left hx
    have hst := (stamped_iff es clock).1 h2.st
    obtain ⟨a, c, hac⟩ := List.append_of_mem hx
    have hnd : ((leftOf es seen).toList.map (·.born)).Nodup := by
      unfold leftOf
      rw [Array.toList_filter]
      exact List.Nodup.sublist (List.Sublist.map _ List.filter_sublist) hst.2.1
    have hleft : (leftOf es (seen.push x.born)).toList = a ++ c := by
      have e1 : (leftOf es (seen.push x.born)).toList = (leftOf es seen).toList.filter (fun y => !(y.born == x.born)) := by
        unfold leftOf
        rw [Array.toList_filter, Array.toList_filter, List.filter_filter]
        apply List.filter_congr
        intro y _
        rw [Array.contains_push]
        cases (y.born == x.born) <;> cases seen.contains y.born <;> rfl
      rw [e1, hac]
      rw [hac, List.map_append, List.map_cons] at hnd
      rw [List.nodup_append] at hnd
      obtain ⟨_, n2, n3⟩ := hnd
      rw [List.nodup_cons] at n2
      rw [List.filter_append, List.filter_cons]
      simp only [beq_self_eq_true, Bool.not_true, Bool.false_eq_true, if_false]
      congr 1
      · rw [List.filter_eq_self]
        intro y hy
        have := n3 y.born (List.mem_map.2 ⟨y, hy, rfl⟩) x.born (by simp)
        simpa using this
      · rw [List.filter_eq_self]
        intro y hy
        have : y.born ≠ x.born := fun e => n2.1 (by rw [← e]; exact List.mem_map.2 ⟨y, hy, rfl⟩)
        simpa using this
    have h1' : (setBlock w1 r (.mapIter (some b) since (seen.push x.born) clock)).heap[b]? = some (.map es clock) := by rw [setBlock_ne hbr]; exact hm1.keep h1 (by simp)
    have h3' : (setBlock w1 r (.mapIter (some b) since (seen.push x.born) clock)).heap[r]? = some (.mapIter (some b) since (seen.push x.born) clock) := setBlock_same (hm1.keep h3 (by simp))
    refine ⟨a.map (fun y => (y.key, y.val)), (x.key, x.val), c.map (fun y => (y.key, y.val)), _, ?_, h2.mem hxe, hr, run_entry_at _ r b since seen es clock x h3' h1' hxe hst.2.1, ⟨es, clock, since, seen.push x.born, clock, h1', h2, h3', h4, h7, h7, ?_⟩, (hm1.mono (G := [r]) (by simp)).trans (setBlock_mod _ _ _) (fun x hx => .inl hx), ?_⟩
    · rw [← h6]; unfold prs; rw [hac]; simp
    · unfold prs; rw [hleft, List.map_append]
    · rw [setBlock_size, hs1]
end
end Go.Proofs.YtehjfmjibiafdaaGreat

/- Tables: a field that holds a slice of one's own, appended to. -/
namespace Go.Proofs.YtehjfmjibiafdaaGreat
open Go Go.RowKit

/-- A cell of block p holds a slice of one's own, in another block. -/
structure FieldAt {α : Type} (enc : α → List Value) (E n : Nat) (w : World) (p o : Nat) (cs : Array Value) (T : TypeId) (v : Value) (l : List α) : Prop where
  blk : w.heap[p]? = some (.cells cs T (0, 0))
  here : cs[o]? = some v
  row : w.ownsRow 0 E n v l.length (l.flatMap enc)
  ne : ∀ k, v.ownBlock = some k → k ≠ p
section
variable {α : Type} {enc : α → List Value} {E n : Nat} {w w' w1 w2 : World} {p o : Nat} {cs : Array Value} {T : TypeId} {v v' : Value} {l : List α}
theorem FieldAt.mod (h : FieldAt enc E n w p o cs T v l) {F : List Nat} (hm : Mod F w w') (hp : p ∉ F) (hv : ∀ k, v.ownBlock = some k → k ∉ F) : FieldAt enc E n w' p o cs T v l :=
  ⟨hm.keep h.blk hp, h.here, row_mod h.row hm hv, h.ne⟩
theorem FieldAt.cell (h : FieldAt enc E n w p o cs T v l) : w.cell? ⟨p, o, none⟩ = some v := by rw [blk_cell h.blk]; exact h.here
theorem FieldAt.lt (h : FieldAt enc E n w p o cs T v l) : p < w.heap.size := blk_lt h.blk
/-- What a field is behind a store of a slice v'. -/
structure FieldPost (enc : α → List Value) (E n : Nat) (w : World) (p o : Nat) (cs : Array Value) (T : TypeId) (v : Value) (l' : List α) (w' : World) : Prop where
  ex : ∃ v', FieldAt enc E n w' p o (cs.setIfInBounds o v') T v' l' ∧ (∀ k, v'.ownBlock = some k → v.ownBlock = some k ∨ w.heap.size ≤ k)
  mod : Mod (p :: v.ownBlock.toList) w w'
theorem field_grow (h : FieldAt enc E n w p o cs T v l) (hm : Mod [] w w1) {l' : List α} (hown : w2.ownsRow 0 E n v' l'.length (l'.flatMap enc)) (hg : w1.grownBy w2 v.ownBlock) (hloc : v'.ownBlock = v.ownBlock ∨ v'.ownBlock = some w1.heap.size) :
    FieldPost enc E n w p o cs T v l' (w2.setCell ⟨p, o, none⟩ v') ∧ w2.heap[p]? = some (.cells cs T (0, 0)) := by
  have hpl := blk_lt h.blk
  have hs := hm.size
  have hm2 : Mod (p :: v.ownBlock.toList) w w2 := (hm.mono (G := p :: v.ownBlock.toList) (by simp)).grown hg (fun k hk => .inl (by simp [hk]))
  have hp2 : w2.heap[p]? = some (.cells cs T (0, 0)) := (hg.block p (by omega) (fun e => h.ne p e.symm rfl)).trans (hm.keep h.blk (by simp))
  have hvp : ∀ k, v'.ownBlock = some k → k ≠ p := by
    intro k hk
    rcases hloc with e | e
    · exact h.ne k (e.symm.trans hk)
    · rw [e] at hk; cases hk; omega
  have hol : o < cs.size := (Array.getElem?_eq_some_iff.1 h.here).1
  refine ⟨⟨⟨v', ⟨blk_set hp2 o v', by simp [hol], row_mod hown ((Mod.refl [p] _).setCell (.inl (by simp)) _) (fun k hk => by simpa using hvp k hk), hvp⟩, ?_⟩, hm2.setCell (.inl (by simp)) _⟩, hp2⟩
  intro k hk
  rcases hloc with e | e
  · exact .inl (e.symm.trans hk)
  · rw [e] at hk; cases hk; right; omega
end

def FieldRet {α : Type} (enc : α → List Value) (E n : Nat) (w : World) (p o : Nat) (cs : Array Value) (T : TypeId) (v : Value) (l' : List α) (r : Value) (e : Ending) (w' : World) : Prop := e = .returned r ∧ FieldPost enc E n w p o cs T v l' w'

set_option maxRecDepth 20000 in
set_option maxHeartbeats 1000000 in
theorem colAdd_any (p o : Nat) (cs : Array Value) (T : TypeId) (v : Value) (l : List Int) (x : Int) (w : World) (h : FieldAt intC 3 1 w p o cs T v l) (hl : l.length ≤ 1200000000000) :
    Calls Tryz.prog 161 #[.pointer (some ⟨p, o, none⟩), .int .i64 x] w (FieldRet intC 3 1 w p o cs T v (l ++ [x]) (.tuple #[])) := by
  have hc := h.cell
  have hlt := h.lt
  have H := Lib.hid h; have Hl := Lib.hid hl
  clear h hl
  obtain ⟨A, cap, rfl, -, -⟩ := row_slice H.out.row
  go_enter Tryz.func161, Tryz.ntmps161
  go_wp2_with (at_builtin; refine app_rec (enc := intC) (n := 1) (z := .int .i64 0) (bytes := 8) rfl _ _ 22 3 rfl Tryz.underlying22 info_int rfl (by omega) (by omega) intC_one (fun _ => rfl) 0 _ l x ⟨w.heap.size, 0, none⟩ 1 rfl (H.out.row.alloc _) rfl (new_rec (by simp) rfl) (by have := Hl.out; omega) (Nat.zero_le _) ?_; intro v' w2 hown hg hloc; obtain ⟨A2, cap2, rfl, -, -⟩ := row_slice hown; have hk := field_grow H.out ((Mod.refl [] w).alloc _) hown hg hloc; have hb2 := hk.2; have hk1 := hk.1; rw [List.length_append] at hk1; have HK := Lib.hid hk1; have hf2 := blk_free hb2 o; have hc2 := blk_cell hb2 o; rw [H.out.here] at hc2; have hl2 := blk_lt hb2; clear hown hg hloc hk hk1 hb2)
  refine bodyPost_end (v := .tuple #[]) ?_ rfl ?_
  · unfold results; try go_simp
  · exact ⟨rfl, HK.out⟩

attribute [local go_sem] AllFrom.cons_eq AllFrom.nil_eq putF_nil putF_cons wantedL_none wantedL_some OpGoalT OpGoalV OpGoalQ YieldsR preF_nil preF_cons

set_option maxRecDepth 20000 in
set_option maxHeartbeats 1000000 in
theorem hdlAdd_any (p o : Nat) (cs : Array Value) (T : TypeId) (v : Value) (l : List (Int × Int)) (s g : Int) (w : World) (h : FieldAt handleC 41 2 w p o cs T v l) (hl : l.length ≤ 1200000000000) :
    Calls Tryz.prog 160 #[.pointer (some ⟨p, o, none⟩), .agg #[.int .i64 s, .int .i64 g]] w (FieldRet handleC 41 2 w p o cs T v (l ++ [(s, g)]) (.tuple #[])) := by
  have hlt := h.lt
  have H := Lib.hid h; have Hl := Lib.hid hl
  clear h hl
  obtain ⟨A, cap, rfl, -, -⟩ := row_slice H.out.row
  go_enter Tryz.func160, Tryz.ntmps160
  go_wp2
  obtain ⟨w0, hw0⟩ : ∃ w0, w.alloc (.cells #[.int .i64 s, .int .i64 g] 41) = w0 := ⟨_, rfl⟩
  have hm0 : Mod [] w w0 := by rw [← hw0]; exact (Mod.refl _ _).alloc _
  have hs0 : w0.heap.size = w.heap.size + 1 := by rw [← hw0]; simp
  have hz0 : w0.heap[w.heap.size]? = some (.cells #[.int .i64 s, .int .i64 g] 41 (0, 0)) := by rw [← hw0]; exact heap_alloc_new w _
  rw [hw0]
  have HM0 := Lib.hid hm0; have HS0 := Lib.hid hs0; have HZ0 := Lib.hid hz0
  have H0 := Lib.hid (H.out.mod hm0 (by simp) (by simp))
  clear hm0 hs0 hz0 hw0
  refine wp_planF 7 [0, 1] [some 4, some 5, some 6, some 7, some 8, some 9, some 10, some 11, some 12, some 13, none] [[], [], [1], [1, 2], [1, 2, 3], [], [5], [1, 2, 3, 4, 5, 6], [0, 1, 2, 3, 4, 5, 6, 7], [0, 1, 2, 3, 4, 5, 6, 7, 8], [0, 1, 2, 3, 4, 5, 6, 7, 8, 9]] [0, 1, 2, 3, 4, 5, 6] 7 (fun vs => [isV (vs.getD 0 undef), isV (vs.getD 1 undef), isV (vs.getD 2 undef), isV (vs.getD 3 undef), isV (vs.getD 4 undef), isV (vs.getD 5 undef), (oneR w0.heap.size #[.int .i64 s, .int .i64 g] 41)])
    (fun _ _ W => Below w0.heap.size w0 W) mixed rfl (by kernel_rfl) (by decide) (by decide) (Below.refl _ _).drew rfl ?_
  iterate 7 apply Exists.intro
  refine ⟨?_, ?_⟩
  · simp only [List.take_succ_cons, List.take_zero, AllFrom.cons_eq, AllFrom.nil_eq, OpGoalV]
    refine ⟨?_, ?_, ?_, ?_, ?_, ?_, ?_, trivial⟩
    all_goals (intro L' σ W h1 h2 h3 hI hp; clear h1 h2 h3; (try simp only [List.getD_cons_zero, List.getD_cons_succ, preF_cons, preF_nil, isV, and_true] at hp); (first | (have hq : True := hp; clear hq hp) | skip); have HI := Lib.hid hI; clear hI)
    all_goals (
      have hf := ((H0.out.mod (Mod.ofBelow HI.out) (by simp) (by simp))).cell
      have hzk := (Mod.ofBelow HI.out).keep HZ0.out (by simp)
      have q0 := blk_cell hzk 0
      have q1 := blk_cell hzk 1
      simp only [List.getElem?_toArray, List.getElem?_cons_zero, List.getElem?_cons_succ] at q0 q1
      clear hzk)
    all_goals (first | (go_simp; exact ⟨rfl, HI.out, KeepAll.refl⟩) | (go_simp; exact ⟨oneR_new HI.out.size, HI.out.alloc HI.out.size _, KeepAll.ofStab (T := Grow) (grow_alloc _ _) (by repeat (first | exact allStab_nil | refine allStab_isV ?_ | refine allStab_oneR ?_))⟩))
  · intro L' σ W h1 hI hp
    clear h1
    simp only [List.getD_cons_zero, List.getD_cons_succ, preF_cons, preF_nil, isV, and_true] at hp
    obtain ⟨s0, s1, s2, s3, s4, s5, s6⟩ := hp
    have HI := Lib.hid hI; have S6 := Lib.hid s6
    have HW := Lib.hid (HM0.out.trans (Mod.ofBelow hI) (by simp))
    clear hI s6
    simp only [List.drop_succ_cons, List.drop_zero]
    go_simp
    clear s0 s1 s2 s3 s4 s5
    generalize σ 6 = v6 at *
    go_wp2_with (at_builtin; refine app_oneR (enc := handleC) (n := 2) (z := .agg #[.int .i64 0, .int .i64 0]) (bytes := 16) rfl _ _ 55 41 rfl Tryz.underlying55 info_handle rfl (by omega) (by omega) handleC_one handleC_len 0 _ l (s, g) w0.heap.size #[.int .i64 s, .int .i64 g] 41 rfl (row_mod H.out.row HW.out (by simp)) S6.out rfl (by have := Hl.out; omega) (Nat.zero_le _) ?_; intro v' w2 hown hg hloc; obtain ⟨A2, cap2, rfl, -, -⟩ := row_slice hown; have hk := field_grow H.out HW.out hown hg hloc; have hb2 := hk.2; have hk1 := hk.1; rw [List.length_append] at hk1; have HK := Lib.hid hk1; have hf2 := blk_free hb2 o; have hc2 := blk_cell hb2 o; rw [H.out.here] at hc2; have hl2 := blk_lt hb2; clear hown hg hloc hk hk1 hb2)
    refine ⟨rfl, ?_⟩
    go_wp2
    refine bodyPost_end (v := .tuple #[]) ?_ rfl ?_
    · unfold results; try go_simp
    · exact ⟨rfl, HK.out⟩
  all_goals exact undef
end Go.Proofs.YtehjfmjibiafdaaGreat
