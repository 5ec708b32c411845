import Derived.Test.YtfbcdblgfhekpaaDiffAppliesJ7
import Derived.Maps.RangeRun
import Derived.Maps.Keyed
import Derived.Test.YtfbcdblgfhekpaaDiffAppliesJ3
/- The contract of Eq at lists of rows. -/
namespace Go.Proofs.Ytfbcdblgfhekpaa
open Go Go.RowKit

attribute [local go_sem] AllFrom.cons_eq AllFrom.nil_eq putF_nil putF_cons wantedL_none wantedL_some OpGoalQ YieldsR preF_nil preF_cons

set_option maxRecDepth 20000 in
set_option maxHeartbeats 1000000 in
theorem eqRow_any (A : Option Addr) (c : Nat) (A' : Option Addr) (c' : Nat) (l l' : List Rw) (w : World) (hl : l.length ≤ 9223372036854775807) (hl' : l'.length ≤ 9223372036854775807)
    (hA : Lies w w.heap.size A (l.flatMap rwC)) (hA' : Lies w w.heap.size A' (l'.flatMap rwC)) :
    Calls Try.prog 10 #[.slice A l.length c, .slice A' l'.length c'] w fun e w' => e = .returned (.bool (eqB l l')) ∧ Below w.heap.size w w' := by
  by_cases hlen : l.length = l'.length
  · have hb : ((l.length : Int) != (l'.length : Int)) = false := by simp [hlen]
    have Hlen := Lib.hid hlen
    clear hlen
    go_enter Try.func10, Try.ntmps10
    go_wp2
    go_loopw [14] (fun i wr => ∃ k : Nat, k ≤ l.length ∧ i = .int .i64 k ∧ l.take k = l'.take k ∧ Below w.heap.size w wr) (fun i _ => l.length - (intOf i).toNat)
    case atStart => exact ⟨0, by omega, rfl, rfl, Below.refl _ _⟩
    case round =>
      obtain ⟨k, hk, rfl, heq, hbel⟩ := hrel
      have Heq := Lib.hid heq
      clear heq hb
      have hsz := hbel.size
      by_cases hlt : k < l.length
      · have hlt' : k < l'.length := by rw [← Hlen.out]; exact hlt
        obtain ⟨ab, ao, rfl, hal, hc⟩ := hA.rec_at rwC_len (by omega) hlt
        obtain ⟨bb, bo, rfl, hbl, hc'⟩ := hA'.rec_at rwC_len (by omega) hlt'
        have hs := take_succ_get l k hlt
        have hs' := take_succ_get l' k hlt'
        have hne : l[k] ≠ l'[k] → l ≠ l' := by
          intro h e; subst e; exact h rfl
        have hc1 : ∀ j u, (rwC l[k])[j]? = some u → wr.cell? ((⟨ab, ao + k * 11, none⟩ : Addr).add j) = some u := fun j u hu => by
          have := (hbel.cell (p := ⟨ab, ao + k * 11 + j, none⟩) hal).trans (hc j u hu)
          rw [Addr.add_mid]; exact this
        have hc2 : ∀ j u, (rwC l'[k])[j]? = some u → wr.cell? ((⟨bb, bo + k * 11, none⟩ : Addr).add j) = some u := fun j u hu => by
          have := (hbel.cell (p := ⟨bb, bo + k * 11 + j, none⟩) hbl).trans (hc' j u hu)
          rw [Addr.add_mid]; exact this
        have hal2 : ab < wr.heap.size := by omega
        have hbl2 : bb < wr.heap.size := by omega
        have hin : (k : Int) < (l'.length : Int) := by omega
        generalize l[k] = x at *
        generalize l'[k] = y at *
        have Hs := Lib.hid hs; have Hs' := Lib.hid hs'; have Hne := Lib.hid hne; have Hc1 := Lib.hid hc1; have Hc2 := Lib.hid hc2; have Hbel := Lib.hid hbel
        have he := fun w => neqRow w x y
        clear hs hs' hne hc hc' hA hA' hc1 hc2 hbel
        generalize hr : eqB x y = r at *
        have Hr := Lib.hid hr
        clear hr
        have hDa : ∀ u ∈ rwC x, u.oneCell' = true := rwC_one x
        have HDa := Lib.hid hDa
        clear hDa
        go_wp2_with (first | (refine wpList_load_flat rfl 33 (.tmp 17) rfl _ rfl (rwC x) _ Try.underlying33 rfl (sz_Row _) Hc1.out ?_) | (refine wpList_store_new rfl 33 (.tmp 6) (.tmp 18) rfl wr (ints [0, 0, 0, 0, 0, 0, 0, 0, 0, 0, 0]) (rwC x) 33 rfl rfl rfl (sz_Row _) HDa.out ?_))
        have hnew : ∀ j u, (rwC x)[j]? = some u → (wr.alloc (.cells (rwC x).toArray 33)).drew.cell? ((⟨wr.heap.size, 0, none⟩ : Addr).add j) = some u := fun j u hu => new_rec rfl (by simp) j u hu
        have hold : ∀ j u, (rwC y)[j]? = some u → (wr.alloc (.cells (rwC x).toArray 33)).drew.cell? ((⟨bb, bo + k * 11, none⟩ : Addr).add j) = some u := fun j u hu => by
          have := Hc2.out j u hu
          rw [Addr.add_mid] at this ⊢
          exact (((Below.refl wr.heap.size wr).alloc (Nat.le_refl _) _).cell (p := ⟨bb, bo + k * 11 + j, none⟩) hbl2).trans this
        have Hnew := Lib.hid hnew; have Hold := Lib.hid hold
        clear hnew hold
        refine wp_planR 6 [1, 2] [some 19, some 20, some 21, some 22, some 23, some 24] [[], [], [], [1, 2], [1, 2, 3], [0, 1, 2, 3, 4]] [0, 1, 2, 3, 4, 5] mixed rfl (by kernel_rfl) (by decide) (by decide) rfl ?_
        iterate 6 apply Exists.intro
        refine ⟨rfl, ?_, ?_⟩
        · simp only [List.take_succ_cons, List.take_zero, AllFrom.cons_eq, AllFrom.nil_eq, OpGoalQ]
          refine ⟨?_, ?_, ?_, ?_, ?_, ?_, trivial⟩
          all_goals (intro σ hp; (try simp only [List.getD_cons_zero, List.getD_cons_succ, List.map_cons, List.map_nil, preF_cons, preF_nil, isV, and_true] at hp); (first | (have hq : True := hp; clear hq hp) | skip))
          · (simp only [wantedL_none, ↓reduceIte, List.getD_cons_zero, List.getD_cons_succ]; refine yr_load 33 (.tmp 6) (by rfl) ⟨wr.heap.size, 0, none⟩ ?_ (rwC x) _ Try.underlying33 rfl (sz_Row _) Hnew.out ?_; (· go_simp); (· exact ⟨rfl, rfl⟩))
          · (go_simp; exact ⟨rfl, rfl⟩)
          · (go_simp; exact ⟨rfl, rfl⟩)
          · (go_simp; exact ⟨rfl, rfl⟩)
          · (simp only [wantedL_none, ↓reduceIte, List.getD_cons_zero, List.getD_cons_succ]; refine yr_load 33 (.tmp 22) (by rfl) ⟨bb, bo + k * 11, none⟩ ?_ (rwC y) _ Try.underlying33 rfl (sz_Row _) Hold.out ?_; (· go_simp); (· exact ⟨rfl, rfl⟩))
          · (go_simp; exact ⟨rfl, rfl⟩)
        intro σ hp
        simp only [List.getD_cons_zero, List.getD_cons_succ, List.map_cons, List.map_nil, preF_cons, preF_nil, isV, and_true] at hp
        simp only [List.drop_succ_cons, List.drop_zero]
        go_simp
        clear hp
        cases r with
        | true =>
          have hxy : x = y := by simpa [eqB] using Hr.out
          have Hxy := Lib.hid hxy
          clear hxy
          go_simp
          refine ⟨rfl, ?_⟩
          go_wp2
          go_roundw
          case rel => exact ⟨k + 1, by omega, by go_num, by rw [Hs.out, Hs'.out, Heq.out, Hxy.out], (Hbel.out.alloc hsz _).drew⟩
          case measure => simp [intOf]; omega
        | false =>
          have hxy : x ≠ y := by intro e; have := Hr.out; rw [e, eqB_self] at this; cases this
          have Hf := Lib.hid (eqB_ne (Hne.out hxy))
          clear hxy
          go_simp
          refine ⟨rfl, ?_⟩
          go_wp2
          go_ret
          exact ⟨by rw [Hf.out]; rfl, (Hbel.out.alloc hsz _).drew⟩
      · have he : l = l' := by
          have := Heq.out
          rwa [List.take_of_length_le (by omega), List.take_of_length_le (by have := Hlen.out; omega)] at this
        have Hf : Hid (eqB l l' = true) := by rw [he]; exact eqB_self _
        clear he
        go_wp2
        go_ret
        exact ⟨by rw [Hf.out]; rfl, hbel⟩
  · have hb : ((l.length : Int) != (l'.length : Int)) = true := by simp; omega
    have Hf := Lib.hid (eqB_ne (fun e : l = l' => hlen (congrArg List.length e)))
    clear hlen
    go_enter Try.func10, Try.ntmps10
    go_wp2
    go_ret
    exact ⟨by rw [Hf.out]; rfl, Below.refl _ _⟩
end Go.Proofs.Ytfbcdblgfhekpaa

/- Maps: the entries as a list of pairs, in the order in which they were laid. -/
namespace Go.Proofs.Ytfbcdblgfhekpaa
open Go Go.RowKit Go.Maps Go.MapKept
open Go.ChangeMaps (setBlock)
open Go.ChangeMaps

def prs (es : Array MapEntry) : List (Value × Value) := es.toList.map fun e => (e.key, e.val)

theorem setBlock_same {w : World} {b : Nat} {o o' : Obj} (hb : w.heap[b]? = some o) : (setBlock w b o').heap[b]? = some o' := by
  have := blk_lt hb
  simp [setBlock, this]
theorem setBlock_ne {w : World} {b k : Nat} {o' : Obj} (hk : k ≠ b) : (setBlock w b o').heap[k]? = w.heap[k]? := by
  simp [setBlock, Array.getElem?_setIfInBounds, Ne.symm hk]
theorem setBlock_size (w : World) (b : Nat) (o' : Obj) : (setBlock w b o').heap.size = w.heap.size := by simp [setBlock]
theorem setBlock_mod (w : World) (b : Nat) (o' : Obj) : Mod [b] w (setBlock w b o') :=
  ⟨rfl, rfl, rfl, by rw [setBlock_size]; exact Nat.le_refl _, fun k _ hk => setBlock_ne (by simpa using hk)⟩

section
variable {P : Program} {kt : TypeId} {w : World} {b : Nat} {l : List (Value × Value)}

structure EsOk (P : Program) (kt : TypeId) (es : Array MapEntry) (clock : Nat) (l : List (Value × Value)) : Prop where
  st : Stamped es clock
  keys : ∀ e ∈ es.toList, ∃ kl, keyOf P kt e.key = some kl
  prs : prs es = l
/-- Block b is a map of the pairs l. -/
def MapAt (P : Program) (kt : TypeId) (w : World) (b : Nat) (l : List (Value × Value)) : Prop := ∃ es clock, w.heap[b]? = some (.map es clock) ∧ EsOk P kt es clock l

theorem MapAt.lt (h : MapAt P kt w b l) : b < w.heap.size := by obtain ⟨es, c, hb, -⟩ := h; exact blk_lt hb
theorem MapAt.mod {w' : World} {F : List Nat} (h : MapAt P kt w b l) (hm : Mod F w w') (hd : b ∉ F) : MapAt P kt w' b l := by
  obtain ⟨es, c, hb, hk⟩ := h; exact ⟨es, c, hm.keep hb hd, hk⟩
theorem EsOk.apart {es : Array MapEntry} {clock : Nat} (h : EsOk P kt es clock l) : l.Pairwise (fun p q => p.1 ≠ q.1) := by
  have := ((stamped_iff es clock).1 h.st).2.2
  rw [← h.prs]
  exact List.pairwise_map.2 this
theorem EsOk.mem {es : Array MapEntry} {clock : Nat} (h : EsOk P kt es clock l) {e : MapEntry} (he : e ∈ es.toList) : (e.key, e.val) ∈ l := by
  rw [← h.prs]; exact List.mem_map.2 ⟨e, he, rfl⟩
theorem pair_same : ∀ {l : List (Value × Value)}, l.Pairwise (fun p q => p.1 ≠ q.1) → ∀ {k v v' : Value}, (k, v) ∈ l → (k, v') ∈ l → v = v'
  | p :: l, hp, k, v, v', h1, h2 => by
    obtain ⟨ha, hb⟩ := List.pairwise_cons.1 hp
    rcases List.mem_cons.1 h1 with e1 | h1
    · rcases List.mem_cons.1 h2 with e2 | h2
      · have := e1.trans e2.symm; cases this; rfl
      · exact absurd (by rw [← e1]) (ha _ h2)
    · rcases List.mem_cons.1 h2 with e2 | h2
      · exact absurd (by rw [← e2]) (ha _ h1)
      · exact pair_same hb h1 h2
variable {t e : TypeId} {key : Value} {kl : Lit}
/-- A look-up at a key that is there. -/
theorem MapAt.look_in (K : Keyed P kt) (ht : P.underlying t = some (.map kt e)) (h : MapAt P kt w b l) (hkey : keyOf P kt key = some kl) {v : Value} (hv : (key, v) ∈ l) (c : Bool) :
    (Instr.lookup t (.map (some b)) key c).run P w = .ok (if c then .tuple #[v, .bool true] else v) w := by
  obtain ⟨es, clock, hb, hok⟩ := h
  rcases K.find w hkey es.toList hok.keys with ⟨_, h2⟩ | ⟨j, e0, h1, h2, h3⟩
  · rw [← hok.prs] at hv
    obtain ⟨x, hx, hx2⟩ := List.mem_map.1 hv
    exact absurd (congrArg Prod.fst hx2) (h2 x hx)
  · have hm := hok.mem (List.mem_of_getElem? h2)
    rw [h3] at hm
    have := pair_same hok.apart hm hv
    simp [Instr.lookup, run_underlying ht, MapKept.run_getObj_map hb, K.check w _ hkey, h1, Result.andThen, this]
/-- A look-up at a key that is not there. -/
theorem MapAt.look_out (K : Keyed P kt) (ht : P.underlying t = some (.map kt e)) {z : Value} (hz : (zeroValue e).run P w = .ok z w) (h : MapAt P kt w b l) (hkey : keyOf P kt key = some kl) (hv : ∀ p ∈ l, p.1 ≠ key) (c : Bool) :
    (Instr.lookup t (.map (some b)) key c).run P w = .ok (if c then .tuple #[z, .bool false] else z) w := by
  obtain ⟨es, clock, hb, hok⟩ := h
  rcases K.find w hkey es.toList hok.keys with ⟨h1, _⟩ | ⟨j, e0, h1, h2, h3⟩
  · simp [Instr.lookup, run_underlying ht, MapKept.run_getObj_map hb, K.check w _ hkey, h1, hz, Result.andThen]
  · exact absurd h3 (hv _ (hok.mem (List.mem_of_getElem? h2)))
/-- A store at a new key. -/
theorem MapAt.put_new (K : Keyed P kt) (ht : P.underlying t = some (.map kt e)) (h : MapAt P kt w b l) (hkey : keyOf P kt key = some kl) (hv : ∀ p ∈ l, p.1 ≠ key) (v : Value) :
    ∃ w', (Instr.mapUpdate t (.map (some b)) key v).run P w = .ok () w' ∧ MapAt P kt w' b (l ++ [(key, v)]) ∧ Mod [b] w w' ∧ w'.heap.size = w.heap.size := by
  obtain ⟨es, clock, hb, hok⟩ := h
  have hne : ∀ x ∈ es.toList, x.key ≠ key := fun x hx => hv _ (hok.mem hx)
  rcases K.find w hkey es.toList hok.keys with ⟨h1, _⟩ | ⟨j, e0, h1, h2, h3⟩
  · refine ⟨setBlock w b (.map (es.push ⟨key, v, clock⟩) (clock + 1)), ?_, ⟨_, _, setBlock_same hb, stamped_push hok.st hne, ?_, ?_⟩, setBlock_mod _ _ _, setBlock_size _ _ _⟩
    · simp [Instr.mapUpdate, run_underlying ht, MapKept.run_getObj_map hb, K.check w false hkey, h1, MapKept.run_setObj_map _ hb, Result.andThen, setBlock]
    · intro x hx
      simp only [Array.toList_push, List.mem_append, List.mem_singleton] at hx
      rcases hx with hx | rfl
      · exact hok.keys x hx
      · exact ⟨kl, hkey⟩
    · rw [← hok.prs]; simp [Go.Proofs.Ytfbcdblgfhekpaa.prs]
  · exact absurd h3 (hne e0 (List.mem_of_getElem? h2))
theorem apart_mid {l1 l2 : List (Value × Value)} {k v : Value} (h : (l1 ++ (k, v) :: l2).Pairwise (fun p q => p.1 ≠ q.1)) : ∀ p ∈ l1 ++ l2, p.1 ≠ k := by
  intro p hp
  rw [List.pairwise_append] at h
  obtain ⟨h1, h2, h3⟩ := h
  rcases List.mem_append.1 hp with hp | hp
  · exact h3 p hp (k, v) (by simp)
  · exact (fun e => (List.pairwise_cons.1 h2).1 p hp e.symm)
/-- Where an entry stands, its pair stands. -/
theorem split_at {es : Array MapEntry} {clock : Nat} {l1 l2 : List (Value × Value)} {v0 : Value} (hok : EsOk P kt es clock (l1 ++ (key, v0) :: l2)) {j : Nat} {e0 : MapEntry} (h2 : es.toList[j]? = some e0) (h3 : e0.key = key) : j = l1.length ∧ e0.val = v0 := by
  have hj : (l1 ++ (key, v0) :: l2)[j]? = some (key, e0.val) := by
    rw [← hok.prs, prs, List.getElem?_map, h2, ← h3]; rfl
  have hap := hok.apart
  have hm := pair_same hap (List.mem_of_getElem? hj) (show (key, v0) ∈ l1 ++ (key, v0) :: l2 by simp)
  refine ⟨?_, hm⟩
  rcases Nat.lt_trichotomy j l1.length with h | h | h
  · rw [List.getElem?_append_left h] at hj
    exact absurd rfl (apart_mid hap _ (List.mem_append_left _ (List.mem_of_getElem? hj)))
  · exact h
  · rw [List.getElem?_append_right (by omega), show j - l1.length = (j - l1.length - 1) + 1 by omega, List.getElem?_cons_succ] at hj
    exact absurd rfl (apart_mid hap _ (List.mem_append_right _ (List.mem_of_getElem? hj)))
/-- A store at a key that is there. -/
theorem MapAt.put_old (K : Keyed P kt) (ht : P.underlying t = some (.map kt e)) {l1 l2 : List (Value × Value)} {v0 : Value} (h : MapAt P kt w b (l1 ++ (key, v0) :: l2)) (hkey : keyOf P kt key = some kl) (v : Value) :
    ∃ w', (Instr.mapUpdate t (.map (some b)) key v).run P w = .ok () w' ∧ MapAt P kt w' b (l1 ++ (key, v) :: l2) ∧ Mod [b] w w' ∧ w'.heap.size = w.heap.size := by
  obtain ⟨es, clock, hb, hok⟩ := h
  rcases K.find w hkey es.toList hok.keys with ⟨_, h2⟩ | ⟨j, e0, h1, h2, h3⟩
  · have hv : (key, v0) ∈ prs es := by rw [hok.prs]; simp
    obtain ⟨x, hx, hx2⟩ := List.mem_map.1 hv
    exact absurd (congrArg Prod.fst hx2) (h2 x hx)
  · have hj : es[j]? = some e0 := by simpa using h2
    obtain ⟨rfl, -⟩ := split_at hok h2 h3
    have hkeyf : ∀ e', es[l1.length]? = some e' → ({ e' with key := key, val := v } : MapEntry).key = e'.key := fun e' he' => by rw [hj] at he'; cases he'; exact h3.symm
    have hlist : (es.modify l1.length (fun e' => { e' with key := key, val := v })).toList = es.toList.set l1.length { e0 with key := key, val := v } := by rw [Array.toList_modify, modify_eq_set _ _ _ _ h2]
    refine ⟨setBlock w b (.map (es.modify l1.length (fun e' => { e' with key := key, val := v })) clock), ?_, ⟨_, _, setBlock_same hb, stamped_modify hok.st _ _ (fun _ _ => rfl) (fun e' _ he' => hkeyf e' he'), ?_, ?_⟩, setBlock_mod _ _ _, setBlock_size _ _ _⟩
    · simp [Instr.mapUpdate, run_underlying ht, MapKept.run_getObj_map hb, K.check w false hkey, h1, hj, h3, K.stays w hkey, MapKept.run_setObj_map _ hb, Result.andThen, setBlock]
    · intro x hx
      rw [hlist] at hx
      rcases List.mem_or_eq_of_mem_set hx with hx | rfl
      · exact hok.keys x hx
      · exact ⟨kl, hkey⟩
    · unfold Go.Proofs.Ytfbcdblgfhekpaa.prs
      rw [hlist, List.map_set]
      have := hok.prs
      unfold Go.Proofs.Ytfbcdblgfhekpaa.prs at this
      rw [this, List.set_append_right _ _ (Nat.le_refl _), Nat.sub_self]
      rfl
/-- delete at a key that is there. -/
theorem MapAt.del_in {ty : TypeId} (K : Keyed P kt) (ht : P.underlying t = some (.map kt e)) {l1 l2 : List (Value × Value)} {v0 : Value} (h : MapAt P kt w b (l1 ++ (key, v0) :: l2)) (hkey : keyOf P kt key = some kl) :
    ∃ w', (Builtin.delete_ #[t, kt] ty #[.map (some b), key]).run P w = .ok (.tuple #[]) w' ∧ MapAt P kt w' b (l1 ++ l2) ∧ Mod [b] w w' ∧ w'.heap.size = w.heap.size := by
  obtain ⟨es, clock, hb, hok⟩ := h
  rcases K.find w hkey es.toList hok.keys with ⟨_, h2⟩ | ⟨j, e0, h1, h2, h3⟩
  · have hv : (key, v0) ∈ prs es := by rw [hok.prs]; simp
    obtain ⟨x, hx, hx2⟩ := List.mem_map.1 hv
    exact absurd (congrArg Prod.fst hx2) (h2 x hx)
  · obtain ⟨rfl, -⟩ := split_at hok h2 h3
    have hjs : l1.length < es.size := by have := (List.getElem?_eq_some_iff.1 h2).1; simpa using this
    have hsub : (es.eraseIdxIfInBounds l1.length).toList = es.toList.eraseIdx l1.length := by
      unfold Array.eraseIdxIfInBounds
      rw [dif_pos hjs]
      simp
    refine ⟨setBlock w b (.map (es.eraseIdxIfInBounds l1.length) clock), ?_, ⟨_, _, setBlock_same hb, stamped_erase hok.st _, ?_, ?_⟩, setBlock_mod _ _ _, setBlock_size _ _ _⟩
    · simp [Builtin.delete_, run_underlying ht, MapKept.run_getObj_map hb, K.check w _ hkey, h1, MapKept.run_setObj_map _ hb, Result.andThen, setBlock]
    · intro x hx
      rw [hsub] at hx
      exact hok.keys x ((List.eraseIdx_sublist _ _).subset hx)
    · have := hok.prs
      unfold Go.Proofs.Ytfbcdblgfhekpaa.prs at this ⊢
      rw [hsub, ChangeMaps.map_eraseIdx, this, List.eraseIdx_append_of_length_le (Nat.le_refl _), Nat.sub_self]
      rfl

/-! 'range' over a map whose entries stay. -/
/-- Block r is an iterator over map b of the pairs l, of which 'todo' are still to come. -/
def RangeAt (P : Program) (kt : TypeId) (w : World) (b r : Nat) (l todo : List (Value × Value)) : Prop :=
  ∃ es clock since seen c0, w.heap[b]? = some (.map es clock) ∧ EsOk P kt es clock l ∧ w.heap[r]? = some (.mapIter (some b) since seen c0) ∧ (∀ x ∈ es.toList, x.born < since) ∧ since ≤ c0 ∧ since ≤ clock ∧ prs (leftOf es seen) = todo
theorem RangeAt.mod {w' : World} {F : List Nat} {r : Nat} {todo : List (Value × Value)} (h : RangeAt P kt w b r l todo) (hm : Mod F w w') (hb : b ∉ F) (hr : r ∉ F) : RangeAt P kt w' b r l todo := by
  obtain ⟨es, clock, since, seen, c0, h1, h2, h3, h4, h5, h7, h6⟩ := h
  exact ⟨es, clock, since, seen, c0, hm.keep h1 hb, h2, hm.keep h3 hr, h4, h5, h7, h6⟩
theorem RangeAt.lt {r : Nat} {todo : List (Value × Value)} (h : RangeAt P kt w b r l todo) : r < w.heap.size := by obtain ⟨_, _, _, _, _, _, _, h3, _⟩ := h; exact blk_lt h3
theorem MapAt.range (ht : P.underlying t = some (.map kt e)) (h : MapAt P kt w b l) :
    ∃ o, (Instr.range t (.map (some b))).run P w = .ok (.pointer (some ⟨w.heap.size, 0, none⟩)) (w.alloc o) ∧ RangeAt P kt (w.alloc o) b w.heap.size l l := by
  obtain ⟨es, clock, hb, hok⟩ := h
  refine ⟨_, run_range_map w t kt e b es clock ht hb, es, clock, clock, #[], clock, blk_alloc hb _, hok, (MapKept.heap_alloc w _).1, ((stamped_iff es clock).1 hok.st).1, Nat.le_refl _, Nat.le_refl _, ?_⟩
  rw [← hok.prs]
  unfold leftOf
  congr 1
  rw [Array.filter_eq_self]
  simp
theorem RangeAt.over {r : Nat} (h : RangeAt P kt w b r l []) (ty : TypeId) : (Instr.next (.pointer (some ⟨r, 0, none⟩)) false ty).run P w = .ok (.tuple #[.bool false]) w := by
  obtain ⟨es, clock, since, seen, c0, h1, h2, h3, h4, h5, h7, h6⟩ := h
  rcases run_next_at (P := P) w ty r b since c0 seen es clock h3 h1 h4 h5 with ⟨_, hr⟩ | ⟨x, hx, _⟩
  · exact hr
  · have : (x.key, x.val) ∈ prs (leftOf es seen) := List.mem_map.2 ⟨x, hx, rfl⟩
    rw [h6] at this
    cases this
theorem RangeAt.next {r : Nat} {todo : List (Value × Value)} (h : RangeAt P kt w b r l todo) (hne : todo ≠ []) (ty : TypeId) :
    ∃ t1 p t2 w', todo = t1 ++ p :: t2 ∧ p ∈ l ∧ (Instr.next (.pointer (some ⟨r, 0, none⟩)) false ty).run P w = .ok (.tuple #[.bool true, p.1, p.2]) w' ∧
      (Instr.entry (.pointer (some ⟨r, 0, none⟩))).run P w' = .ok (.tuple #[p.1, p.2]) w' ∧ RangeAt P kt w' b r l (t1 ++ t2) ∧ Mod [r] w w' ∧ w'.heap.size = w.heap.size := by
  obtain ⟨es, clock, since, seen, c0, h1, h2, h3, h4, h5, h7, h6⟩ := h
  have hbr : b ≠ r := by rintro rfl; rw [h1] at h3; cases h3
  rcases run_next_at (P := P) w ty r b since c0 seen es clock h3 h1 h4 h5 with ⟨h0, _⟩ | ⟨x, hx, w1, hw1, hr⟩
  · have : leftOf es seen = #[] := Array.eq_empty_of_size_eq_zero h0
    rw [this] at h6
    exact absurd h6.symm hne
  · have hm1 : Mod [] w w1 := by 
      rcases hw1 with rfl | rfl
      · exact Mod.refl _ _
      · exact (Mod.refl _ _).drew
    have hs1 : w1.heap.size = w.heap.size := by rcases hw1 with rfl | rfl <;> rfl
    obtain ⟨hxe, hxs⟩ := mem_left hx
    have hst := (stamped_iff es clock).1 h2.st
    obtain ⟨a, c, hac⟩ := List.append_of_mem hx
    have hnd : ((leftOf es seen).toList.map (·.born)).Nodup := by
      unfold leftOf
      rw [Array.toList_filter]
      exact List.Nodup.sublist (List.Sublist.map _ List.filter_sublist) hst.2.1
    have hleft : (leftOf es (seen.push x.born)).toList = a ++ c := by
      have e1 : (leftOf es (seen.push x.born)).toList = (leftOf es seen).toList.filter (fun y => !(y.born == x.born)) := by
        unfold leftOf
        rw [Array.toList_filter, Array.toList_filter, List.filter_filter]
        apply List.filter_congr
        intro y _
        rw [Array.contains_push]
        cases (y.born == x.born) <;> cases seen.contains y.born <;> rfl
      rw [e1, hac]
      rw [hac, List.map_append, List.map_cons] at hnd
      rw [List.nodup_append] at hnd
      obtain ⟨_, n2, n3⟩ := hnd
      rw [List.nodup_cons] at n2
      rw [List.filter_append, List.filter_cons]
      simp only [beq_self_eq_true, Bool.not_true, Bool.false_eq_true, if_false]
      congr 1
      · rw [List.filter_eq_self]
        intro y hy
        have := n3 y.born (List.mem_map.2 ⟨y, hy, rfl⟩) x.born (by simp)
        simpa using this
      · rw [List.filter_eq_self]
        intro y hy
        have : y.born ≠ x.born := fun e => n2.1 (by rw [← e]; exact List.mem_map.2 ⟨y, hy, rfl⟩)
        simpa using this
    have h1' : (setBlock w1 r (.mapIter (some b) since (seen.push x.born) clock)).heap[b]? = some (.map es clock) := by rw [setBlock_ne hbr]; exact hm1.keep h1 (by simp)
    have h3' : (setBlock w1 r (.mapIter (some b) since (seen.push x.born) clock)).heap[r]? = some (.mapIter (some b) since (seen.push x.born) clock) := setBlock_same (hm1.keep h3 (by simp))
    refine ⟨a.map (fun y => (y.key, y.val)), (x.key, x.val), c.map (fun y => (y.key, y.val)), _, ?_, h2.mem hxe, hr, run_entry_at _ r b since seen es clock x h3' h1' hxe hst.2.1, ⟨es, clock, since, seen.push x.born, clock, h1', h2, h3', h4, h7, h7, ?_⟩, (hm1.mono (G := [r]) (by simp)).trans (setBlock_mod _ _ _) (fun x hx => .inl hx), ?_⟩
    · rw [← h6]; unfold prs; rw [hac]; simp
    · unfold prs; rw [hleft, List.map_append]
    · rw [setBlock_size, hs1]
end
end Go.Proofs.Ytfbcdblgfhekpaa
