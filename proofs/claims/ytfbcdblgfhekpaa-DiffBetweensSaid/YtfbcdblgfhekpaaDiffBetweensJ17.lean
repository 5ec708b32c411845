import Derived.Test.YtfbcdblgfhekpaaDiffBetweensJ16
import Derived.Test.YtfbcdblgfhekpaaDiffBetweensJ11
import Derived.Test.YtfbcdblgfhekpaaDiffBetweensJ12
import Derived.Shelf.SlSortCmp.NoneTotal
import Derived.Test.YtfbcdblgfhekpaaDiffBetweensJ4
/- A region whose drawn head has known values, but for those of a list of operations; what the world is, an invariant says. -/
namespace Go.Proofs.Ytfbcdblgfhekpaa
open Go Go.RowKit

structure PostK (i : Nat) (n : List Nat) (c : Value) (J : Value → World → Prop) (v : Value) (w : World) : Prop where
  val : i ∈ n ∨ v = c
  inv : J v w
section
variable {P : Program}
def vpK (n : List Nat) : Nat → List Value → List (Value → World → Prop)
  | _, [] => []
  | k, v :: vs => (fun u _ => k ∈ n ∨ u = v) :: vpK n (k + 1) vs
theorem vpK_get (n : List Nat) : ∀ (vs : List Value) (k i : Nat), i < vs.length → (vpK n k vs).getD i (fun _ _ => True) = fun u _ => k + i ∈ n ∨ u = vs.getD i undef
  | [], _, _, h => by simp at h
  | v :: vs, k, 0, _ => rfl
  | v :: vs, k, i + 1, h => by
    have := vpK_get n vs (k + 1) i (by simpa using h)
    rw [show k + 1 + i = k + (i + 1) by omega] at this
    exact this
theorem keepAll_vpK {n : List Nat} {σ : Nat → Value} {L : Nat → Bool} {w w' : World} : ∀ (vs : List Value) (k j : Nat), KeepAll σ L w w' k (vpK n j vs)
  | [], _, _ => trivial
  | _ :: vs, k, j => ⟨fun _ h => h, keepAll_vpK vs (k + 1) (j + 1)⟩
/-- What is known of the values numbered in the list. -/
def PreK (n : List Nat) (vs : List Value) (σ : Nat → Value) : List Nat → Prop
  | [] => True
  | j :: l => (j ∈ n ∨ σ j = vs.getD j undef) ∧ PreK n vs σ l
theorem preK_nil {n : List Nat} {vs : List Value} {σ : Nat → Value} : PreK n vs σ [] = True := rfl
theorem preK_cons {n : List Nat} {vs : List Value} {σ : Nat → Value} {j : Nat} {l : List Nat} : PreK n vs σ (j :: l) = ((j ∈ n ∨ σ j = vs.getD j undef) ∧ PreK n vs σ l) := rfl
theorem preK_of {n : List Nat} {vs : List Value} {σ : Nat → Value} {w : World} : ∀ (l : List Nat), (∀ j ∈ l, j < vs.length) → PreF (vpK n 0 vs) σ w l → PreK n vs σ l
  | [], _, _ => trivial
  | j :: l, hl, h => by
    refine ⟨?_, preK_of l (fun x hx => hl x (by simp [hx])) h.2⟩
    have h1 := h.1
    rw [vpK_get n vs 0 j (hl j (by simp))] at h1
    simpa using h1
def OpGoalK (P : Program) (dsts : List (Option Tmp)) (pre : List (List Nat)) (vs : List Value) (n : List Nat) (I : (Nat → Bool) → (Nat → Value) → World → Prop) (a0 : Act) (i : Nat) (o : Oper) : Prop :=
  ∀ (L : Nat → Bool) (σ : Nat → Value) (w : World), L i = false → (∀ j ∈ pre.getD i [], L j = true) → (∀ k, i ∈ pre.getD k [] → L k = false) → I L σ w → PreK n vs σ (pre.getD i []) →
    if wantedL dsts (putF dsts σ (pre.getD i []) a0) o.guard = true then YieldsR P o (putF dsts σ (pre.getD i []) a0).eval w (PostK i n (vs.getD i undef) (fun v => I (upd L i) (updv σ i v)))
    else PostK i n (vs.getD i undef) (fun v => I (upd L i) (updv σ i v)) undef w
/-- A region that draws its order: all values of its head are known, but for those of the operations n. -/
theorem wp_planK {Q : Exit → Act → World → Prop} {id : Nat} {l : List Oper} {a0 : Act} {w0 : World} (n : List Nat) (m : Nat) (fl : List Nat) (dsts : List (Option Tmp)) (pre : List (List Nat)) (is : List Nat) (I : (Nat → Bool) → (Nat → Value) → World → Prop)
    (hm : P.follows .mixedOrders = true) (hd : l.map (·.dst) = dsts) (hc : planOk l.toArray pre = true) (hT : tailOkB l pre m fl = true) (hmn : m ≤ l.length) (hpm : (pre.take m).all (fun q => q.all (fun j => decide (j < m))) = true)
    (h0 : I (fun _ => false) (fun _ => undef) w0.drew) (his : List.range m = is)
    (h : ExL m fun vs => vs.length = m ∧ AllFrom (OpGoalK P dsts pre vs n I a0) 0 (l.take m) ∧
      (∀ (L : Nat → Bool) (σ : Nat → Value) w, (∀ i ∈ is, L i = true) → I L σ w → PreK n vs σ is → wpList P l.toArray (OnlyN Q) (l.drop m) (putF dsts σ is a0) w)) :
    (Code.region id l.toArray true).wp P Q a0 w0 := by
  obtain ⟨vs, hl, h1, h2⟩ := h.out
  have hpre : ∀ i, i < m → ∀ j ∈ pre.getD i [], j < vs.length := by
    intro i hi j hj
    rw [hl]
    cases hg : pre[i]? with
    | none => rw [List.getD_eq_getElem?_getD, hg] at hj; simp at hj
    | some q =>
      rw [List.getD_eq_getElem?_getD, hg] at hj
      simp only [Option.getD_some] at hj
      have hq : q ∈ pre.take m := by
        refine List.mem_of_getElem? (i := i) ?_
        rw [List.getElem?_take, if_pos hi]; exact hg
      have := List.all_eq_true.1 (List.all_eq_true.1 hpm q hq) j hj
      simpa using this
  refine wp_planF m fl dsts pre is 0 (fun _ => vpK n 0 vs) I hm hd hc hT hmn h0 his ?_
  show _ ∧ _
  refine ⟨allFrom_imp _ _ (fun j o hj hp => ?_) h1, fun L σ w hL hI hq => h2 L σ w hL hI (preK_of is (fun i hi => by rw [hl]; rw [← his] at hi; simpa using hi) hq)⟩
  have hjm : j < m := by
    rcases Nat.lt_or_ge j m with h | h
    · exact h
    · rw [List.getElem?_eq_none (by rw [List.length_take]; omega)] at hj; cases hj
  intro L σ w hL1 hL2 hL3 hI hq
  simp only [Nat.zero_add] at hp hL1 hL2 hL3 hq ⊢
  have := hp L σ w hL1 hL2 hL3 hI (preK_of _ (hpre j hjm) hq)
  have key : ∀ v w', PostK j n (vs.getD j undef) (fun v => I (upd L j) (updv σ j v)) v w' → PostV ((vpK n 0 vs).getD j (fun _ _ => True)) (fun v => I (upd L j) (updv σ j v)) (fun w' => KeepAll σ L w w' 0 (vpK n 0 vs)) v w' := fun v w' k =>
    ⟨by rw [vpK_get n vs 0 j (by omega), Nat.zero_add]; exact k.val, k.inv, keepAll_vpK _ _ _⟩
  split
  · next hw => rw [if_pos hw] at this; exact this.mono key
  · next hw => rw [if_neg hw] at this; exact key _ _ this
end
end Go.Proofs.Ytfbcdblgfhekpaa

/- Worlds: Get. (printed by mk_w9.py) -/
namespace Go.Proofs.Ytfbcdblgfhekpaa
open Go Go.RowKit

attribute [local go_sem] AllFrom.cons_eq AllFrom.nil_eq putF_nil putF_cons wantedL_none wantedL_some OpGoalT OpGoalV OpGoalQ OpGoalA OpGoalK YieldsR preF_nil preF_cons

/-- A region that makes one block (operation n) and stores into it (operation m). -/
structure IGet (n m : Nat) (w2 : World) (zs row : Array Value) (T : TypeId) (L : Nat → Bool) (σ : Nat → Value) (V : World) : Prop where
  b : Below w2.heap.size w2 V
  blk : L n = true → ∃ g, σ n = .pointer (some ⟨g, 0, none⟩) ∧ w2.heap.size ≤ g ∧ V.heap[g]? = some (.cells (if L m = true then row else zs) T (0, 0))
section
variable {n m : Nat} {w2 V V' : World} {zs row : Array Value} {T : TypeId} {L : Nat → Bool} {σ : Nat → Value}
theorem IGet.start (h : Below w2.heap.size w2 V) : IGet n m w2 zs row T (fun _ => false) σ V := ⟨h, fun e => by cases e⟩
theorem IGet.read (h : IGet n m w2 zs row T L σ V) {i : Nat} (h1 : i ≠ n) (h2 : i ≠ m) (v : Value) : IGet n m w2 zs row T (upd L i) (updv σ i v) V := by
  have e1 : upd L i n = L n := by unfold upd; simp [Ne.symm h1]
  have e2 : upd L i m = L m := by unfold upd; simp [Ne.symm h2]
  refine ⟨h.b, fun e => ?_⟩
  rw [e1] at e
  rw [e2]
  obtain ⟨g, q1, q2, q3⟩ := h.blk e
  exact ⟨g, by unfold updv; rw [if_neg (Ne.symm h1)]; exact q1, q2, q3⟩
theorem IGet.step (h : IGet n m w2 zs row T L σ V) (hb : Below V.heap.size V V') : IGet n m w2 zs row T L σ V' :=
  ⟨h.b.trans (hb.mono h.b.size), fun e => by obtain ⟨g, q1, q2, q3⟩ := h.blk e; exact ⟨g, q1, q2, (Mod.ofBelow hb).keep q3 (by simp)⟩⟩
theorem IGet.made (h : IGet n m w2 zs row T L σ V) (hnm : n ≠ m) (hm : L m = false) : IGet n m w2 zs row T (upd L n) (updv σ n (.pointer (some ⟨V.heap.size, 0, none⟩))) (V.alloc (.cells zs T)) := by
  refine ⟨h.b.alloc h.b.size _, fun _ => ⟨V.heap.size, by unfold updv; rw [if_pos rfl], h.b.size, ?_⟩⟩
  have e2 : upd L n m = false := by unfold upd; simp [Ne.symm hnm, hm]
  rw [e2]; exact heap_alloc_new V _
theorem IGet.stored {zl rl : List Value} (h : IGet n m w2 zl.toArray rl.toArray T L σ V) (hnm : n ≠ m) (hn : L n = true) (hm : L m = false) (hl : rl.length = zl.length) : ∃ g, σ n = .pointer (some ⟨g, 0, none⟩) ∧ V.there g 0 rl.length ∧ ∀ v, IGet n m w2 zl.toArray rl.toArray T (upd L m) (updv σ m v) (V.setCells g 0 rl) := by
  obtain ⟨g, q1, q2, q3⟩ := h.blk hn
  rw [hm] at q3
  simp only [Bool.false_eq_true, if_false] at q3
  have hst := setCells_block (w := V) rl 0 V zl q3
  rw [setL_all rl zl hl] at hst
  have hmod := mod_setCells (F := [g]) (g := g) (.inl (by simp)) rl 0 V (Mod.refl _ V)
  refine ⟨g, q1, hl ▸ blk_there q3 (Nat.le_refl _), fun v => ⟨h.b.trans (hmod.toBelow (by simpa using q2) h.b.size), fun _ => ⟨g, by unfold updv; rw [if_neg hnm]; exact q1, q2, ?_⟩⟩⟩
  have e2 : upd L m m = true := by simp [upd]
  rw [e2]; exact hst
end
theorem yr_store {P : Program} {o : Oper} {ρ : Operand → Value} {w : World} {J : Value → World → Prop} (ty : TypeId) (x y : Operand) (ho : o.op = .store ty x y) (b f : Nat) (vs : List Value) (hx : ρ x = .pointer (some ⟨b, f, none⟩)) (hy : ρ y = .agg vs.toArray) (ht : w.there b f vs.length)
    (hi : (P.info? ty).map (·.size) = some vs.length) (h1 : ∀ u ∈ vs, u.oneCell' = true) (h : J undef (w.setCells b f vs)) : YieldsR P o ρ w J := by
  unfold YieldsR execOp
  simp only [ho, hx, hy, Instr.storeAt, Instr.sureAddr, Sem.run_bind, Sem.run_pure, Result.andThen_ok, run_storeVar_mid w b f ty vs.toArray (by simpa using ht) (by simpa using hi) (all_oneCell_toArray h1)]
  simpa using h

theorem IGet.yr_stored {P : Program} {o : Oper} {ρ : Operand → Value} {J : Value → World → Prop} {n m : Nat} {w2 V : World} {zl rl : List Value} {T : TypeId} {L : Nat → Bool} {σ : Nat → Value}
    (h : IGet n m w2 zl.toArray rl.toArray T L σ V) (hnm : n ≠ m) (hn : L n = true) (hm : L m = false) (hl : rl.length = zl.length) (ty : TypeId) (x y : Operand) (ho : o.op = .store ty x y) (hx : ρ x = σ n) (hy : ρ y = .agg rl.toArray)
    (hi : (P.info? ty).map (·.size) = some rl.length) (h1 : ∀ u ∈ rl, u.oneCell' = true) (hJ : ∀ V', IGet n m w2 zl.toArray rl.toArray T (upd L m) (updv σ m undef) V' → J undef V') : YieldsR P o ρ V J := by
  obtain ⟨g, hr, hth, hst⟩ := h.stored hnm hn hm hl
  exact yr_store ty x y ho g 0 rl (hx.trans hr) hy hth hi h1 (hJ _ (hst _))

section
variable {w : World} {p : Nat} {sl : Sl} {L : List Rw} {F : List Nat}

end
end Go.Proofs.Ytfbcdblgfhekpaa

/- Families: the map of the program; New, Parent, Loosen. (printed by mk_fam1.py) -/
namespace Go.Proofs.Ytfbcdblgfhekpaa
open Go Go.RowKit Go.Maps
attribute [local go_sem] AllFrom.cons_eq AllFrom.nil_eq putF_nil putF_cons wantedL_none wantedL_some OpGoalT OpGoalV OpGoalQ OpGoalA OpGoalK YieldsR preF_nil preF_cons

def bdPr (b : Bd) : Value × Value := (hdV b.1, hdV b.2)
theorem bdPr_keys : HdKeys (β := Hd) bdPr := ⟨fun _ => rfl⟩
theorem MapAt.freshH {w' : World} {b : Nat} (h : w'.heap[b]? = some (.map #[] 0)) : MapAt Try.prog 28 w' b [] := ⟨#[], 0, h, ⟨Go.MapKept.stamped_empty 0, by simp, rfl⟩⟩

section
variable {w : World} {f : Nat} {B : List Bd} {F : List Nat}
/-- A look-up in the family's map, in whatever world holds it. -/
def parV (o : Option Hd) : Hd := o.getD (0, 0)
def ParPost (o : Option Hd) (w : World) (e : Ending) (w' : World) : Prop := e = .returned (.tuple #[hdV (parV o), .bool o.isSome]) ∧ Below w.heap.size w w'
def looE (o : Option Hd) : Int := if o.isSome then 0 else 5
theorem outB_none {k : Hd} (h : parB B k = none) : outB B k = B := List.filter_eq_self.2 fun b hb => by simpa using parB_none h b hb
end
end Go.Proofs.Ytfbcdblgfhekpaa

/- slices.SortFunc at a row of records of one's own: it is permuted, and sorted. -/
namespace Go.Proofs.Ytfbcdblgfhekpaa
open Go Go.RowKit Go.Shelf Go.Sort

section
variable {α : Type} [Inhabited α] {enc : α → List Value} {k : Nat}
theorem get_bang {l : List α} {i : Nat} (h : i < l.length) : l.toArray[i]! = l[i] := by
  rw [getElem!_pos _ i (by simpa using h)]; simp
theorem flat_bang (hk : ∀ x, (enc x).length = k) (l : List α) (t : Nat) (ht : t < l.length * k) : (l.flatMap enc)[t]? = some (flatK enc k l.toArray)[t]! := by
  have k0 : 0 < k := by rcases Nat.eq_zero_or_pos k with h | h
                        · subst h; simp at ht
                        · exact h
  have hq : t / k < l.length := Nat.div_lt_of_lt_mul (by rw [Nat.mul_comm]; exact ht)
  have hr : t % k < k := Nat.mod_lt _ k0
  rw [get_flatK _ _ _ _ (by simpa using ht), get_bang hq]
  have h1 := flatV_get hk l (t / k) hq (t % k) hr
  rw [show t / k * k + t % k = t by rw [Nat.mul_comm]; exact Nat.div_add_mod t k] at h1
  rw [h1, List.getElem?_eq_getElem (by rw [hk]; exact hr), getElem!_pos _ _ (by rw [hk]; exact hr)]
/-- The row, laid anew with as many records. -/
theorem own_putRowK (hk : ∀ x, (enc x).length = k) {w : World} {B E g cap : Nat} {l l' : List α} (hown : w.ownsRow B E k (.slice (some ⟨g, 0, none⟩) l.length cap) l.length (l.flatMap enc)) (hl : l'.length = l.length) (m : Nat) (os : Array Obj) :
    (sortWorldK enc k w g 0 m l'.toArray os).ownsRow B E k (.slice (some ⟨g, 0, none⟩) l'.length cap) l'.length (l'.flatMap enc) ∧ Mod [g] w (sortWorldK enc k w g 0 m l'.toArray os) := by
  obtain ⟨hx, ⟨h, -⟩ | ⟨g', cap', cur, h, hB, hb, hn, hc, hs, ht⟩⟩ := hown
  · cases h
  simp only [Value.slice.injEq, Option.some.injEq, Addr.mk.injEq, true_and] at h
  obtain ⟨⟨rfl, -⟩, rfl⟩ := h
  have hgl := blk_lt hb
  have hput : (putRowK enc k (Sort.ahead w m) g 0 l'.toArray).heap[g]? = some (.cells (putCells id 0 (flatK enc k l'.toArray) cur) E (0, 0)) := by
    unfold putRowK putRow mapBlock
    show (w.heap.modify g _)[g]? = _
    rw [Array.getElem?_modify, if_pos rfl, hb]
    rfl
  have hsz : (putRowK enc k (Sort.ahead w m) g 0 l'.toArray).heap.size = w.heap.size := by
    unfold putRowK
    rw [size_putRow]
    rfl
  have hmod : Mod [g] w (sortWorldK enc k w g 0 m l'.toArray os) := by
    refine ⟨rfl, rfl, rfl, ?_, fun j hj hn => ?_⟩
    · show _ ≤ ((putRowK enc k (Sort.ahead w m) g 0 l'.toArray).heap ++ os).size
      rw [Array.size_append, hsz]; omega
    · show ((putRowK enc k (Sort.ahead w m) g 0 l'.toArray).heap ++ os)[j]? = _
      rw [Array.getElem?_append_left (by rw [hsz]; exact hj)]
      unfold putRowK putRow mapBlock
      show (w.heap.modify g _)[j]? = _
      rw [Array.getElem?_modify, if_neg (fun e => hn (by simp [e]))]
  have hnk : l.length * k ≤ cap * k := Nat.mul_le_mul_right k hn
  refine ⟨⟨by rw [flatV_length hk], .inr ⟨g, cap, putCells id 0 (flatK enc k l'.toArray) cur, rfl, hB, ?_, by omega, hc, by rw [putCells, Array.size_mapIdx]; exact hs, ?_⟩⟩, hmod⟩
  · show ((putRowK enc k (Sort.ahead w m) g 0 l'.toArray).heap ++ os)[g]? = _
    rw [Array.getElem?_append_left (by rw [hsz]; exact hgl)]
    exact hput
  · apply List.ext_getElem?
    intro t
    rw [List.getElem?_take]
    by_cases h1 : t < l'.length * k
    · rw [if_pos h1, flat_bang hk l' t h1]
      have h2 : t < cur.size := by rw [hs]; rw [hl] at h1; omega
      rw [Array.getElem?_toList, putCells, Array.getElem?_mapIdx, Array.getElem?_eq_getElem h2]
      simp only [Option.map_some, Nat.zero_le, true_and, Nat.zero_add, size_flatK, List.size_toArray, id, Nat.sub_zero]
      rw [if_pos h1]
    · rw [if_neg h1, List.getElem?_eq_none (by rw [flatV_length hk]; omega)]
/-- What the sort leaves of a row. -/
def SortedRow (enc : α → List Value) (k B E : Nat) (lt : α → α → Bool) (l : List α) (v : Value) (w : World) (e : Ending) (w' : World) : Prop :=
  e = .returned (.tuple #[]) ∧ ∃ l' : List α, l'.Perm l ∧ l'.Pairwise (fun x y => lt y x = false) ∧ w'.ownsRow B E k v l'.length (l'.flatMap enc) ∧ Mod v.ownBlock.toList w w'
theorem sort_own {P : Program} {ρ : Ren} (L : SlLaysF0.n6 P ρ) (aE : ∀ w, (isAgg (ρ.t 24)).run P w = .ok true w) (zE : ∀ w, (Go.sizeOf (ρ.t 24)).run P w = .ok k w) (hk : ∀ x, (enc x).length = k) (h1 : ∀ x, ∀ v ∈ enc x, v.oneCell' = true)
    (cf : α → α → Int) (hO : SWO (ltOf cf)) (g : Nat) (eg : ∀ args w, (callFunc g args).run P w = .ok (.enter g args) w)
    (hcmp : ∀ x y W, Calls P g #[.agg (enc x).toArray, .agg (enc y).toArray] W fun e w' => e = .returned (.int .i64 (cf x y)) ∧ ∃ q os, w' = grow (W.drewN q) os)
    {w : World} {B E : Nat} {v : Value} {l : List α} (hown : w.ownsRow B E k v l.length (l.flatMap enc)) (hl : l.length < 4611686018427387904) :
    Calls P (ρ.f 6) #[v, .func (.func g) #[] #[]] w (SortedRow enc k B E (ltOf cf) l v w) := by
  obtain ⟨A, cap, rfl, -, -⟩ := row_slice hown
  by_cases h0 : l.length = 0
  · have hn : l = [] := List.eq_nil_of_length_eq_zero h0
    subst hn
    refine (AnyF.slices_SortFunc_none L A cap _ w).mono ?_
    rintro e w' ⟨rfl, rfl⟩
    exact ⟨rfl, [], .refl _, .nil, hown, Mod.refl _ _⟩
  · obtain ⟨g0, cap0, cur, hv, hB, hb, hn, hc, hs, ht⟩ := row_some hown (by omega)
    simp only [Value.slice.injEq, true_and] at hv
    obtain ⟨rfl, rfl⟩ := hv
    have hH : HoldsK enc k w g0 0 l.toArray := by
      intro j hj
      rw [size_flatK, List.size_toArray] at hj
      have := flat_bang hk l j hj
      refine ⟨?_, ?_⟩
      · rw [Nat.zero_add]; exact row_cell hown this
      · rw [Nat.zero_add]; exact row_free hown j
    have hcon := AnyQ.slices_SortFunc L k aE zE enc hk h1 cf hO g #[] g0 0 cap l.toArray w eg (fun m os dk _ x y => by simpa using hcmp x y _) hH (blk_lt hb) (by simpa using hl)
    rw [List.size_toArray] at hcon
    refine hcon.mono ?_
    rintro e w' ⟨rfl, d', n, os, hp, hsd, rfl⟩
    obtain ⟨hp1, -, hp3⟩ := hp
    rw [List.size_toArray] at hp1
    have e1 : d' = d'.toList.toArray := by simp
    have hlen : d'.toList.length = l.length := by simpa using hp1
    obtain ⟨h3, h4⟩ := own_putRowK (l' := d'.toList) hk hown hlen n os
    rw [← e1] at h3 h4
    refine ⟨rfl, d'.toList, ?_, ?_, ?_, ?_⟩
    · have hp2 : d'.size = l.length := by simpa using hp1
      have a1 : (d'.extract 0 l.length) = d' := by rw [← hp2]; exact Array.extract_size
      have a2 : (l.toArray.extract 0 l.length) = l.toArray := by
        have : l.toArray.size = l.length := by simp
        rw [← this]; exact Array.extract_size
      rw [a1, a2] at hp3
      exact hp3
    · refine List.pairwise_iff_getElem.2 fun i j hi hj hij => ?_
      have := hsd i j (Nat.zero_le _) hij (by rw [hlen] at hj; exact hj)
      rw [getElem!_pos d' i (by simpa using hi), getElem!_pos d' j (by simpa using hj)] at this
      simpa using this
    · rw [hlen] at h3 ⊢; exact h3
    · exact h4
end
end Go.Proofs.Ytfbcdblgfhekpaa
