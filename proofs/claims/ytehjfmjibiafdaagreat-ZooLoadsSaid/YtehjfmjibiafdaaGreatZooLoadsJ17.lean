import Derived.Test.YtehjfmjibiafdaaGreatZooLoadsJ16
import Derived.Test.YtehjfmjibiafdaaGreatZooLoadsJ8
import Derived.Test.YtehjfmjibiafdaaGreatZooLoadsJ12
import Derived.Test.YtehjfmjibiafdaaGreatZooLoadsJ13
/- Worlds: Spawn, Kill. (printed by mk_w7.py) -/
namespace Go.Proofs.YtehjfmjibiafdaaGreat
open Go Go.RowKit

theorem box1 (w : World) (o1 : Obj) : ∃ w0, w.alloc o1 = w0 ∧ Below w.heap.size w w0 ∧ w0.heap[w.heap.size]? = some o1 ∧ w0.heap.size = w.heap.size + 1 :=
  ⟨_, rfl, (Below.refl _ _).alloc (Nat.le_refl _) _, (MapKept.heap_alloc w o1).1, by simp⟩

attribute [local go_sem] AllFrom.cons_eq AllFrom.nil_eq putF_nil putF_cons wantedL_none wantedL_some OpGoalT OpGoalV OpGoalQ OpGoalA YieldsR preF_nil preF_cons

section
variable {w : World} {p : Nat} {sl : Sl} {L : List Rw} {F : List Nat}

end
end Go.Proofs.YtehjfmjibiafdaaGreat

/- Worlds: Kill, Get. (printed by mk_w8.py) -/
namespace Go.Proofs.YtehjfmjibiafdaaGreat
open Go Go.RowKit

attribute [local go_sem] AllFrom.cons_eq AllFrom.nil_eq putF_nil putF_cons wantedL_none wantedL_some OpGoalT OpGoalV OpGoalQ OpGoalA YieldsR preF_nil preF_cons

section
variable {w : World} {p : Nat} {sl : Sl} {L : List Rw} {F : List Nat}

end
end Go.Proofs.YtehjfmjibiafdaaGreat

/- A region whose drawn head has known values, but for those of a list of operations; what the world is, an invariant says. -/
namespace Go.Proofs.YtehjfmjibiafdaaGreat
open Go Go.RowKit

structure PostK (i : Nat) (n : List Nat) (c : Value) (J : Value → World → Prop) (v : Value) (w : World) : Prop where
  val : i ∈ n ∨ v = c
  inv : J v w
section
variable {P : Program}
def vpK (n : List Nat) : Nat → List Value → List (Value → World → Prop)
  | _, [] => []
  | k, v :: vs => (fun u _ => k ∈ n ∨ u = v) :: vpK n (k + 1) vs
theorem vpK_get (n : List Nat) : ∀ (vs : List Value) (k i : Nat), i < vs.length → (vpK n k vs).getD i (fun _ _ => True) = fun u _ => k + i ∈ n ∨ u = vs.getD i undef
  | [], _, _, h => by simp at h
  | v :: vs, k, 0, _ => rfl
  | v :: vs, k, i + 1, h => by
    have := vpK_get n vs (k + 1) i (by simpa using h)
    rw [show k + 1 + i = k + (i + 1) by omega] at this
    exact this
theorem keepAll_vpK {n : List Nat} {σ : Nat → Value} {L : Nat → Bool} {w w' : World} : ∀ (vs : List Value) (k j : Nat), KeepAll σ L w w' k (vpK n j vs)
  | [], _, _ => trivial
  | _ :: vs, k, j => ⟨fun _ h => h, keepAll_vpK vs (k + 1) (j + 1)⟩
/-- What is known of the values numbered in the list. -/
def PreK (n : List Nat) (vs : List Value) (σ : Nat → Value) : List Nat → Prop
  | [] => True
  | j :: l => (j ∈ n ∨ σ j = vs.getD j undef) ∧ PreK n vs σ l
theorem preK_nil {n : List Nat} {vs : List Value} {σ : Nat → Value} : PreK n vs σ [] = True := rfl
theorem preK_cons {n : List Nat} {vs : List Value} {σ : Nat → Value} {j : Nat} {l : List Nat} : PreK n vs σ (j :: l) = ((j ∈ n ∨ σ j = vs.getD j undef) ∧ PreK n vs σ l) := rfl
theorem preK_of {n : List Nat} {vs : List Value} {σ : Nat → Value} {w : World} : ∀ (l : List Nat), (∀ j ∈ l, j < vs.length) → PreF (vpK n 0 vs) σ w l → PreK n vs σ l
  | [], _, _ => trivial
  | j :: l, hl, h => by
    refine ⟨?_, preK_of l (fun x hx => hl x (by simp [hx])) h.2⟩
    have h1 := h.1
    rw [vpK_get n vs 0 j (hl j (by simp))] at h1
    simpa using h1
def OpGoalK (P : Program) (dsts : List (Option Tmp)) (pre : List (List Nat)) (vs : List Value) (n : List Nat) (I : (Nat → Bool) → (Nat → Value) → World → Prop) (a0 : Act) (i : Nat) (o : Oper) : Prop :=
  ∀ (L : Nat → Bool) (σ : Nat → Value) (w : World), L i = false → (∀ j ∈ pre.getD i [], L j = true) → (∀ k, i ∈ pre.getD k [] → L k = false) → I L σ w → PreK n vs σ (pre.getD i []) →
    if wantedL dsts (putF dsts σ (pre.getD i []) a0) o.guard = true then YieldsR P o (putF dsts σ (pre.getD i []) a0).eval w (PostK i n (vs.getD i undef) (fun v => I (upd L i) (updv σ i v)))
    else PostK i n (vs.getD i undef) (fun v => I (upd L i) (updv σ i v)) undef w
/-- A region that draws its order: all values of its head are known, but for those of the operations n. -/
theorem wp_planK {Q : Exit → Act → World → Prop} {id : Nat} {l : List Oper} {a0 : Act} {w0 : World} (n : List Nat) (m : Nat) (fl : List Nat) (dsts : List (Option Tmp)) (pre : List (List Nat)) (is : List Nat) (I : (Nat → Bool) → (Nat → Value) → World → Prop)
    (hm : P.follows .mixedOrders = true) (hd : l.map (·.dst) = dsts) (hc : planOk l.toArray pre = true) (hT : tailOkB l pre m fl = true) (hmn : m ≤ l.length) (hpm : (pre.take m).all (fun q => q.all (fun j => decide (j < m))) = true)
    (h0 : I (fun _ => false) (fun _ => undef) w0.drew) (his : List.range m = is)
    (h : ExL m fun vs => vs.length = m ∧ AllFrom (OpGoalK P dsts pre vs n I a0) 0 (l.take m) ∧
      (∀ (L : Nat → Bool) (σ : Nat → Value) w, (∀ i ∈ is, L i = true) → I L σ w → PreK n vs σ is → wpList P l.toArray (OnlyN Q) (l.drop m) (putF dsts σ is a0) w)) :
    (Code.region id l.toArray true).wp P Q a0 w0 := by
  obtain ⟨vs, hl, h1, h2⟩ := h.out
  have hpre : ∀ i, i < m → ∀ j ∈ pre.getD i [], j < vs.length := by
    intro i hi j hj
    rw [hl]
    cases hg : pre[i]? with
    | none => rw [List.getD_eq_getElem?_getD, hg] at hj; simp at hj
    | some q =>
      rw [List.getD_eq_getElem?_getD, hg] at hj
      simp only [Option.getD_some] at hj
      have hq : q ∈ pre.take m := by
        refine List.mem_of_getElem? (i := i) ?_
        rw [List.getElem?_take, if_pos hi]; exact hg
      have := List.all_eq_true.1 (List.all_eq_true.1 hpm q hq) j hj
      simpa using this
  refine wp_planF m fl dsts pre is 0 (fun _ => vpK n 0 vs) I hm hd hc hT hmn h0 his ?_
  show _ ∧ _
  refine ⟨allFrom_imp _ _ (fun j o hj hp => ?_) h1, fun L σ w hL hI hq => h2 L σ w hL hI (preK_of is (fun i hi => by rw [hl]; rw [← his] at hi; simpa using hi) hq)⟩
  have hjm : j < m := by
    rcases Nat.lt_or_ge j m with h | h
    · exact h
    · rw [List.getElem?_eq_none (by rw [List.length_take]; omega)] at hj; cases hj
  intro L σ w hL1 hL2 hL3 hI hq
  simp only [Nat.zero_add] at hp hL1 hL2 hL3 hq ⊢
  have := hp L σ w hL1 hL2 hL3 hI (preK_of _ (hpre j hjm) hq)
  have key : ∀ v w', PostK j n (vs.getD j undef) (fun v => I (upd L j) (updv σ j v)) v w' → PostV ((vpK n 0 vs).getD j (fun _ _ => True)) (fun v => I (upd L j) (updv σ j v)) (fun w' => KeepAll σ L w w' 0 (vpK n 0 vs)) v w' := fun v w' k =>
    ⟨by rw [vpK_get n vs 0 j (by omega), Nat.zero_add]; exact k.val, k.inv, keepAll_vpK _ _ _⟩
  split
  · next hw => rw [if_pos hw] at this; exact this.mono key
  · next hw => rw [if_neg hw] at this; exact key _ _ this
end
end Go.Proofs.YtehjfmjibiafdaaGreat

/- Worlds: Get. (printed by mk_w9.py) -/
namespace Go.Proofs.YtehjfmjibiafdaaGreat
open Go Go.RowKit

attribute [local go_sem] AllFrom.cons_eq AllFrom.nil_eq putF_nil putF_cons wantedL_none wantedL_some OpGoalT OpGoalV OpGoalQ OpGoalA OpGoalK YieldsR preF_nil preF_cons

/-- A region that makes one block (operation n) and stores into it (operation m). -/
structure IGet (n m : Nat) (w2 : World) (zs row : Array Value) (T : TypeId) (L : Nat → Bool) (σ : Nat → Value) (V : World) : Prop where
  b : Below w2.heap.size w2 V
  blk : L n = true → ∃ g, σ n = .pointer (some ⟨g, 0, none⟩) ∧ w2.heap.size ≤ g ∧ V.heap[g]? = some (.cells (if L m = true then row else zs) T (0, 0))
section
variable {n m : Nat} {w2 V V' : World} {zs row : Array Value} {T : TypeId} {L : Nat → Bool} {σ : Nat → Value}
theorem IGet.start (h : Below w2.heap.size w2 V) : IGet n m w2 zs row T (fun _ => false) σ V := ⟨h, fun e => by cases e⟩
theorem IGet.read (h : IGet n m w2 zs row T L σ V) {i : Nat} (h1 : i ≠ n) (h2 : i ≠ m) (v : Value) : IGet n m w2 zs row T (upd L i) (updv σ i v) V := by
  have e1 : upd L i n = L n := by unfold upd; simp [Ne.symm h1]
  have e2 : upd L i m = L m := by unfold upd; simp [Ne.symm h2]
  refine ⟨h.b, fun e => ?_⟩
  rw [e1] at e
  rw [e2]
  obtain ⟨g, q1, q2, q3⟩ := h.blk e
  exact ⟨g, by unfold updv; rw [if_neg (Ne.symm h1)]; exact q1, q2, q3⟩
theorem IGet.step (h : IGet n m w2 zs row T L σ V) (hb : Below V.heap.size V V') : IGet n m w2 zs row T L σ V' :=
  ⟨h.b.trans (hb.mono h.b.size), fun e => by obtain ⟨g, q1, q2, q3⟩ := h.blk e; exact ⟨g, q1, q2, (Mod.ofBelow hb).keep q3 (by simp)⟩⟩
theorem IGet.made (h : IGet n m w2 zs row T L σ V) (hnm : n ≠ m) (hm : L m = false) : IGet n m w2 zs row T (upd L n) (updv σ n (.pointer (some ⟨V.heap.size, 0, none⟩))) (V.alloc (.cells zs T)) := by
  refine ⟨h.b.alloc h.b.size _, fun _ => ⟨V.heap.size, by unfold updv; rw [if_pos rfl], h.b.size, ?_⟩⟩
  have e2 : upd L n m = false := by unfold upd; simp [Ne.symm hnm, hm]
  rw [e2]; exact heap_alloc_new V _
theorem IGet.stored {zl rl : List Value} (h : IGet n m w2 zl.toArray rl.toArray T L σ V) (hnm : n ≠ m) (hn : L n = true) (hm : L m = false) (hl : rl.length = zl.length) : ∃ g, σ n = .pointer (some ⟨g, 0, none⟩) ∧ V.there g 0 rl.length ∧ ∀ v, IGet n m w2 zl.toArray rl.toArray T (upd L m) (updv σ m v) (V.setCells g 0 rl) := by
  obtain ⟨g, q1, q2, q3⟩ := h.blk hn
  rw [hm] at q3
  simp only [Bool.false_eq_true, if_false] at q3
  have hst := setCells_block (w := V) rl 0 V zl q3
  rw [setL_all rl zl hl] at hst
  have hmod := mod_setCells (F := [g]) (g := g) (.inl (by simp)) rl 0 V (Mod.refl _ V)
  refine ⟨g, q1, hl ▸ blk_there q3 (Nat.le_refl _), fun v => ⟨h.b.trans (hmod.toBelow (by simpa using q2) h.b.size), fun _ => ⟨g, by unfold updv; rw [if_neg hnm]; exact q1, q2, ?_⟩⟩⟩
  have e2 : upd L m m = true := by simp [upd]
  rw [e2]; exact hst
end
theorem yr_store {P : Program} {o : Oper} {ρ : Operand → Value} {w : World} {J : Value → World → Prop} (ty : TypeId) (x y : Operand) (ho : o.op = .store ty x y) (b f : Nat) (vs : List Value) (hx : ρ x = .pointer (some ⟨b, f, none⟩)) (hy : ρ y = .agg vs.toArray) (ht : w.there b f vs.length)
    (hi : (P.info? ty).map (·.size) = some vs.length) (h1 : ∀ u ∈ vs, u.oneCell' = true) (h : J undef (w.setCells b f vs)) : YieldsR P o ρ w J := by
  unfold YieldsR execOp
  simp only [ho, hx, hy, Instr.storeAt, Instr.sureAddr, Sem.run_bind, Sem.run_pure, Result.andThen_ok, run_storeVar_mid w b f ty vs.toArray (by simpa using ht) (by simpa using hi) (all_oneCell_toArray h1)]
  simpa using h

theorem IGet.yr_stored {P : Program} {o : Oper} {ρ : Operand → Value} {J : Value → World → Prop} {n m : Nat} {w2 V : World} {zl rl : List Value} {T : TypeId} {L : Nat → Bool} {σ : Nat → Value}
    (h : IGet n m w2 zl.toArray rl.toArray T L σ V) (hnm : n ≠ m) (hn : L n = true) (hm : L m = false) (hl : rl.length = zl.length) (ty : TypeId) (x y : Operand) (ho : o.op = .store ty x y) (hx : ρ x = σ n) (hy : ρ y = .agg rl.toArray)
    (hi : (P.info? ty).map (·.size) = some rl.length) (h1 : ∀ u ∈ rl, u.oneCell' = true) (hJ : ∀ V', IGet n m w2 zl.toArray rl.toArray T (upd L m) (updv σ m undef) V' → J undef V') : YieldsR P o ρ V J := by
  obtain ⟨g, hr, hth, hst⟩ := h.stored hnm hn hm hl
  exact yr_store ty x y ho g 0 rl (hx.trans hr) hy hth hi h1 (hJ _ (hst _))

section
variable {w : World} {p : Nat} {sl : Sl} {L : List Rw} {F : List Nat}

end
end Go.Proofs.YtehjfmjibiafdaaGreat

/- The slots of the reference's zoo: All, Is, Free, Take. (printed by mk_zs.py out of XSlot2, XSlot4, XSlot5) -/
namespace Go.Proofs.YtehjfmjibiafdaaGreat
open Go.RowKit

attribute [local go_sem] AllFrom.cons_eq AllFrom.nil_eq putF_nil putF_cons wantedL_none wantedL_some OpGoalT OpGoalS OpGoalP OpGoalV YieldsR preF_nil preF_cons

variable {vL vB : Value}

/-- The reference's slots l lie at block q; F: the blocks that they take. -/
def RepZS (vL vB : Value) (w : World) (q : Nat) (l : Sl) (F : List Nat) : Prop :=
  ∃ vg vl, w.heap[q]? = some (.cells #[vg, vl, vL, vB] 47 (0, 0)) ∧ w.ownsRow 0 3 1 vg l.length (ints (gensS l)) ∧ w.ownsRow 0 4 1 vl l.length (bools (livesS l)) ∧
    F = q :: (vg.ownBlock.toList ++ vl.ownBlock.toList) ∧ F.Nodup
theorem RepZS.mod {w w' : World} {q : Nat} {l : Sl} {F G : List Nat} (h : RepZS vL vB w q l F) (hm : Mod G w w') (hd : ∀ k ∈ F, k ∉ G) : RepZS vL vB w' q l F := by
  obtain ⟨vg, vl, h1, h2, h3, rfl, h4⟩ := h
  exact ⟨vg, vl, hm.keep h1 (hd q (by simp)), row_mod h2 hm (fun k hk => hd k (by simp [hk])), row_mod h3 hm (fun k hk => hd k (by simp [hk])), rfl, h4⟩
theorem RepZS.lt {w : World} {p : Nat} {l : Sl} {F : List Nat} (h : RepZS vL vB w p l F) : ∀ k ∈ F, k < w.heap.size := by
  obtain ⟨vg, vl, h1, h2, h3, rfl, h4⟩ := h
  intro k hk
  rcases List.mem_cons.1 hk with rfl | hk
  · exact blk_lt h1
  · rcases List.mem_append.1 hk with hk | hk
    · exact row_lt h2 k (by simpa using hk)
    · exact row_lt h3 k (by simpa using hk)
/-- The reference's slots, opened at slot n. -/
theorem RepZS.at_ {w : World} {p : Nat} {l : Sl} {F : List Nat} (h : RepZS vL vB w p l F) {n : Nat} (hn : n < l.length) : ∃ g0 c0 g1 c1, w.heap[p]? = some (.cells #[.slice (some ⟨g0, 0, none⟩) l.length c0, .slice (some ⟨g1, 0, none⟩) l.length c1, vL, vB] 47 (0, 0)) ∧
    g0 ∈ F ∧ g1 ∈ F ∧ g0 ≠ g1 ∧ g1 ≠ g0 ∧ p ≠ g0 ∧ p ≠ g1 ∧ g0 < w.heap.size ∧ g1 < w.heap.size ∧ w.cell? ⟨g0, n, none⟩ = some (.int .i64 l[n].1) ∧ w.cell? ⟨g1, n, none⟩ = some (.bool l[n].2) ∧ (∀ i, w.frozen? ⟨g0, i, none⟩ = false) ∧ (∀ i, w.frozen? ⟨g1, i, none⟩ = false) ∧
    (∀ g b, RepZS vL vB ((w.setCell ⟨g1, n, none⟩ (.bool b)).setCell ⟨g0, n, none⟩ (.int .i64 g)) p (l.set n (g, b)) F) ∧ (∀ b, RepZS vL vB (w.setCell ⟨g1, n, none⟩ (.bool b)) p (l.set n (l[n].1, b)) F) := by
  obtain ⟨vg, vl, hp, hg, hl, rfl, hne⟩ := h
  obtain ⟨g0, c0, cur0, rfl, -, hb0, -⟩ := row_some hg (by omega)
  obtain ⟨g1, c1, cur1, rfl, -, hb1, -⟩ := row_some hl (by omega)
  have hne' := hne
  simp [Value.ownBlock] at hne'
  obtain ⟨⟨n1, n2⟩, n3⟩ := hne'
  refine ⟨g0, c0, g1, c1, hp, by simp [Value.ownBlock], by simp [Value.ownBlock], n3, fun e => n3 e.symm, n1, n2, blk_lt hb0, blk_lt hb1, row_cell hg (gens_get l n hn), row_cell hl (lives_get l n hn), blk_free hb0, blk_free hb1, fun g b => ?_, fun b => ?_⟩
  · refine ⟨_, _, ?_, ?_, ?_, rfl, hne⟩
    · rw [blk_set_ne (by simpa using n1), blk_set_ne (by simpa using n2)]; exact hp
    · have h2 := row_set (row_mod hg ((Mod.refl [g1] w).setCell (p := ⟨g1, n, none⟩) (.inl (by simp)) (.bool b)) (by simp [Value.ownBlock, n3])) n (.int .i64 g)
      rw [List.length_set]
      rw [show ints (gensS (l.set n (g, b))) = (ints (gensS l)).set n (.int .i64 g) by simp [ints, gensS, List.map_set]]
      exact h2
    · have h2 := row_mod (row_set hl n (.bool b)) ((Mod.refl [g0] _).setCell (p := ⟨g0, n, none⟩) (.inl (by simp)) (.int .i64 g)) (by simp [Value.ownBlock]; exact fun e => n3 e.symm)
      rw [List.length_set]
      rw [show bools (livesS (l.set n (g, b))) = (bools (livesS l)).set n (.bool b) by simp [bools, livesS, List.map_set]]
      exact h2
  · refine ⟨_, _, ?_, ?_, ?_, rfl, hne⟩
    · rw [blk_set_ne (by simpa using n2)]; exact hp
    · rw [List.length_set]
      rw [show gensS (l.set n (l[n].1, b)) = gensS l by
        have e : (l.map (·.1))[n]'(by simpa using hn) = l[n].1 := by simp
        simp only [gensS, List.map_set]
        rw [← e]
        exact List.set_getElem_self _]
      exact row_mod hg ((Mod.refl [g1] w).setCell (p := ⟨g1, n, none⟩) (.inl (by simp)) (.bool b)) (by simp [Value.ownBlock, n3])
    · have h2 := row_set hl n (.bool b)
      rw [List.length_set]
      rw [show bools (livesS (l.set n (l[n].1, b))) = (bools (livesS l)).set n (.bool b) by simp [bools, livesS, List.map_set]]
      exact h2

end Go.Proofs.YtehjfmjibiafdaaGreat

/- The reference's zoo: its blocks, At, Get. -/
namespace Go.Proofs.YtehjfmjibiafdaaGreat
open Go Go.RowKit
variable {vB : Value}

attribute [local go_sem] AllFrom.cons_eq AllFrom.nil_eq putF_nil putF_cons wantedL_none wantedL_some OpGoalT OpGoalV OpGoalQ YieldsR preF_nil preF_cons

/-- The reference's zoo at block q: slots sl, rows L (vL: their slice); F: its blocks. No bonds. -/
def RepZ (vB : Value) (w : World) (q : Nat) (sl : Sl) (L : List Rw) (F : List Nat) : Prop :=
  ∃ vL FS, RepZS vL vB w q sl FS ∧ w.ownsRow 0 69 11 vL L.length (L.flatMap rwC) ∧ F = FS ++ vL.ownBlock.toList ∧ F.Nodup
theorem RepZ.mod {w w' : World} {q : Nat} {sl : Sl} {L : List Rw} {F G : List Nat} (h : RepZ vB w q sl L F) (hm : Mod G w w') (hd : ∀ k ∈ F, k ∉ G) : RepZ vB w' q sl L F := by
  obtain ⟨vL, FS, h1, h2, rfl, h3⟩ := h
  exact ⟨vL, FS, h1.mod hm (fun k hk => hd k (by simp [hk])), row_mod h2 hm (fun k hk => hd k (by simp [hk])), rfl, h3⟩
theorem RepZ.below {w w' : World} {q : Nat} {sl : Sl} {L : List Rw} {F : List Nat} (h : RepZ vB w q sl L F) (hb : Below w.heap.size w w') : RepZ vB w' q sl L F := h.mod (Mod.ofBelow hb) (by simp)
theorem RepZ.lt {w : World} {q : Nat} {sl : Sl} {L : List Rw} {F : List Nat} (h : RepZ vB w q sl L F) : ∀ k ∈ F, k < w.heap.size := by
  obtain ⟨vL, FS, h1, h2, rfl, h3⟩ := h
  intro k hk
  rcases List.mem_append.1 hk with hk | hk
  · exact h1.lt k hk
  · exact row_lt h2 k (by simpa using hk)
/-- The zoo's block, opened. -/
theorem RepZ.open_ {w : World} {q : Nat} {sl : Sl} {L : List Rw} {F : List Nat} (h : RepZ vB w q sl L F) : ∃ vg vl A cap, w.heap[q]? = some (.cells #[vg, vl, .slice A L.length cap, vB] 47 (0, 0)) ∧ w.ownsRow 0 69 11 (.slice A L.length cap) L.length (L.flatMap rwC) := by
  obtain ⟨vL, FS, ⟨vg, vl, h1, -⟩, h2, rfl, h3⟩ := h
  obtain ⟨A, cap, rfl, -, -⟩ := row_slice h2
  exact ⟨vg, vl, A, cap, h1, h2⟩
theorem RepZS.turnL {vL vL' vB : Value} {w w' : World} {q : Nat} {sl : Sl} {F G : List Nat} (h : RepZS vL vB w q sl F) (hm : Mod G w w') (hd : ∀ k ∈ F, k ∉ G) : RepZS vL' vB (w'.setCell ⟨q, 2, none⟩ vL') q sl F := by
  obtain ⟨vg, vl, h1, h2, h3, rfl, h4⟩ := h
  have hq := hm.keep h1 (hd q (by simp))
  have hM : ∀ v, Mod [q] w' (w'.setCell ⟨q, 2, none⟩ v) := fun v => (Mod.refl _ _).setCell (.inl (by simp)) v
  have hne : ∀ k ∈ vg.ownBlock.toList ++ vl.ownBlock.toList, k ≠ q := by
    rintro k hk rfl
    rw [List.nodup_cons] at h4
    exact h4.1 hk
  refine ⟨vg, vl, ?_, ?_, ?_, rfl, h4⟩
  · rw [blk_set hq 2 _]; rfl
  · exact row_mod (row_mod h2 hm (fun k hk => hd k (by simp [hk]))) (hM _) (fun k hk h => hne k (by simp [hk]) (by simpa using h))
  · exact row_mod (row_mod h3 hm (fun k hk => hd k (by simp [hk]))) (hM _) (fun k hk h => hne k (by simp [hk]) (by simpa using h))
def atI (L : List Rw) (h : Hd) : Int := match idxL L h with | some i => (i : Int) | none => -1
theorem atI_some {L : List Rw} {h : Hd} {i : Nat} (hi : idxL L h = some i) : atI L h = (i : Int) := by unfold atI; rw [hi]
theorem atI_none {L : List Rw} {h : Hd} (hi : idxL L h = none) : atI L h = -1 := by unfold atI; rw [hi]

set_option maxRecDepth 20000 in
set_option maxHeartbeats 2000000 in
theorem at_any {w : World} {q : Nat} {sl : Sl} {L : List Rw} {F : List Nat} (h : RepZ vB w q sl L F) (hl : L.length ≤ 60) (s g : Int) :
    Calls Tryz.prog 33 #[.pointer (some ⟨q, 0, none⟩), .agg #[.int .i64 s, .int .i64 g]] w (fun e w' => e = .returned (.int .i64 (atI L (s, g))) ∧ Below w.heap.size w w') := by
  obtain ⟨vg, vl, A, cap, hq, hrow⟩ := h.open_
  have c2 := blk_cell hq 2
  simp only [List.getElem?_toArray, List.getElem?_cons_zero, List.getElem?_cons_succ] at c2
  have hql := blk_lt hq
  clear h hq
  go_enter Tryz.func33, Tryz.ntmps33
  go_wp2
  go_loopw [12] (fun i wr => ∃ k : Nat, k ≤ L.length ∧ i = .int .i64 k ∧ (∀ j (h : j < L.length), j < k → ¬ L[j].1 = (s, g)) ∧ Below (w.heap.size + 1) (w.alloc (.cells #[.int .i64 s, .int .i64 g] 41)) wr) (fun i _ => L.length - (intOf i).toNat)
  case atStart => exact ⟨0, by omega, rfl, fun j h => by omega, Below.refl _ _⟩
  case round =>
    obtain ⟨k, hk, rfl, hno, hbel⟩ := hrel
    have hsz := hbel.size
    simp only [World.size_alloc] at hsz
    have hsz2 : w.heap.size < wr.heap.size := hsz
    have hb0 : Below w.heap.size w wr := ((Below.refl w.heap.size w).alloc (Nat.le_refl _) _).trans (hbel.mono (by omega))
    have d0 : wr.cell? ⟨w.heap.size, 0, none⟩ = some (.int .i64 s) := (hbel.cell (p := ⟨w.heap.size, 0, none⟩) (by simp)).trans (by simp)
    have d1 : wr.cell? ⟨w.heap.size, 1, none⟩ = some (.int .i64 g) := (hbel.cell (p := ⟨w.heap.size, 1, none⟩) (by simp)).trans (by simp)
    by_cases hlt : k < L.length
    · have hro : wr.ownsRow 0 69 11 (.slice A L.length cap) L.length (L.flatMap rwC) := row_mod hrow (Mod.ofBelow hb0) (by simp)
      obtain ⟨g0, cap0, cur0, hv, -, -, -⟩ := row_some hro (by omega)
      cases hv
      have hpc := row_piece rwC_len hro hlt 0 (rwC L[k]) (fun j u hu => by rw [Nat.zero_add]; exact hu)
      have hg0 := row_lt hro g0 rfl
      have hki : (k : Int) < (L.length : Int) := by omega
      have hyes : L[k].1 = (s, g) → atI L (s, g) = (k : Int) := by
        intro e
        refine atI_some (fi_some hlt (by simpa using e) fun j hj => ?_)
        have := hno j (by omega) hj
        simpa using this
      have hgo : ¬ L[k].1 = (s, g) → ∀ j (h : j < L.length), j < k + 1 → ¬ L[j].1 = (s, g) := by
        intro e j h1 h2
        rcases Nat.lt_or_eq_of_le (Nat.lt_succ_iff.1 h2) with h3 | rfl
        · exact hno j h1 h3
        · exact e
      clear hno
      generalize L[k] = x at *
      obtain ⟨⟨s1, g1⟩, K, a0, a1, a2, a3, a4, a5, a6, a7⟩ := x
      have HP := Lib.hid hpc; have Hyes := Lib.hid hyes; have Hgo := Lib.hid hgo; have Hb := Lib.hid hbel; have Hb0 := Lib.hid hb0; have HR := Lib.hid hrow
      have he := fun w => eqlHandle w s1 g1 s g
      clear hpc hyes hgo hbel hb0 hro hrow
      generalize hr : eqB (s1, g1) (s, g) = r at *
      have Hr := Lib.hid hr
      clear hr
      cases r with
      | true =>
        have H := Lib.hid (Hyes.out (by simpa [eqB] using Hr.out))
        go_wp2_with (refine wpList_load_flat rfl 69 (.tmp 15) rfl _ rfl [.int .i64 s1, .int .i64 g1, .int .i64 K, .int .i64 a0, .int .i64 a1, .int .i64 a2, .int .i64 a3, .int .i64 a4, .int .i64 a5, .int .i64 a6, .int .i64 a7] _ Tryz.underlying69 rfl (by kernel_rfl) HP.out ?_)
        go_ret
        exact ⟨by rw [H.out]; rfl, Hb0.out.alloc (by omega) _⟩
      | false =>
        have H := Lib.hid (Hgo.out (by simpa [eqB] using Hr.out))
        go_wp2_with (refine wpList_load_flat rfl 69 (.tmp 15) rfl _ rfl [.int .i64 s1, .int .i64 g1, .int .i64 K, .int .i64 a0, .int .i64 a1, .int .i64 a2, .int .i64 a3, .int .i64 a4, .int .i64 a5, .int .i64 a6, .int .i64 a7] _ Tryz.underlying69 rfl (by kernel_rfl) HP.out ?_)
        go_roundw
        case rel => exact ⟨k + 1, by omega, by go_num, H.out, Hb.out.alloc (by omega) _⟩
        case measure => simp [intOf]; omega
    · have hf : atI L (s, g) = -1 := atI_none (fi_none fun j hj => by have := hno j hj (by omega); simpa using this)
      have H := Lib.hid hf
      clear hf hno hrow
      go_wp2
      go_ret
      exact ⟨by rw [H.out]; rfl, hb0⟩
end Go.Proofs.YtehjfmjibiafdaaGreat

/- The reference's zoo: Get; rows without some. (printed by mk_z2.py) -/
namespace Go.Proofs.YtehjfmjibiafdaaGreat
open Go Go.RowKit
variable {vB : Value}

attribute [local go_sem] AllFrom.cons_eq AllFrom.nil_eq putF_nil putF_cons wantedL_none wantedL_some OpGoalT OpGoalV OpGoalQ YieldsR preF_nil preF_cons

/-- append of one row onto a row of one's own. -/
theorem app_row {w : World} {ops : Array Oper} {rest : List Oper} {o : Oper} {a : Act} {Q : Exit → Act → World → Prop} (hgd : o.guard = none) (s x : Operand)
    (ho : o.op = .call { callee := .builtin .append, args := #[s, x], argTypes := #[23, 23] }) (base : Nat) (v : Value) (l : List Rw) (y : Rw) (ad : Addr) (c : Nat)
    (hs : a.eval s = v) (hown : w.ownsRow base 69 11 v l.length (l.flatMap rwC)) (hx : a.eval x = .slice (some ad) 1 c) (hc : ∀ j u, (rwC y)[j]? = some u → w.cell? (ad.add j) = some u)
    (hlen : l.length < 1200000000000) (hbase : base ≤ w.heap.size)
    (h : ∀ v' w', w'.ownsRow base 69 11 v' (l ++ [y]).length ((l ++ [y]).flatMap rwC) → Below base w w' → wpList Tryz.prog ops Q rest (a.put o.dst v') w') : wpList Tryz.prog ops Q (o :: rest) a w := by
  refine app_rec (enc := rwC) (n := 11) (z := .agg (ints zero11).toArray) (bytes := 88) hgd s x 23 69 ho Tryz.underlying23 inf_Row rfl (by omega) (by omega) rwC_one rwC_len base v l y ad c hs hown hx hc (by omega) hbase ?_
  intro v' w' h1 h2 _
  exact h v' w' h1 ((Below.refl base w).grown h2 hbase (own_ge hown))

end Go.Proofs.YtehjfmjibiafdaaGreat

/- The reference's zoo: its rows turned; Kill. -/
namespace Go.Proofs.YtehjfmjibiafdaaGreat
open Go Go.RowKit
variable {vB : Value}

attribute [local go_sem] AllFrom.cons_eq AllFrom.nil_eq putF_nil putF_cons wantedL_none wantedL_some OpGoalT OpGoalV OpGoalQ YieldsR preF_nil preF_cons

section
variable {w w1 : World} {q : Nat} {sl : Sl} {L L' : List Rw} {F : List Nat} {v : Value}
theorem RepZ.nodup (h : RepZ vB w q sl L F) : F.Nodup := by
  obtain ⟨_, _, _, _, _, hn⟩ := h
  exact hn
/-- New rows, in blocks of their own. -/
theorem RepZ.turn (h : RepZ vB w q sl L F) (hb : Below w.heap.size w w1) (hown : w1.ownsRow w.heap.size 69 11 v L'.length (L'.flatMap rwC)) :
    ∃ FS, RepZS v vB (w1.setCell ⟨q, 2, none⟩ v) q sl FS ∧ (w1.setCell ⟨q, 2, none⟩ v).ownsRow w.heap.size 69 11 v L'.length (L'.flatMap rwC) ∧ (∀ k ∈ FS, k ∈ F ∧ k < w.heap.size) ∧ FS.Nodup ∧ Turns w F (FS ++ v.ownBlock.toList) (w1.setCell ⟨q, 2, none⟩ v) ∧ RepZ vB (w1.setCell ⟨q, 2, none⟩ v) q sl L' (FS ++ v.ownBlock.toList) := by
  have hlt := h.lt
  obtain ⟨vL, FS, h1, h2, rfl, h3⟩ := h
  have hq : q ∈ FS := by obtain ⟨_, _, _, _, _, rfl, _⟩ := h1; simp
  have hn : FS.Nodup := (List.nodup_append.1 h3).1
  have hFl : ∀ k ∈ FS, k < w.heap.size := fun k hk => hlt k (by simp [hk])
  have hvl : ∀ k, v.ownBlock = some k → w.heap.size ≤ k := fun k hk => (hown.lt k hk).1
  have hM : Mod [q] w1 (w1.setCell ⟨q, 2, none⟩ v) := (Mod.refl _ _).setCell (.inl (by simp)) v
  have hz := h1.turnL (vL' := v) (Mod.ofBelow hb) (by simp)
  have ho := row_mod hown hM (fun k hk e => by have := hvl k hk; have := hFl q hq; simp at e; omega)
  have hT : Turns w (FS ++ vL.ownBlock.toList) (FS ++ v.ownBlock.toList) (w1.setCell ⟨q, 2, none⟩ v) := by
    refine ⟨((Mod.ofBelow hb).mono (by simp)).setCell (.inl (by simp [hq])) v, fun k hk => ?_⟩
    rcases List.mem_append.1 hk with hk | hk
    · exact .inl (by simp [hk])
    · exact .inr (hvl k (by simpa using hk))
  refine ⟨FS, hz, ho, fun k hk => ⟨by simp [hk], hFl k hk⟩, hn, hT, v, FS, hz, row_base ho (by omega), rfl, ?_⟩
  rw [List.nodup_append]
  refine ⟨hn, by cases v.ownBlock <;> simp, fun a ha b hb' e => ?_⟩
  subst e
  have := hFl a ha
  have := hvl a (by simpa using hb')
  omega
end
end Go.Proofs.YtehjfmjibiafdaaGreat
