import Derived.Test.YtfbcdblgfhekpaaDiffBetweensJ25
import Derived.Test.YtfbcdblgfhekpaaDiffBetweensJ17
import Derived.Test.YtfbcdblgfhekpaaDiffBetweensJ13
import Derived.Test.YtfbcdblgfhekpaaDiffBetweensJ20
import Derived.Test.YtfbcdblgfhekpaaDiffBetweensJ10
import Derived.Test.YtfbcdblgfhekpaaDiffBetweensJ21
/- The reference's zoo: Spawn. (printed by mk_z5.py) -/
namespace Go.Proofs.Ytfbcdblgfhekpaa
open Go Go.RowKit
variable {vB : Value}

attribute [local go_sem] AllFrom.cons_eq AllFrom.nil_eq putF_nil putF_cons wantedL_none wantedL_some OpGoalT OpGoalV OpGoalQ OpGoalK YieldsR preF_nil preF_cons

theorem insR_split {L : List Rw} {x : Rw} {k : Nat} (hk : k ≤ L.length) (h1 : ∀ j (h : j < L.length), j < k → L[j].1.1 < x.1.1) (h2 : ∀ h : k < L.length, ¬ L[k].1.1 < x.1.1) : insR L x = L.take k ++ x :: L.drop k := by
  have e1 : L.takeWhile (fun y => decide (y.1.1 < x.1.1)) = L.take k := by
    conv => lhs; rw [← List.take_append_drop k L]
    rw [List.takeWhile_append_of_pos]
    · cases hd : L.drop k with
      | nil => simp
      | cons y l =>
        have hkl : k < L.length := by
          rcases Nat.lt_or_ge k L.length with h | h
          · exact h
          · rw [List.drop_eq_nil_of_le h] at hd; cases hd
        rw [List.drop_eq_getElem_cons hkl] at hd
        simp only [List.cons.injEq] at hd
        rw [List.takeWhile_cons_of_neg (by rw [← hd.1]; simpa using h2 hkl)]; simp
    · intro y hy
      obtain ⟨j, hj, e⟩ := List.mem_iff_getElem.1 hy
      rw [List.length_take] at hj
      rw [List.getElem_take] at e
      rw [← e]; simpa using h1 j (by omega) (by omega)
  have e2 : L.dropWhile (fun y => decide (y.1.1 < x.1.1)) = L.drop k := by
    have h3 := List.takeWhile_append_dropWhile (p := fun y : Rw => decide (y.1.1 < x.1.1)) (l := L)
    rw [e1] at h3
    exact List.append_cancel_left (h3.trans (List.take_append_drop k L).symm)
  unfold insR
  rw [e1, e2]

/-! Pieces of a list of rows, and append of one. -/
theorem yr_val {P : Program} {o : Oper} {ρ : Operand → Value} {w : World} {J : Value → World → Prop} (T : TypeId) (x : Operand) (lo hi : Option Operand) (ho : o.op = .slice T x lo hi none) {v : Value} (hr : (Instr.sliceAt T (ρ x) (lo.map ρ) (hi.map ρ) none).run P w = .ok v w) (h : J v w) : YieldsR P o ρ w J := by
  unfold YieldsR execOp
  simp only [ho, resolve, Sem.run_bind, Sem.run_pure, Result.andThen_ok, Option.map_none, hr]
  exact h
theorem yr_appV {P : Program} {o : Oper} {ρ : Operand → Value} {w w' : World} {J : Value → World → Prop} (s x : Operand) (T : TypeId)
    (ho : o.op = .call { callee := .builtin .append, args := #[s, x], argTypes := #[T, T] }) {v' v1 v2 : Value} (h1 : ρ s = v1) (h2 : ρ x = v2) (hr : (Builtin.append_ #[T, T] o.type #[v1, v2]).run P w = .ok v' w') (h : J v' w') : YieldsR P o ρ w J := by
  subst h1 h2
  unfold YieldsR execOp
  simp only [ho, resolve, invoke, builtin, Sem.run_bind, Sem.run_pure, Result.andThen_ok, List.map_toArray, List.map_cons, List.map_nil, hr]
  exact h
theorem slice_split {w : World} {A : Option Addr} {cap k : Nat} {L : List Rw} (hrow : w.ownsRow 0 33 11 (.slice A L.length cap) L.length (L.flatMap rwC)) (hk : k ≤ L.length) (hl : L.length ≤ 60) :
    ∃ v6 v18, (∀ W, (Instr.sliceAt 22 (.slice A L.length cap) none (some (.int .i64 (k : Int))) none).run Try.prog W = .ok v6 W) ∧ (∀ W, (Instr.sliceAt 22 (.slice A L.length cap) (some (.int .i64 (k : Int))) none none).run Try.prog W = .ok v18 W) ∧
      (∀ V, Mod [] w V → Calls Try.prog 26 #[v6] V (MadeR 33 11 rwC (L.take k) V)) ∧
      ∀ V, Mod [] w V → ∀ ty base v (l : List Rw), V.ownsRow base 33 11 v l.length (l.flatMap rwC) → l.length ≤ 61 → base ≤ V.heap.size →
        ∃ v' V', (Builtin.append_ #[22, 22] ty #[v, v18]).run Try.prog V = .ok v' V' ∧ V'.ownsRow base 33 11 v' (l ++ L.drop k).length ((l ++ L.drop k).flatMap rwC) ∧ V.grownBy V' v.ownBlock := by
  obtain ⟨i0, hi, hz0, hz1, hz2⟩ := info_parts inf_Row
  have hel : Try.prog.elem 22 = 33 := by kernel_rfl
  have hsz : (sizeOf (Try.prog.elem 22)).run Try.prog = fun W => .ok 11 W := by
    funext W
    rw [hel]
    simp [sizeOf, typeInfo, hi, hz1]
  have hund : Try.prog.underlying 22 = some (.slice (Try.prog.elem 22)) := by rw [hel]; exact Try.underlying22
  obtain ⟨A', c', e, hcl, hlies⟩ := own_lies hrow
  cases e
  have hm6 : ∀ W, (Instr.sliceAt 22 (.slice A L.length cap) none (some (.int .i64 (k : Int))) none).run Try.prog W = .ok (.slice (if cap = 0 then A else A.map (·.add (0 * 11))) (k - 0) (cap - 0)) W := by
    intro W
    rw [run_sliceAt_slice _ _ _ _ _ _ hund, run_slice_h W _ A L.length cap hund .i64 k (by omega) (by omega), hsz]
    simp only [Result.andThen, sliced, Int.toNat_natCast]
  have hm18 : ∀ W, (Instr.sliceAt 22 (.slice A L.length cap) (some (.int .i64 (k : Int))) none none).run Try.prog W = .ok (.slice (if cap = k then A else A.map (·.add (k * 11))) (L.length - k) (cap - k)) W := by
    intro W
    rw [run_sliceAt_slice _ _ _ _ _ _ hund, run_slice_l W _ A L.length cap hund .i64 k (by omega) (by omega), hsz]
    simp only [Result.andThen, sliced, Int.toNat_natCast]
  have htl : (L.take k).length = k := by rw [List.length_take]; omega
  have hdl : (L.drop k).length = L.length - k := List.length_drop
  refine ⟨_, _, hm6, hm18, fun V hV => ?_, fun V hV ty base v l hown hl61 hbase => ?_⟩
  · have hrow2 := row_mod hrow hV (by simp)
    have hA : (if cap = 0 then A else A.map (·.add (0 * 11))) = A := by
      split
      · rfl
      · rcases hrow with ⟨-, ⟨h1, -⟩ | ⟨g, cap2, cur, h1, -⟩⟩
        · simp only [Value.slice.injEq] at h1; rw [h1.1]; rfl
        · simp only [Value.slice.injEq] at h1; rw [h1.1]; rfl
    rw [hA]
    have hh := copyR_any A (cap - 0) (L.take k) V (by rw [htl]; omega) (fun j u hu => by
      obtain ⟨A2, c2, e, -, hl2⟩ := own_lies hrow2
      cases e
      refine hl2 j u ?_
      have hj := (List.getElem?_eq_some_iff.1 hu).1
      conv => lhs; rw [← List.take_append_drop k L]
      rw [List.flatMap_append, List.getElem?_append_left hj]
      exact hu) (fun e => ?_) (fun e => ?_)
    · rw [htl] at hh; exact hh
    · subst e
      rcases hrow with ⟨-, ⟨h1, h2⟩ | ⟨g, cap2, cur, h1, -⟩⟩
      · simp only [Value.slice.injEq, true_and] at h1
        rw [List.eq_nil_of_length_eq_zero h1.1]; simp
      · cases h1
    · subst e
      rcases hrow with ⟨-, ⟨h1, h2⟩ | ⟨g, cap2, cur, h1, -⟩⟩
      · simp only [Value.slice.injEq, true_and] at h1
        omega
      · cases h1
  · have hrow2 := row_mod hrow hV (by simp)
    rcases hrow2 with ⟨hx, ⟨h1, h2⟩ | ⟨g, cap2, cur, h1, -⟩⟩
    · simp only [Value.slice.injEq] at h1
      obtain ⟨rfl, h3, h4⟩ := h1
      have hL : L = [] := List.eq_nil_of_length_eq_zero h3
      subst hL
      obtain rfl : k = 0 := by simpa using hk
      refine ⟨v, V, ?_, by simpa using hown, ⟨rfl, rfl, rfl, Nat.le_refl _, fun _ _ _ => rfl⟩⟩
      have := run_append_owned_none (P := Try.prog) V base 22 ty 33 i0 11 Try.underlying22 hi v l.length _ hown
      subst h4
      exact this
    · simp only [Value.slice.injEq] at h1
      obtain ⟨rfl, -, rfl⟩ := h1
      have hrow2 := row_mod hrow hV (by simp)
      obtain ⟨ad, had, hc⟩ : ∃ ad, (if cap = k then some (⟨g, 0, none⟩ : Addr) else (some (⟨g, 0, none⟩ : Addr)).map (·.add (k * 11))) = some ad ∧ ∀ j u, ((L.drop k).flatMap rwC)[j]? = some u → V.cell? (ad.add j) = some u := by
        by_cases e : cap = k
        · refine ⟨⟨g, 0, none⟩, by rw [if_pos e], fun j u hu => ?_⟩
          rw [List.drop_eq_nil_of_le (by omega)] at hu
          simp at hu
        · refine ⟨(⟨g, 0, none⟩ : Addr).add (k * 11), by rw [if_neg e]; rfl, fun j u hu => ?_⟩
          have h5 := row_cell hrow2 (i := k * 11 + j) (u := u) (by
            conv => lhs; rw [← List.take_append_drop k L]
            rw [List.flatMap_append, List.getElem?_append_right (by rw [flatV_length rwC_len, htl]; omega), flatV_length rwC_len, htl, show k * 11 + j - k * 11 = j by omega]
            exact hu)
          rw [show ((⟨g, 0, none⟩ : Addr).add (k * 11)).add j = ⟨g, k * 11 + j, none⟩ by rw [Addr.add_mid, Addr.add_mid, Nat.zero_add]]
          exact h5
      rw [had]
      obtain ⟨v', V', hr, h2, h3, -, -⟩ := run_append_own_at (P := Try.prog) V base 22 ty 33 i0 _ 11 88 Try.underlying22 hi hz0 hz1 hz2 rfl (by omega) v l.length _ hown ad (L.length - k) (cap - k) ((L.drop k).flatMap rwC) (by rw [flatV_length rwC_len, hdl]) hc (flat_one rwC_one _) (by unfold maxLen; omega) (by omega) hbase
      refine ⟨v', V', hr, ?_, h3⟩
      rw [List.length_append, List.flatMap_append, hdl]
      exact h2

/-- What the region that lays the new rows keeps. -/
structure ISp (w5 : World) (l1 l2 : List Rw) (x : Rw) (L : Nat → Bool) (σ : Nat → Value) (V : World) : Prop where
  b : Below w5.heap.size w5 V
  c : L 7 = true → L 12 = false → V.ownsRow w5.heap.size 33 11 (σ 7) l1.length (l1.flatMap rwC)
  o : L 11 = true → L 12 = false → oneR w5.heap.size (rwC x).toArray 33 (σ 11) V
  a : L 12 = true → L 19 = false → V.ownsRow w5.heap.size 33 11 (σ 12) (l1 ++ [x]).length ((l1 ++ [x]).flatMap rwC)
  e : L 19 = true → V.ownsRow w5.heap.size 33 11 (σ 19) (l1 ++ [x] ++ l2).length ((l1 ++ [x] ++ l2).flatMap rwC)
section
variable {w5 V V' : World} {l1 l2 : List Rw} {x : Rw} {L : Nat → Bool} {σ : Nat → Value}
theorem ISp.start (h : Below w5.heap.size w5 V) : ISp w5 l1 l2 x (fun _ => false) σ V := ⟨h, fun e => (by cases e), fun e => (by cases e), fun e => (by cases e), fun e => (by cases e)⟩
theorem ISp.read (h : ISp w5 l1 l2 x L σ V) {i : Nat} (h1 : 7 ≠ i ∧ 11 ≠ i ∧ 12 ≠ i ∧ 19 ≠ i) (v : Value) : ISp w5 l1 l2 x (upd L i) (updv σ i v) V := by
  obtain ⟨n1, n2, n3, n4⟩ := h1
  have eL : ∀ j, j ≠ i → upd L i j = L j := fun j hj => by unfold upd; simp [hj]
  have es : ∀ j, j ≠ i → updv σ i v j = σ j := fun j hj => by unfold updv; rw [if_neg hj]
  refine ⟨h.b, ?_, ?_, ?_, ?_⟩
  · rw [eL 7 n1, eL 12 n3, es 7 n1]; exact h.c
  · rw [eL 11 n2, eL 12 n3, es 11 n2]; exact h.o
  · rw [eL 12 n3, eL 19 n4, es 12 n3]; exact h.a
  · rw [eL 19 n4, es 19 n4]; exact h.e
theorem ISp.copied (h : ISp w5 l1 l2 x L σ V) (h19 : L 19 = false) (hb : Below V.heap.size V V') {v : Value} (hv : V'.ownsRow V.heap.size 33 11 v l1.length (l1.flatMap rwC)) (h12 : L 12 = false) : ISp w5 l1 l2 x (upd L 7) (updv σ 7 v) V' := by
  have eL : ∀ j, j ≠ 7 → upd L 7 j = L j := fun j hj => by unfold upd; simp [hj]
  have es : ∀ j, j ≠ 7 → updv σ 7 v j = σ j := fun j hj => by unfold updv; rw [if_neg hj]
  have hs := h.b.size
  refine ⟨h.b.trans (hb.mono hs), fun _ _ => ?_, ?_, ?_, ?_⟩
  · show V'.ownsRow _ _ _ (updv σ 7 v 7) _ _
    rw [show updv σ 7 v 7 = v from rfl]
    exact row_base hv (fun k hk => by have := (hv.lt k hk).1; omega)
  · rw [eL 11 (by decide), eL 12 (by decide), es 11 (by decide)]; exact fun h1 h2 => oneR_mod (h.o h1 h2) (Mod.ofBelow hb) (by simp)
  · rw [eL 12 (by decide), h12]; intro e; cases e
  · rw [eL 19 (by decide), h19]; intro e; cases e
theorem ISp.oned (h : ISp w5 l1 l2 x L σ V) (h19 : L 19 = false) (h12 : L 12 = false) : ISp w5 l1 l2 x (upd L 11) (updv σ 11 (.slice (some ⟨V.heap.size, 0, none⟩) 1 1)) (V.alloc (.cells (rwC x).toArray 33)) := by
  have eL : ∀ j, j ≠ 11 → upd L 11 j = L j := fun j hj => by unfold upd; simp [hj]
  have es : ∀ v j, j ≠ 11 → updv σ 11 v j = σ j := fun v j hj => by unfold updv; rw [if_neg hj]
  have hs := h.b.size
  refine ⟨h.b.alloc hs _, ?_, fun _ _ => ?_, ?_, ?_⟩
  · rw [eL 7 (by decide), eL 12 (by decide), es _ 7 (by decide)]; exact fun h1 h2 => row_mod (h.c h1 h2) ((Mod.refl [] V).alloc _) (by simp)
  · exact oneR_new hs
  · rw [eL 12 (by decide), h12]; intro e; cases e
  · rw [eL 19 (by decide), h19]; intro e; cases e
theorem ISp.apped (h : ISp w5 l1 l2 x L σ V) (h19 : L 19 = false) (h7 : L 7 = true) (h12 : L 12 = false) {v : Value} (hg : V.grownBy V' (σ 7).ownBlock) (hv : V'.ownsRow w5.heap.size 33 11 v (l1 ++ [x]).length ((l1 ++ [x]).flatMap rwC)) : ISp w5 l1 l2 x (upd L 12) (updv σ 12 v) V' := by
  have eL : ∀ j, j ≠ 12 → upd L 12 j = L j := fun j hj => by unfold upd; simp [hj]
  refine ⟨h.b.trans ((Below.refl w5.heap.size V).grown hg h.b.size (own_ge (h.c h7 h12))), ?_, ?_, fun _ _ => hv, ?_⟩
  · intro _ e; simp [upd] at e
  · intro _ e; simp [upd] at e
  · rw [eL 19 (by decide), h19]; intro e; cases e
theorem ISp.apped2 (h : ISp w5 l1 l2 x L σ V) (h19 : L 19 = false) (h12 : L 12 = true) {v : Value} (hg : V.grownBy V' (σ 12).ownBlock) (hv : V'.ownsRow w5.heap.size 33 11 v (l1 ++ [x] ++ l2).length ((l1 ++ [x] ++ l2).flatMap rwC)) : ISp w5 l1 l2 x (upd L 19) (updv σ 19 v) V' := by
  have eL : ∀ j, j ≠ 19 → upd L 19 j = L j := fun j hj => by unfold upd; simp [hj]
  refine ⟨h.b.trans ((Below.refl w5.heap.size V).grown hg h.b.size (own_ge (h.a h12 h19))), ?_, ?_, ?_, fun _ => hv⟩
  · rw [eL 12 (by decide), h12]; intro _ e; cases e
  · rw [eL 12 (by decide), h12]; intro _ e; cases e
  · intro _ e; simp [upd] at e
end

section
variable {w : World} {q : Nat} {sl : Sl} {L : List Rw} {F : List Nat}

end
end Go.Proofs.Ytfbcdblgfhekpaa

/- l[1:] of a row of rows; R.None. -/
namespace Go.Proofs.Ytfbcdblgfhekpaa
open Go Go.RowKit Go.Maps
attribute [local go_sem] AllFrom.cons_eq AllFrom.nil_eq putF_nil putF_cons wantedL_none wantedL_some OpGoalT OpGoalV OpGoalQ OpGoalA OpGoalK YieldsR preF_nil preF_cons

theorem rows_tail {w : World} {B : Nat} {A : Option Addr} {c : Nat} {x : Rw} {l : List Rw} (hA : Lies w B A ((x :: l).flatMap rwC)) (hc : l.length + 1 ≤ c) :
    ∃ A', (∀ W, (Instr.sliceAt 22 (.slice A (l.length + 1) c) (some (.int .i64 1)) none none).run Try.prog W = .ok (.slice A' l.length (c - 1)) W) ∧ Lies w B A' (l.flatMap rwC) := by
  obtain ⟨i0, hi, hz0, hz1, hz2⟩ := info_parts inf_Row
  have hel : Try.prog.elem 22 = 33 := by kernel_rfl
  have hsz : (sizeOf (Try.prog.elem 22)).run Try.prog = fun W => .ok 11 W := by
    funext W
    rw [hel]
    simp [sizeOf, typeInfo, hi, hz1]
  have hund : Try.prog.underlying 22 = some (.slice (Try.prog.elem 22)) := by rw [hel]; exact Try.underlying22
  have hm : ∀ W, (Instr.sliceAt 22 (.slice A (l.length + 1) c) (some (.int .i64 1)) none none).run Try.prog W = .ok (.slice (if c = 1 then A else A.map (·.add (1 * 11))) (l.length + 1 - 1) (c - 1)) W := by
    intro W
    rw [run_sliceAt_slice _ _ _ _ _ _ hund, run_slice_l W _ A (l.length + 1) c hund .i64 1 (by omega) (by omega), hsz]
    simp only [Result.andThen, sliced]
    rfl
  refine ⟨_, hm, ?_⟩
  by_cases e : c = 1
  · have : l = [] := by cases l with
      | nil => rfl
      | cons y t => simp at hc; omega
    subst this
    exact Lies.nil _ _ _
  · rw [if_neg e]
    intro k u hu
    have h11 : (rwC x).length = 11 := rwC_len x
    obtain ⟨a, rfl, hb, hcell⟩ := hA (11 + k) u (by rw [List.flatMap_cons, List.getElem?_append_right (by omega), h11, Nat.add_sub_cancel_left]; exact hu)
    refine ⟨_, rfl, ?_, ?_⟩
    · rw [add_block]; exact hb
    · rw [Addr.add_add]; exact hcell

theorem rNone_any (w : World) : Calls Try.prog 20 #[] w fun e w' => e = .returned (beV noneB) ∧ Below w.heap.size w w' := by
  have HB := Lib.hid (show Below w.heap.size w (w.alloc (.cells #[.int .i64 (-1), .int .i64 0, .int .i64 0, .int .i64 0, .int .i64 0, .int .i64 0, .int .i64 0, .int .i64 0, .int .i64 0] 31)) from (Below.refl _ _).alloc (Nat.le_refl _) _)
  go_enter Try.func20, Try.ntmps20
  go_wp2
  refine bodyPost_ret (v := .agg #[.int .i64 (-1), .int .i64 0, .int .i64 0, .int .i64 0, .int .i64 0, .int .i64 0, .int .i64 0, .int .i64 0, .int .i64 0]) (by unfold results; try go_simp) rfl ?_
  exact ⟨rfl, HB.out⟩
end Go.Proofs.Ytfbcdblgfhekpaa

/- A region that stores two pieces (operations m1, m2) into one block cb that was there ahead of it. -/
namespace Go.Proofs.Ytfbcdblgfhekpaa
open Go Go.RowKit

/-- f: the block's cells, by which of the two stores has run. -/
structure ISt (m1 m2 : Nat) (w : World) (cb : Nat) (T : TypeId) (f : Bool → Bool → List Value) (L : Nat → Bool) (V : World) : Prop where
  b : Below w.heap.size w V
  ge : w.heap.size ≤ cb
  blk : V.heap[cb]? = some (.cells (f (L m1) (L m2)).toArray T (0, 0))
section
variable {m1 m2 : Nat} {w V V' : World} {cb : Nat} {T : TypeId} {f : Bool → Bool → List Value} {L : Nat → Bool}
theorem ISt.read (h : ISt m1 m2 w cb T f L V) {i : Nat} (h1 : m1 ≠ i) (h2 : m2 ≠ i) : ISt m1 m2 w cb T f (upd L i) V := by
  have e1 : upd L i m1 = L m1 := by unfold upd; simp [h1]
  have e2 : upd L i m2 = L m2 := by unfold upd; simp [h2]
  exact ⟨h.b, h.ge, by rw [e1, e2]; exact h.blk⟩
theorem ISt.step (h : ISt m1 m2 w cb T f L V) (hb : Below V.heap.size V V') : ISt m1 m2 w cb T f L V' :=
  ⟨h.b.trans (hb.mono h.b.size), h.ge, (hb.block _ (blk_lt h.blk)).trans h.blk⟩
theorem there_at {b : Nat} {xs : List Value} {t : TypeId} (h : V.heap[b]? = some (.cells xs.toArray t (0, 0))) {o n : Nat} (hn : o + n ≤ xs.length) : V.there b o n := fun j hj => by
  refine ⟨?_, blk_free h _⟩
  rw [blk_cell h]
  have : o + j < xs.length := by omega
  simp [this]
theorem ISt.yr1 {P : Program} {o : Oper} {ρ : Operand → Value} {J : Value → World → Prop} (h : ISt m1 m2 w cb T f L V) (hm : L m1 = false) (h12 : m1 ≠ m2) (off : Nat) (rl : List Value) (ty : TypeId) (x y : Operand) (ho : o.op = .store ty x y)
    (hx : ρ x = .pointer (some ⟨cb, off, none⟩)) (hy : ρ y = .agg rl.toArray) (hn : ∀ b, off + rl.length ≤ (f false b).length) (hi : (P.info? ty).map (·.size) = some rl.length) (h1 : ∀ u ∈ rl, u.oneCell' = true)
    (hf : ∀ b, setL (f false b) off rl = f true b) (hJ : ∀ V', ISt m1 m2 w cb T f (upd L m1) V' → J undef V') : YieldsR P o ρ V J := by
  have q3 := h.blk
  rw [hm] at q3
  have hst := setCells_block (w := V) rl off V _ q3
  rw [hf] at hst
  have hmod := mod_setCells (F := [cb]) (g := cb) (.inl (by simp)) rl off V (Mod.refl _ V)
  refine yr_store ty x y ho cb off rl hx hy (there_at q3 (hn _)) hi h1 (hJ _ ⟨h.b.trans (hmod.toBelow (by simpa using h.ge) h.b.size), h.ge, ?_⟩)
  have e1 : upd L m1 m1 = true := by simp [upd]
  have e2 : upd L m1 m2 = L m2 := by unfold upd; simp [Ne.symm h12]
  rw [e1, e2]; exact hst
theorem ISt.yr2 {P : Program} {o : Oper} {ρ : Operand → Value} {J : Value → World → Prop} (h : ISt m1 m2 w cb T f L V) (hm : L m2 = false) (h12 : m1 ≠ m2) (off : Nat) (rl : List Value) (ty : TypeId) (x y : Operand) (ho : o.op = .store ty x y)
    (hx : ρ x = .pointer (some ⟨cb, off, none⟩)) (hy : ρ y = .agg rl.toArray) (hn : ∀ b, off + rl.length ≤ (f b false).length) (hi : (P.info? ty).map (·.size) = some rl.length) (h1 : ∀ u ∈ rl, u.oneCell' = true)
    (hf : ∀ b, setL (f b false) off rl = f b true) (hJ : ∀ V', ISt m1 m2 w cb T f (upd L m2) V' → J undef V') : YieldsR P o ρ V J := by
  have q3 := h.blk
  rw [hm] at q3
  have hst := setCells_block (w := V) rl off V _ q3
  rw [hf] at hst
  have hmod := mod_setCells (F := [cb]) (g := cb) (.inl (by simp)) rl off V (Mod.refl _ V)
  refine yr_store ty x y ho cb off rl hx hy (there_at q3 (hn _)) hi h1 (hJ _ ⟨h.b.trans (hmod.toBelow (by simpa using h.ge) h.b.size), h.ge, ?_⟩)
  have e1 : upd L m2 m2 = true := by simp [upd]
  have e2 : upd L m2 m1 = L m1 := by unfold upd; simp [h12]
  rw [e1, e2]; exact hst
end
theorem setL_at (c : Cg) (h : Hd) : setL (cgC c) 0 (handleC h) = cgC (h, c.2.1, c.2.2) := by
  obtain ⟨⟨a, b⟩, o, n⟩ := c
  obtain ⟨s, g⟩ := h
  rfl
end Go.Proofs.Ytfbcdblgfhekpaa

/- Families: Adopt. (printed by mk_fam5.py) -/
namespace Go.Proofs.Ytfbcdblgfhekpaa
open Go Go.RowKit Go.Maps Go.Shelf
attribute [local go_sem] AllFrom.cons_eq AllFrom.nil_eq putF_nil putF_cons wantedL_none wantedL_some OpGoalT OpGoalV OpGoalQ OpGoalA OpGoalK YieldsR preF_nil preF_cons
attribute [local go_sem] Oper.semAt_some

theorem Mod.thenBelow {F : List Nat} {a b c : World} (h : Mod F a b) (k : Below a.heap.size b c) : Mod F a c :=
  ⟨k.os.trans h.os, k.tape.trans h.tape, k.output.trans h.output, Nat.le_trans h.size k.size, fun i hi hF => (k.block i hi).trans (h.block i hi hF)⟩
open Classical in
noncomputable def adoE (B : List Bd) (c p : Hd) : Int := if Up B p c then 8 else 0
open Classical in
noncomputable def adoB (B : List Bd) (c p : Hd) : List Bd := if Up B p c then B else insB B (c, p)
section
variable {w : World} {f : Nat} {B : List Bd} {F : List Nat}
end
end Go.Proofs.Ytfbcdblgfhekpaa

/- The reference's bonds: Parent, Children, without, Gone, Loosen. (printed by mk_rf1.py) -/
namespace Go.Proofs.Ytfbcdblgfhekpaa
open Go Go.RowKit
attribute [local go_sem] AllFrom.cons_eq AllFrom.nil_eq putF_nil putF_cons wantedL_none wantedL_some OpGoalT OpGoalV OpGoalQ OpGoalA OpGoalK YieldsR preF_nil preF_cons

section
variable {vg vl vr : Value}
theorem parB_succ {B : List Bd} {h : Hd} {n : Nat} (hn : n < B.length) (hno : parB (B.take n) h = none) : parB (B.take (n + 1)) h = if B[n].1 = h then some B[n].2 else none := by
  unfold parB at *
  rw [Option.map_eq_none_iff] at hno
  rw [take_succ_get B n hn, List.find?_append, hno]
  by_cases e : B[n].1 = h <;> simp [e]
theorem parB_take {B : List Bd} {h p : Hd} {n : Nat} (e : parB (B.take n) h = some p) : parB B h = some p := by
  unfold parB at *
  conv => lhs; rw [← List.take_append_drop n B]
  rw [List.find?_append]
  cases hf : (B.take n).find? (fun b => decide (b.1 = h)) with
  | none => rw [hf] at e; cases e
  | some b => rw [hf] at e; simpa using e
theorem kids_succ (B : List Bd) (h : Hd) (n : Nat) (hn : n < B.length) : kidsB (B.take (n + 1)) h = kidsB (B.take n) h ++ (if eqB B[n].2 h = true then [B[n].1] else []) := by
  unfold kidsB eqB
  rw [take_succ_get B n hn, List.filter_append, List.map_append, List.filter_cons]
  by_cases e : B[n].2 = h <;> simp [e]
theorem outB_succ (B : List Bd) (h : Hd) (n : Nat) (hn : n < B.length) : outB (B.take (n + 1)) h = outB (B.take n) h ++ (if eqB B[n].1 h = true then [] else [B[n]]) := by
  unfold outB eqB
  rw [take_succ_get B n hn, List.filter_append, List.filter_cons]
  by_cases e : B[n].1 = h <;> simp [e]
theorem goneB_succ (B : List Bd) (h : Hd) (n : Nat) (hn : n < B.length) : goneB (B.take (n + 1)) h = goneB (B.take n) h ++ (if ofH h B[n] = true then [] else [B[n]]) := by
  unfold goneB ofH eqB
  rw [take_succ_get B n hn, List.filter_append, List.filter_cons]
  by_cases e1 : B[n].1 = h <;> by_cases e2 : B[n].2 = h <;> simp [e1, e2]

end
end Go.Proofs.Ytfbcdblgfhekpaa

/- The reference's bonds: Parent, Children, Gone, Loosen. (printed by mk_rf2.py) -/
namespace Go.Proofs.Ytfbcdblgfhekpaa
open Go Go.RowKit
attribute [local go_sem] AllFrom.cons_eq AllFrom.nil_eq putF_nil putF_cons wantedL_none wantedL_some OpGoalT OpGoalV OpGoalQ OpGoalA OpGoalK YieldsR preF_nil preF_cons
section
variable {vg vl vr : Value} {w : World} {q : Nat} {B : List Bd} {F : List Nat}
end
end Go.Proofs.Ytfbcdblgfhekpaa
