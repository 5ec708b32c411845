import Derived.Test.YtehjfmjibiafdaaGreatZooTellsJ41
/- The reference's bonds: Adopt. (printed by mk_rf4.py) -/
namespace Go.Proofs.YtehjfmjibiafdaaGreat
open Go Go.RowKit
attribute [local go_sem] AllFrom.cons_eq AllFrom.nil_eq putF_nil putF_cons wantedL_none wantedL_some OpGoalT OpGoalV OpGoalQ OpGoalA OpGoalK YieldsR preF_nil preF_cons

set_option maxRecDepth 100000 in
set_option maxHeartbeats 1000000 in
theorem copyB_any (A : Option Addr) (c : Nat) (l : List Bd) (w : World) (hl : l.length * 32 ≤ 140737488351232) (hA : Lies w w.heap.size A (l.flatMap bdC)) (hn : A = none → l = []) (hc : A = none → c = 0) :
    Calls Tryz.prog 41 #[.slice A l.length c] w (MadeR 84 4 bdC l w) := by
  have Hl := Lib.hid hl
  have hl2 : l.length ≤ 9223372036854775807 := by omega
  clear hl
  cases A with
  | none =>
    obtain rfl := hn rfl
    obtain rfl := hc rfl
    clear hn hc hA Hl hl2
    have hnil := fun w => run_eql_slice_nil w 24 84 none 0 0 Tryz.underlying24
    simp only [Option.isNone_none] at hnil
    go_enter Tryz.func41, Tryz.ntmps41
    go_wp2
    go_ret
    exact ⟨_, rfl, ⟨rfl, .inl ⟨rfl, rfl⟩⟩, Below.refl _ _⟩
  | some a =>
    have hnews : ∀ j u, (l.flatMap bdC)[j]? = some u → w.cell? (a.add j) = some u := fun j u hu => by
      obtain ⟨a', e, _, h⟩ := hA j u hu
      cases e; exact h
    have hb : ∀ j u, (l.flatMap bdC)[j]? = some u → a.block < w.heap.size := fun j u hu => by
      obtain ⟨a', e, h, _⟩ := hA j u hu
      cases e; exact h
    have hnew2 : ∀ o, ∀ j u, (l.flatMap bdC)[j]? = some u → (w.alloc o).cell? (a.add j) = some u := fun o j u hu =>
      (((Below.refl w.heap.size w).alloc (Nat.le_refl _) o).cell (p := a.add j) (by rw [add_block]; exact hb j u hu)).trans (hnews j u hu)
    have HN := Lib.hid hnew2; have HN0 := Lib.hid hnews
    have H0 := Lib.hid (flatV_length bdC_len l)
    have HO := Lib.hid (flat_one bdC_one l)
    obtain ⟨i0, hi, hz0, hz1, hz2⟩ := info_parts inf_Bond
    have HI := Lib.hid hi; have HZ0 := Lib.hid hz0; have HZ1 := Lib.hid hz1; have HZ2 := Lib.hid hz2
    clear hA hn hc hnews hb hnew2 hi hz0 hz1 hz2
    have hnil := fun w => run_eql_slice_nil w 24 84 (some a) l.length c Tryz.underlying24
    simp only [Option.isNone_some] at hnil
    go_enter Tryz.func41, Tryz.ntmps41
    go_wp2_with (at_builtin; refine wpList_append_own_at _ rfl _ _ 24 rfl w.heap.size 84 i0 _ 4 32 Tryz.underlying24 HI.out HZ0.out HZ1.out HZ2.out rfl (by omega) (.slice none 0 0) 0 [] rfl ⟨by simp, .inl ⟨rfl, rfl⟩⟩ a l.length c (l.flatMap bdC) rfl (H0.out) HN0.out HO.out (by unfold maxLen; omega) (by have := Hl.out; omega) (Nat.le_refl _) ?_; intro v' w' hown hg _ _)
    go_ret
    refine ⟨_, rfl, ?_, (Below.refl w.heap.size w).grown hg (Nat.le_refl _) (fun k hk => by cases hk)⟩
    simpa using hown

theorem yr_appVB {P : Program} {o : Oper} {ρ : Operand → Value} {w w' : World} {J : Value → World → Prop} (s x : Operand) (T : TypeId)
    (ho : o.op = .call { callee := .builtin .append, args := #[s, x], argTypes := #[T, T] }) {v' v1 v2 : Value} (h1 : ρ s = v1) (h2 : ρ x = v2) (hr : (Builtin.append_ #[T, T] o.type #[v1, v2]).run P w = .ok v' w') (h : J v' w') : YieldsR P o ρ w J := by
  subst h1 h2
  unfold YieldsR execOp
  simp only [ho, resolve, invoke, builtin, Sem.run_bind, Sem.run_pure, Result.andThen_ok, List.map_toArray, List.map_cons, List.map_nil, hr]
  exact h

theorem slice_splitB {w : World} {A : Option Addr} {cap k : Nat} {L : List Bd} (hrow : w.ownsRow 0 84 4 (.slice A L.length cap) L.length (L.flatMap bdC)) (hk : k ≤ L.length) (hl : L.length ≤ 1200000000000) :
    ∃ v6 v18, (∀ W, (Instr.sliceAt 24 (.slice A L.length cap) none (some (.int .i64 (k : Int))) none).run Tryz.prog W = .ok v6 W) ∧ (∀ W, (Instr.sliceAt 24 (.slice A L.length cap) (some (.int .i64 (k : Int))) none none).run Tryz.prog W = .ok v18 W) ∧
      (∀ V, Mod [] w V → Calls Tryz.prog 41 #[v6] V (MadeR 84 4 bdC (L.take k) V)) ∧
      ∀ V, Mod [] w V → ∀ ty base v (l : List Bd), V.ownsRow base 84 4 v l.length (l.flatMap bdC) → l.length ≤ 1200000000001 → base ≤ V.heap.size →
        ∃ v' V', (Builtin.append_ #[24, 24] ty #[v, v18]).run Tryz.prog V = .ok v' V' ∧ V'.ownsRow base 84 4 v' (l ++ L.drop k).length ((l ++ L.drop k).flatMap bdC) ∧ V.grownBy V' v.ownBlock := by
  obtain ⟨i0, hi, hz0, hz1, hz2⟩ := info_parts inf_Bond
  have hel : Tryz.prog.elem 24 = 84 := by kernel_rfl
  have hsz : (sizeOf (Tryz.prog.elem 24)).run Tryz.prog = fun W => .ok 4 W := by
    funext W
    rw [hel]
    simp [sizeOf, typeInfo, hi, hz1]
  have hund : Tryz.prog.underlying 24 = some (.slice (Tryz.prog.elem 24)) := by rw [hel]; exact Tryz.underlying24
  obtain ⟨A', c', e, hcl, hlies⟩ := own_lies hrow
  cases e
  have hm6 : ∀ W, (Instr.sliceAt 24 (.slice A L.length cap) none (some (.int .i64 (k : Int))) none).run Tryz.prog W = .ok (.slice (if cap = 0 then A else A.map (·.add (0 * 4))) (k - 0) (cap - 0)) W := by
    intro W
    rw [run_sliceAt_slice _ _ _ _ _ _ hund, run_slice_h W _ A L.length cap hund .i64 k (by omega) (by omega), hsz]
    simp only [Result.andThen, sliced, Int.toNat_natCast]
  have hm18 : ∀ W, (Instr.sliceAt 24 (.slice A L.length cap) (some (.int .i64 (k : Int))) none none).run Tryz.prog W = .ok (.slice (if cap = k then A else A.map (·.add (k * 4))) (L.length - k) (cap - k)) W := by
    intro W
    rw [run_sliceAt_slice _ _ _ _ _ _ hund, run_slice_l W _ A L.length cap hund .i64 k (by omega) (by omega), hsz]
    simp only [Result.andThen, sliced, Int.toNat_natCast]
  have htl : (L.take k).length = k := by rw [List.length_take]; omega
  have hdl : (L.drop k).length = L.length - k := List.length_drop
  refine ⟨_, _, hm6, hm18, fun V hV => ?_, fun V hV ty base v l hown hl61 hbase => ?_⟩
  · have hrow2 := row_mod hrow hV (by simp)
    have hA : (if cap = 0 then A else A.map (·.add (0 * 4))) = A := by
      split
      · rfl
      · rcases hrow with ⟨-, ⟨h1, -⟩ | ⟨g, cap2, cur, h1, -⟩⟩
        · simp only [Value.slice.injEq] at h1; rw [h1.1]; rfl
        · simp only [Value.slice.injEq] at h1; rw [h1.1]; rfl
    rw [hA]
    have hh := copyB_any A (cap - 0) (L.take k) V (by rw [htl]; omega) (fun j u hu => by
      obtain ⟨A2, c2, e, -, hl2⟩ := own_lies hrow2
      cases e
      refine hl2 j u ?_
      have hj := (List.getElem?_eq_some_iff.1 hu).1
      conv => lhs; rw [← List.take_append_drop k L]
      rw [List.flatMap_append, List.getElem?_append_left hj]
      exact hu) (fun e => ?_) (fun e => ?_)
    · rw [htl] at hh; exact hh
    · subst e
      rcases hrow with ⟨-, ⟨h1, h2⟩ | ⟨g, cap2, cur, h1, -⟩⟩
      · simp only [Value.slice.injEq, true_and] at h1
        rw [List.eq_nil_of_length_eq_zero h1.1]; simp
      · cases h1
    · subst e
      rcases hrow with ⟨-, ⟨h1, h2⟩ | ⟨g, cap2, cur, h1, -⟩⟩
      · simp only [Value.slice.injEq, true_and] at h1
        omega
      · cases h1
  · have hrow2 := row_mod hrow hV (by simp)
    rcases hrow2 with ⟨hx, ⟨h1, h2⟩ | ⟨g, cap2, cur, h1, -⟩⟩
    · simp only [Value.slice.injEq] at h1
      obtain ⟨rfl, h3, h4⟩ := h1
      have hL : L = [] := List.eq_nil_of_length_eq_zero h3
      subst hL
      obtain rfl : k = 0 := by simpa using hk
      refine ⟨v, V, ?_, by simpa using hown, ⟨rfl, rfl, rfl, Nat.le_refl _, fun _ _ _ => rfl⟩⟩
      have := run_append_owned_none (P := Tryz.prog) V base 24 ty 84 i0 4 Tryz.underlying24 hi v l.length _ hown
      subst h4
      exact this
    · simp only [Value.slice.injEq] at h1
      obtain ⟨rfl, -, rfl⟩ := h1
      have hrow2 := row_mod hrow hV (by simp)
      obtain ⟨ad, had, hc⟩ : ∃ ad, (if cap = k then some (⟨g, 0, none⟩ : Addr) else (some (⟨g, 0, none⟩ : Addr)).map (·.add (k * 4))) = some ad ∧ ∀ j u, ((L.drop k).flatMap bdC)[j]? = some u → V.cell? (ad.add j) = some u := by
        by_cases e : cap = k
        · refine ⟨⟨g, 0, none⟩, by rw [if_pos e], fun j u hu => ?_⟩
          rw [List.drop_eq_nil_of_le (by omega)] at hu
          simp at hu
        · refine ⟨(⟨g, 0, none⟩ : Addr).add (k * 4), by rw [if_neg e]; rfl, fun j u hu => ?_⟩
          have h5 := row_cell hrow2 (i := k * 4 + j) (u := u) (by
            conv => lhs; rw [← List.take_append_drop k L]
            rw [List.flatMap_append, List.getElem?_append_right (by rw [flatV_length bdC_len, htl]; omega), flatV_length bdC_len, htl, show k * 4 + j - k * 4 = j by omega]
            exact hu)
          rw [show ((⟨g, 0, none⟩ : Addr).add (k * 4)).add j = ⟨g, k * 4 + j, none⟩ by rw [Addr.add_mid, Addr.add_mid, Nat.zero_add]]
          exact h5
      rw [had]
      obtain ⟨v', V', hr, h2, h3, -, -⟩ := run_append_own_at (P := Tryz.prog) V base 24 ty 84 i0 _ 4 32 Tryz.underlying24 hi hz0 hz1 hz2 rfl (by omega) v l.length _ hown ad (L.length - k) (cap - k) ((L.drop k).flatMap bdC) (by rw [flatV_length bdC_len, hdl]) hc (flat_one bdC_one _) (by unfold maxLen; omega) (by omega) hbase
      refine ⟨v', V', hr, ?_, h3⟩
      rw [List.length_append, List.flatMap_append, hdl]
      exact h2


/-- What the region that lays the new rows keeps. -/
structure IAd (w5 : World) (l1 l2 : List Bd) (x : Bd) (L : Nat → Bool) (σ : Nat → Value) (V : World) : Prop where
  b : Below w5.heap.size w5 V
  c : L 4 = true → L 9 = false → V.ownsRow w5.heap.size 84 4 (σ 4) l1.length (l1.flatMap bdC)
  o : L 8 = true → L 9 = false → oneR w5.heap.size (bdC x).toArray 84 (σ 8) V
  a : L 9 = true → L 13 = false → V.ownsRow w5.heap.size 84 4 (σ 9) (l1 ++ [x]).length ((l1 ++ [x]).flatMap bdC)
  e : L 13 = true → V.ownsRow w5.heap.size 84 4 (σ 13) (l1 ++ [x] ++ l2).length ((l1 ++ [x] ++ l2).flatMap bdC)
section
variable {w5 V V' : World} {l1 l2 : List Bd} {x : Bd} {L : Nat → Bool} {σ : Nat → Value}
theorem IAd.start (h : Below w5.heap.size w5 V) : IAd w5 l1 l2 x (fun _ => false) σ V := ⟨h, fun e => (by cases e), fun e => (by cases e), fun e => (by cases e), fun e => (by cases e)⟩
theorem IAd.read (h : IAd w5 l1 l2 x L σ V) {i : Nat} (h1 : 4 ≠ i ∧ 8 ≠ i ∧ 9 ≠ i ∧ 13 ≠ i) (v : Value) : IAd w5 l1 l2 x (upd L i) (updv σ i v) V := by
  obtain ⟨n1, n2, n3, n4⟩ := h1
  have eL : ∀ j, j ≠ i → upd L i j = L j := fun j hj => by unfold upd; simp [hj]
  have es : ∀ j, j ≠ i → updv σ i v j = σ j := fun j hj => by unfold updv; rw [if_neg hj]
  refine ⟨h.b, ?_, ?_, ?_, ?_⟩
  · rw [eL 4 n1, eL 9 n3, es 4 n1]; exact h.c
  · rw [eL 8 n2, eL 9 n3, es 8 n2]; exact h.o
  · rw [eL 9 n3, eL 13 n4, es 9 n3]; exact h.a
  · rw [eL 13 n4, es 13 n4]; exact h.e
theorem IAd.copied (h : IAd w5 l1 l2 x L σ V) (h13 : L 13 = false) (hb : Below V.heap.size V V') {v : Value} (hv : V'.ownsRow V.heap.size 84 4 v l1.length (l1.flatMap bdC)) (h9 : L 9 = false) : IAd w5 l1 l2 x (upd L 4) (updv σ 4 v) V' := by
  have eL : ∀ j, j ≠ 4 → upd L 4 j = L j := fun j hj => by unfold upd; simp [hj]
  have es : ∀ j, j ≠ 4 → updv σ 4 v j = σ j := fun j hj => by unfold updv; rw [if_neg hj]
  have hs := h.b.size
  refine ⟨h.b.trans (hb.mono hs), fun _ _ => ?_, ?_, ?_, ?_⟩
  · show V'.ownsRow _ _ _ (updv σ 4 v 4) _ _
    rw [show updv σ 4 v 4 = v from rfl]
    exact row_base hv (fun k hk => by have := (hv.lt k hk).1; omega)
  · rw [eL 8 (by decide), eL 9 (by decide), es 8 (by decide)]; exact fun h1 h2 => oneR_mod (h.o h1 h2) (Mod.ofBelow hb) (by simp)
  · rw [eL 9 (by decide), h9]; intro e; cases e
  · rw [eL 13 (by decide), h13]; intro e; cases e
theorem IAd.oned (h : IAd w5 l1 l2 x L σ V) (h13 : L 13 = false) (h9 : L 9 = false) : IAd w5 l1 l2 x (upd L 8) (updv σ 8 (.slice (some ⟨V.heap.size, 0, none⟩) 1 1)) (V.alloc (.cells (bdC x).toArray 84)) := by
  have eL : ∀ j, j ≠ 8 → upd L 8 j = L j := fun j hj => by unfold upd; simp [hj]
  have es : ∀ v j, j ≠ 8 → updv σ 8 v j = σ j := fun v j hj => by unfold updv; rw [if_neg hj]
  have hs := h.b.size
  refine ⟨h.b.alloc hs _, ?_, fun _ _ => ?_, ?_, ?_⟩
  · rw [eL 4 (by decide), eL 9 (by decide), es _ 4 (by decide)]; exact fun h1 h2 => row_mod (h.c h1 h2) ((Mod.refl [] V).alloc _) (by simp)
  · exact oneR_new hs
  · rw [eL 9 (by decide), h9]; intro e; cases e
  · rw [eL 13 (by decide), h13]; intro e; cases e
theorem IAd.apped (h : IAd w5 l1 l2 x L σ V) (h13 : L 13 = false) (h4 : L 4 = true) (h9 : L 9 = false) {v : Value} (hg : V.grownBy V' (σ 4).ownBlock) (hv : V'.ownsRow w5.heap.size 84 4 v (l1 ++ [x]).length ((l1 ++ [x]).flatMap bdC)) : IAd w5 l1 l2 x (upd L 9) (updv σ 9 v) V' := by
  have eL : ∀ j, j ≠ 9 → upd L 9 j = L j := fun j hj => by unfold upd; simp [hj]
  refine ⟨h.b.trans ((Below.refl w5.heap.size V).grown hg h.b.size (own_ge (h.c h4 h9))), ?_, ?_, fun _ _ => hv, ?_⟩
  · intro _ e; simp [upd] at e
  · intro _ e; simp [upd] at e
  · rw [eL 13 (by decide), h13]; intro e; cases e
theorem IAd.apped2 (h : IAd w5 l1 l2 x L σ V) (h13 : L 13 = false) (h9 : L 9 = true) {v : Value} (hg : V.grownBy V' (σ 9).ownBlock) (hv : V'.ownsRow w5.heap.size 84 4 v (l1 ++ [x] ++ l2).length ((l1 ++ [x] ++ l2).flatMap bdC)) : IAd w5 l1 l2 x (upd L 13) (updv σ 13 v) V' := by
  have eL : ∀ j, j ≠ 13 → upd L 13 j = L j := fun j hj => by unfold upd; simp [hj]
  refine ⟨h.b.trans ((Below.refl w5.heap.size V).grown hg h.b.size (own_ge (h.a h9 h13))), ?_, ?_, ?_, fun _ => hv⟩
  · rw [eL 9 (by decide), h9]; intro _ e; cases e
  · rw [eL 9 (by decide), h9]; intro _ e; cases e
  · intro _ e; simp [upd] at e
end


theorem whiles {α : Type} (p : α → Bool) : ∀ (l : List α) (k : Nat), k ≤ l.length → (∀ j (h : j < l.length), j < k → p l[j] = true) → (∀ h : k < l.length, p l[k] = false) → l.takeWhile p = l.take k ∧ l.dropWhile p = l.drop k
  | [], k, hk, _, _ => by obtain rfl : k = 0 := by simpa using hk
                          exact ⟨rfl, rfl⟩
  | x :: l, 0, _, _, h2 => by
    have : p x = false := h2 (by simp)
    simp [this]
  | x :: l, k + 1, hk, h1, h2 => by
    have hx : p x = true := h1 0 (by simp) (by omega)
    obtain ⟨a, b⟩ := whiles p l k (by simpa using hk) (fun j hj hjk => h1 (j + 1) (by simpa using hj) (by omega)) (fun h => h2 (by simpa using h))
    simp [hx, a, b]
theorem insB_at {B : List Bd} {x : Bd} {k : Nat} (hk : k ≤ (outB B x.1).length) (h1 : ∀ j (h : j < (outB B x.1).length), j < k → ltH (outB B x.1)[j].1 x.1 = true) (h2 : ∀ h : k < (outB B x.1).length, ltH (outB B x.1)[k].1 x.1 = false) :
    insB B x = (outB B x.1).take k ++ [x] ++ (outB B x.1).drop k := by
  obtain ⟨a, b⟩ := whiles (fun b : Bd => ltH b.1 x.1) _ k hk h1 h2
  unfold insB
  rw [a, b]; simp

/-- What the first comparison knows. -/
structure IUnd (w1 : World) (l : List Hd) (L : Nat → Bool) (σ : Nat → Value) (V : World) : Prop where
  b : Below w1.heap.size w1 V
  r : L 6 = true → V.ownsRow 0 41 2 (σ 6) l.length (l.flatMap handleC)
theorem IUnd.start {w1 V : World} {l : List Hd} {σ : Nat → Value} (h : Below w1.heap.size w1 V) : IUnd w1 l (fun _ => false) σ V := ⟨h, fun e => (by cases e)⟩
theorem IUnd.read {w1 V : World} {l : List Hd} {L : Nat → Bool} {σ : Nat → Value} (h : IUnd w1 l L σ V) {i : Nat} (hi : 6 ≠ i) (v : Value) : IUnd w1 l (upd L i) (updv σ i v) V := by
  have eL : upd L i 6 = L 6 := by unfold upd; simp [hi]
  have es : updv σ i v 6 = σ 6 := by unfold updv; rw [if_neg hi]
  exact ⟨h.b, by rw [eL, es]; exact h.r⟩
theorem IUnd.got {w1 V V' : World} {l : List Hd} {L : Nat → Bool} {σ : Nat → Value} (h : IUnd w1 l L σ V) (hb : Below V.heap.size V V') {v : Value} (hv : V'.ownsRow 0 41 2 v l.length (l.flatMap handleC)) : IUnd w1 l (upd L 6) (updv σ 6 v) V' :=
  ⟨h.b.trans (hb.mono h.b.size), fun _ => hv⟩

section
variable {vg vl vr : Value} {w : World} {q : Nat} {B : List Bd} {F : List Nat}
set_option maxRecDepth 20000 in
set_option maxHeartbeats 4000000 in
theorem radopt_same (h : RepB vg vl vr w q B F) (s g : Int) : Calls Tryz.prog 34 #[.pointer (some ⟨q, 0, none⟩), .agg #[.int .i64 s, .int .i64 g], .agg #[.int .i64 s, .int .i64 g]] w (RFRet vg vl vr B (.int .i64 8) q F w) := by
  obtain ⟨w0, hw0, hb0, hz0, hs0⟩ := box1 w (.cells #[.int .i64 s, .int .i64 g] 41)
  obtain ⟨w1, hw1, hb1, hz1, hs1⟩ := box1 w0 (.cells #[.int .i64 s, .int .i64 g] 41)
  have hz01 := (Mod.ofBelow hb1).keep hz0 (by simp)
  have hB1 := hb0.trans (hb1.mono hb0.size)
  have heq := fun w => eqlHandle w s g s g
  simp only [eqB_self] at heq
  have q0 := blk_cell hz01 0
  have q1 := blk_cell hz01 1
  simp only [List.getElem?_toArray, List.getElem?_cons_zero, List.getElem?_cons_succ] at q0 q1
  have ql := blk_lt hz01
  have y0 := blk_cell hz1 0
  have y1 := blk_cell hz1 1
  simp only [List.getElem?_toArray, List.getElem?_cons_zero, List.getElem?_cons_succ] at y0 y1
  have yl := blk_lt hz1
  have hfin : RFRet vg vl vr B (.int .i64 8) q F w (.returned (.int .i64 8)) w1.drew := ⟨rfl, F, h.below hB1.drew, Turns.same hB1.drew⟩
  have Hfin := Lib.hid hfin
  clear hfin
  clear h hb0 hz0 hs0 hb1 hz1 hs1 hz01 hB1
  go_enter Tryz.func34, Tryz.ntmps34
  go_wp2_with fail
  clear hw0 hw1
  refine wp_planR 8 [] [some 9, some 10, some 11, some 12, some 13, some 14, some 15, some 16, some 17, some 18] [[], [], [0, 1], [0, 1, 2], [0, 1, 2, 3], [0, 1, 2, 3], [0, 1, 2, 3, 4, 5], [0, 1, 2, 3], [0, 1, 2, 3, 4, 5, 6, 7], [0, 1, 2, 3, 4, 5, 6, 7, 8]] [0, 1, 2, 3, 4, 5, 6, 7] mixed rfl (by kernel_rfl) (by decide) (by decide) rfl ?_
  iterate 8 apply Exists.intro
  refine ⟨rfl, ?_, ?_⟩
  · simp only [List.take_succ_cons, List.take_zero, AllFrom.cons_eq, AllFrom.nil_eq, OpGoalQ]
    refine ⟨?_, ?_, ?_, ?_, ?_, ?_, ?_, ?_, trivial⟩
    all_goals (intro σ hp; (try simp only [List.getD_cons_zero, List.getD_cons_succ, List.map_cons, List.map_nil, preF_cons, preF_nil, isV, and_true] at hp); (first | (have hq : True := hp; clear hq hp) | skip))
    all_goals (go_simp; exact ⟨rfl, rfl⟩)
  intro σ hp
  simp only [List.getD_cons_zero, List.getD_cons_succ, List.map_cons, List.map_nil, preF_cons, preF_nil, isV, and_true] at hp
  simp only [List.drop_succ_cons, List.drop_zero]
  go_simp
  clear hp
  go_wp2
  refine ⟨rfl, ?_⟩
  go_wp2
  refine bodyPost_ret (v := .int .i64 8) (by unfold results; try go_simp) rfl ?_
  exact Hfin.out
  all_goals exact undef
end
end Go.Proofs.YtehjfmjibiafdaaGreat
