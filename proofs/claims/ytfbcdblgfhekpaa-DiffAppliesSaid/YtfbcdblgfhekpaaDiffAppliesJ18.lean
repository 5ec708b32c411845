import Derived.Test.YtfbcdblgfhekpaaDiffAppliesJ15
import Derived.Test.YtfbcdblgfhekpaaDiffAppliesJ17
/- R.beastAt; rows without those of a handle (Apply's closure); pieces of rows. (printed by mk_df10.py) -/
namespace Go.Proofs.Ytfbcdblgfhekpaa
open Go Go.RowKit
attribute [local go_sem] AllFrom.cons_eq AllFrom.nil_eq putF_nil putF_cons wantedL_none wantedL_some OpGoalT OpGoalV OpGoalQ OpGoalA OpGoalK YieldsR preF_nil preF_cons

theorem slice_split2 {w : World} {A : Option Addr} {cap k : Nat} {L : List Rw} (hrow : w.ownsRow 0 33 11 (.slice A L.length cap) L.length (L.flatMap rwC)) (hk : k ≤ L.length) (hl : L.length ≤ 1200000) :
    ∃ v6 v18, (∀ W, (Instr.sliceAt 22 (.slice A L.length cap) none (some (.int .i64 (k : Int))) none).run Try.prog W = .ok v6 W) ∧ (∀ W, (Instr.sliceAt 22 (.slice A L.length cap) (some (.int .i64 (k : Int))) none none).run Try.prog W = .ok v18 W) ∧
      (∀ V, Mod [] w V → Calls Try.prog 26 #[v6] V (MadeR 33 11 rwC (L.take k) V)) ∧
      ∀ V, Mod [] w V → ∀ ty base v (l : List Rw), V.ownsRow base 33 11 v l.length (l.flatMap rwC) → l.length ≤ 1200001 → base ≤ V.heap.size →
        ∃ v' V', (Builtin.append_ #[22, 22] ty #[v, v18]).run Try.prog V = .ok v' V' ∧ V'.ownsRow base 33 11 v' (l ++ L.drop k).length ((l ++ L.drop k).flatMap rwC) ∧ V.grownBy V' v.ownBlock := by
  obtain ⟨i0, hi, hz0, hz1, hz2⟩ := info_parts inf_Row
  have hel : Try.prog.elem 22 = 33 := by kernel_rfl
  have hsz : (sizeOf (Try.prog.elem 22)).run Try.prog = fun W => .ok 11 W := by
    funext W
    rw [hel]
    simp [sizeOf, typeInfo, hi, hz1]
  have hund : Try.prog.underlying 22 = some (.slice (Try.prog.elem 22)) := by rw [hel]; exact Try.underlying22
  obtain ⟨A', c', e, hcl, hlies⟩ := own_lies hrow
  cases e
  have hm6 : ∀ W, (Instr.sliceAt 22 (.slice A L.length cap) none (some (.int .i64 (k : Int))) none).run Try.prog W = .ok (.slice (if cap = 0 then A else A.map (·.add (0 * 11))) (k - 0) (cap - 0)) W := by
    intro W
    rw [run_sliceAt_slice _ _ _ _ _ _ hund, run_slice_h W _ A L.length cap hund .i64 k (by omega) (by omega), hsz]
    simp only [Result.andThen, sliced, Int.toNat_natCast]
  have hm18 : ∀ W, (Instr.sliceAt 22 (.slice A L.length cap) (some (.int .i64 (k : Int))) none none).run Try.prog W = .ok (.slice (if cap = k then A else A.map (·.add (k * 11))) (L.length - k) (cap - k)) W := by
    intro W
    rw [run_sliceAt_slice _ _ _ _ _ _ hund, run_slice_l W _ A L.length cap hund .i64 k (by omega) (by omega), hsz]
    simp only [Result.andThen, sliced, Int.toNat_natCast]
  have htl : (L.take k).length = k := by rw [List.length_take]; omega
  have hdl : (L.drop k).length = L.length - k := List.length_drop
  refine ⟨_, _, hm6, hm18, fun V hV => ?_, fun V hV ty base v l hown hl61 hbase => ?_⟩
  · have hrow2 := row_mod hrow hV (by simp)
    have hA : (if cap = 0 then A else A.map (·.add (0 * 11))) = A := by
      split
      · rfl
      · rcases hrow with ⟨-, ⟨h1, -⟩ | ⟨g, cap2, cur, h1, -⟩⟩
        · simp only [Value.slice.injEq] at h1; rw [h1.1]; rfl
        · simp only [Value.slice.injEq] at h1; rw [h1.1]; rfl
    rw [hA]
    have hh := copyR_any A (cap - 0) (L.take k) V (by rw [htl]; omega) (fun j u hu => by
      obtain ⟨A2, c2, e, -, hl2⟩ := own_lies hrow2
      cases e
      refine hl2 j u ?_
      have hj := (List.getElem?_eq_some_iff.1 hu).1
      conv => lhs; rw [← List.take_append_drop k L]
      rw [List.flatMap_append, List.getElem?_append_left hj]
      exact hu) (fun e => ?_) (fun e => ?_)
    · rw [htl] at hh; exact hh
    · subst e
      rcases hrow with ⟨-, ⟨h1, h2⟩ | ⟨g, cap2, cur, h1, -⟩⟩
      · simp only [Value.slice.injEq, true_and] at h1
        rw [List.eq_nil_of_length_eq_zero h1.1]; simp
      · cases h1
    · subst e
      rcases hrow with ⟨-, ⟨h1, h2⟩ | ⟨g, cap2, cur, h1, -⟩⟩
      · simp only [Value.slice.injEq, true_and] at h1
        omega
      · cases h1
  · have hrow2 := row_mod hrow hV (by simp)
    rcases hrow2 with ⟨hx, ⟨h1, h2⟩ | ⟨g, cap2, cur, h1, -⟩⟩
    · simp only [Value.slice.injEq] at h1
      obtain ⟨rfl, h3, h4⟩ := h1
      have hL : L = [] := List.eq_nil_of_length_eq_zero h3
      subst hL
      obtain rfl : k = 0 := by simpa using hk
      refine ⟨v, V, ?_, by simpa using hown, ⟨rfl, rfl, rfl, Nat.le_refl _, fun _ _ _ => rfl⟩⟩
      have := run_append_owned_none (P := Try.prog) V base 22 ty 33 i0 11 Try.underlying22 hi v l.length _ hown
      subst h4
      exact this
    · simp only [Value.slice.injEq] at h1
      obtain ⟨rfl, -, rfl⟩ := h1
      have hrow2 := row_mod hrow hV (by simp)
      obtain ⟨ad, had, hc⟩ : ∃ ad, (if cap = k then some (⟨g, 0, none⟩ : Addr) else (some (⟨g, 0, none⟩ : Addr)).map (·.add (k * 11))) = some ad ∧ ∀ j u, ((L.drop k).flatMap rwC)[j]? = some u → V.cell? (ad.add j) = some u := by
        by_cases e : cap = k
        · refine ⟨⟨g, 0, none⟩, by rw [if_pos e], fun j u hu => ?_⟩
          rw [List.drop_eq_nil_of_le (by omega)] at hu
          simp at hu
        · refine ⟨(⟨g, 0, none⟩ : Addr).add (k * 11), by rw [if_neg e]; rfl, fun j u hu => ?_⟩
          have h5 := row_cell hrow2 (i := k * 11 + j) (u := u) (by
            conv => lhs; rw [← List.take_append_drop k L]
            rw [List.flatMap_append, List.getElem?_append_right (by rw [flatV_length rwC_len, htl]; omega), flatV_length rwC_len, htl, show k * 11 + j - k * 11 = j by omega]
            exact hu)
          rw [show ((⟨g, 0, none⟩ : Addr).add (k * 11)).add j = ⟨g, k * 11 + j, none⟩ by rw [Addr.add_mid, Addr.add_mid, Nat.zero_add]]
          exact h5
      rw [had]
      obtain ⟨v', V', hr, h2, h3, -, -⟩ := run_append_own_at (P := Try.prog) V base 22 ty 33 i0 _ 11 88 Try.underlying22 hi hz0 hz1 hz2 rfl (by omega) v l.length _ hown ad (L.length - k) (cap - k) ((L.drop k).flatMap rwC) (by rw [flatV_length rwC_len, hdl]) hc (flat_one rwC_one _) (by unfold maxLen; omega) (by omega) hbase
      refine ⟨v', V', hr, ?_, h3⟩
      rw [List.length_append, List.flatMap_append, hdl]
      exact h2

/-- What the region that lays the new rows keeps. -/
structure ISq (w5 : World) (l1 l2 : List Rw) (x : Rw) (L : Nat → Bool) (σ : Nat → Value) (V : World) : Prop where
  b : Below w5.heap.size w5 V
  c : L 3 = true → L 10 = false → V.ownsRow w5.heap.size 33 11 (σ 3) l1.length (l1.flatMap rwC)
  o : L 9 = true → L 10 = false → oneR w5.heap.size (rwC x).toArray 33 (σ 9) V
  a : L 10 = true → L 14 = false → V.ownsRow w5.heap.size 33 11 (σ 10) (l1 ++ [x]).length ((l1 ++ [x]).flatMap rwC)
  e : L 14 = true → V.ownsRow w5.heap.size 33 11 (σ 14) (l1 ++ [x] ++ l2).length ((l1 ++ [x] ++ l2).flatMap rwC)
section
variable {w5 V V' : World} {l1 l2 : List Rw} {x : Rw} {L : Nat → Bool} {σ : Nat → Value}
theorem ISq.start (h : Below w5.heap.size w5 V) : ISq w5 l1 l2 x (fun _ => false) σ V := ⟨h, fun e => (by cases e), fun e => (by cases e), fun e => (by cases e), fun e => (by cases e)⟩
theorem ISq.read (h : ISq w5 l1 l2 x L σ V) {i : Nat} (h1 : 3 ≠ i ∧ 9 ≠ i ∧ 10 ≠ i ∧ 14 ≠ i) (v : Value) : ISq w5 l1 l2 x (upd L i) (updv σ i v) V := by
  obtain ⟨n1, n2, n3, n4⟩ := h1
  have eL : ∀ j, j ≠ i → upd L i j = L j := fun j hj => by unfold upd; simp [hj]
  have es : ∀ j, j ≠ i → updv σ i v j = σ j := fun j hj => by unfold updv; rw [if_neg hj]
  refine ⟨h.b, ?_, ?_, ?_, ?_⟩
  · rw [eL 3 n1, eL 10 n3, es 3 n1]; exact h.c
  · rw [eL 9 n2, eL 10 n3, es 9 n2]; exact h.o
  · rw [eL 10 n3, eL 14 n4, es 10 n3]; exact h.a
  · rw [eL 14 n4, es 14 n4]; exact h.e
theorem ISq.copied (h : ISq w5 l1 l2 x L σ V) (h14 : L 14 = false) (hb : Below V.heap.size V V') {v : Value} (hv : V'.ownsRow V.heap.size 33 11 v l1.length (l1.flatMap rwC)) (h10 : L 10 = false) : ISq w5 l1 l2 x (upd L 3) (updv σ 3 v) V' := by
  have eL : ∀ j, j ≠ 3 → upd L 3 j = L j := fun j hj => by unfold upd; simp [hj]
  have es : ∀ j, j ≠ 3 → updv σ 3 v j = σ j := fun j hj => by unfold updv; rw [if_neg hj]
  have hs := h.b.size
  refine ⟨h.b.trans (hb.mono hs), fun _ _ => ?_, ?_, ?_, ?_⟩
  · show V'.ownsRow _ _ _ (updv σ 3 v 3) _ _
    rw [show updv σ 3 v 3 = v from rfl]
    exact row_base hv (fun k hk => by have := (hv.lt k hk).1; omega)
  · rw [eL 9 (by decide), eL 10 (by decide), es 9 (by decide)]; exact fun h1 h2 => oneR_mod (h.o h1 h2) (Mod.ofBelow hb) (by simp)
  · rw [eL 10 (by decide), h10]; intro e; cases e
  · rw [eL 14 (by decide), h14]; intro e; cases e
theorem ISq.oned (h : ISq w5 l1 l2 x L σ V) (h14 : L 14 = false) (h10 : L 10 = false) : ISq w5 l1 l2 x (upd L 9) (updv σ 9 (.slice (some ⟨V.heap.size, 0, none⟩) 1 1)) (V.alloc (.cells (rwC x).toArray 33)) := by
  have eL : ∀ j, j ≠ 9 → upd L 9 j = L j := fun j hj => by unfold upd; simp [hj]
  have es : ∀ v j, j ≠ 9 → updv σ 9 v j = σ j := fun v j hj => by unfold updv; rw [if_neg hj]
  have hs := h.b.size
  refine ⟨h.b.alloc hs _, ?_, fun _ _ => ?_, ?_, ?_⟩
  · rw [eL 3 (by decide), eL 10 (by decide), es _ 3 (by decide)]; exact fun h1 h2 => row_mod (h.c h1 h2) ((Mod.refl [] V).alloc _) (by simp)
  · exact oneR_new hs
  · rw [eL 10 (by decide), h10]; intro e; cases e
  · rw [eL 14 (by decide), h14]; intro e; cases e
theorem ISq.apped (h : ISq w5 l1 l2 x L σ V) (h14 : L 14 = false) (h3 : L 3 = true) (h10 : L 10 = false) {v : Value} (hg : V.grownBy V' (σ 3).ownBlock) (hv : V'.ownsRow w5.heap.size 33 11 v (l1 ++ [x]).length ((l1 ++ [x]).flatMap rwC)) : ISq w5 l1 l2 x (upd L 10) (updv σ 10 v) V' := by
  have eL : ∀ j, j ≠ 10 → upd L 10 j = L j := fun j hj => by unfold upd; simp [hj]
  refine ⟨h.b.trans ((Below.refl w5.heap.size V).grown hg h.b.size (own_ge (h.c h3 h10))), ?_, ?_, fun _ _ => hv, ?_⟩
  · intro _ e; simp [upd] at e
  · intro _ e; simp [upd] at e
  · rw [eL 14 (by decide), h14]; intro e; cases e
theorem ISq.apped2 (h : ISq w5 l1 l2 x L σ V) (h14 : L 14 = false) (h10 : L 10 = true) {v : Value} (hg : V.grownBy V' (σ 10).ownBlock) (hv : V'.ownsRow w5.heap.size 33 11 v (l1 ++ [x] ++ l2).length ((l1 ++ [x] ++ l2).flatMap rwC)) : ISq w5 l1 l2 x (upd L 14) (updv σ 14 v) V' := by
  have eL : ∀ j, j ≠ 14 → upd L 14 j = L j := fun j hj => by unfold upd; simp [hj]
  refine ⟨h.b.trans ((Below.refl w5.heap.size V).grown hg h.b.size (own_ge (h.a h10 h14))), ?_, ?_, ?_, fun _ => hv⟩
  · rw [eL 10 (by decide), h10]; intro _ e; cases e
  · rw [eL 10 (by decide), h10]; intro _ e; cases e
  · intro _ e; simp [upd] at e
end

set_option maxRecDepth 20000 in
set_option maxHeartbeats 2000000 in
theorem apl1_any (s1 g1 K a0 a1 a2 a3 a4 a5 a6 a7 s g : Int) (b : Nat) (w : World) (h0 : w.cell? ⟨b, 0, none⟩ = some (.int .i64 s)) (h1 : w.cell? ⟨b, 1, none⟩ = some (.int .i64 g)) (hb : b < w.heap.size) :
    Calls Try.prog 25 #[.agg #[.int .i64 s1, .int .i64 g1, .int .i64 K, .int .i64 a0, .int .i64 a1, .int .i64 a2, .int .i64 a3, .int .i64 a4, .int .i64 a5, .int .i64 a6, .int .i64 a7], .pointer (some ⟨b, 0, none⟩)] w (fun e w' => e = .returned (.bool (eqB (s1, g1) (s, g))) ∧ Below w.heap.size w w') := by
  have he := fun w => eqlHandle w s1 g1 s g
  generalize eqB (s1, g1) (s, g) = r at *
  have hB : ∀ o, Below w.heap.size w (w.alloc o) := fun o => (Below.refl _ _).alloc (Nat.le_refl _) o
  go_enter Try.func25, Try.ntmps25
  go_wp2
  go_ret
  exact ⟨rfl, hB _⟩

set_option maxRecDepth 20000 in
set_option maxHeartbeats 4000000 in
theorem withoutApl_any {w : World} {L : List Rw} {A : Option Addr} {cap : Nat} (hrow : Lies w w.heap.size A (L.flatMap rwC)) (hl : L.length ≤ 1200000000000) (s g : Int) (old now : Bt) (b : Nat) (h0 : w.heap[b]? = some (.cells (cgC ((s, g), old, now)).toArray 36 (0, 0))) :
    Calls Try.prog 24 #[.slice A L.length cap, .func (.func 25) #[] #[.pointer (some ⟨b, 0, none⟩)]] w (MadeR 33 11 rwC (delR L (s, g)) w) := by
  have hle : L.length ≤ 9223372036854775807 := by omega
  have hbl := blk_lt h0
  have HLL := Lib.hid hl
  clear hl
  go_enter Try.func24, Try.ntmps24
  go_wp2
  go_loopw [5, 10] (fun v i wr => ∃ n : Nat, n ≤ L.length ∧ i = .int .i64 n ∧ wr.ownsRow w.heap.size 33 11 v (delR (L.take n) (s, g)).length ((delR (L.take n) (s, g)).flatMap rwC) ∧ Below w.heap.size w wr) (fun _ i _ => L.length - (intOf i).toNat)
  case atStart => exact ⟨0, by omega, rfl, ⟨rfl, .inl ⟨rfl, rfl⟩⟩, Below.refl _ _⟩
  case round =>
    obtain ⟨n, hn, rfl, hown, hbel⟩ := hrel
    have hsz := hbel.size
    by_cases hlt : n < L.length
    · obtain ⟨ab, ao, rfl, hal, hpc0⟩ := hrow.rec_at rwC_len (by omega) hlt
      have hpc : ∀ j u, (rwC L[n])[j]? = some u → wr.cell? ((⟨ab, ao + n * 11, none⟩ : Addr).add j) = some u := fun j u hu => (hbel.cell (p := (⟨ab, ao + n * 11, none⟩ : Addr).add j) (by rw [add_block]; exact hal)).trans (by first | exact hpc0 j u hu | (have := hpc0 j u hu; rw [Addr.add_mid]; exact this))
      have hst : delR (L.take (n + 1)) (s, g) = delR (L.take n) (s, g) ++ (if L[n].1 = (s, g) then [] else [L[n]]) := by
        unfold delR
        rw [take_succ_get L n hlt, List.filter_append, List.filter_cons]
        by_cases e : L[n].1 = (s, g) <;> simp [e]
      have hlen : (delR (L.take n) (s, g)).length ≤ n := by
        have h1 : (delR (L.take n) (s, g)).length ≤ (L.take n).length := List.length_filter_le _ _
        rw [List.length_take] at h1; omega
      have hab : ab < wr.heap.size := by omega
      have hni : (n : Int) < (L.length : Int) := by omega
      generalize delR (L.take n) (s, g) = M at *
      obtain ⟨x, hx⟩ : ∃ x, L[n] = x := ⟨_, rfl⟩
      rw [hx] at hpc hst
      obtain ⟨⟨s1, g1⟩, K, a0, a1, a2, a3, a4, a5, a6, a7⟩ := x
      have hbz := (Mod.ofBelow hbel).keep h0 (by simp)
      obtain ⟨w3, hw3, hb3, hz3, hs3⟩ := box1 wr (.cells #[.int .i64 s1, .int .i64 g1, .int .i64 K, .int .i64 a0, .int .i64 a1, .int .i64 a2, .int .i64 a3, .int .i64 a4, .int .i64 a5, .int .i64 a6, .int .i64 a7] 33)
      have hO3 := hown.alloc (.cells #[.int .i64 s1, .int .i64 g1, .int .i64 K, .int .i64 a0, .int .i64 a1, .int .i64 a2, .int .i64 a3, .int .i64 a4, .int .i64 a5, .int .i64 a6, .int .i64 a7] 33)
      rw [hw3] at hO3
      have hb03 := hbel.trans (hb3.mono hsz)
      have hbz3 := (Mod.ofBelow hb3).keep hbz (by simp)
      have hk1 := apl1_any s1 g1 K a0 a1 a2 a3 a4 a5 a6 a7 s g b w3 (by rw [blk_cell hbz3]; rfl) (by rw [blk_cell hbz3]; rfl) (blk_lt hbz3)
      have hl3 : wr.heap.size < w3.heap.size := by omega
      have r0 := blk_cell hz3 0
      have r1 := blk_cell hz3 1
      have r2 := blk_cell hz3 2
      have r3 := blk_cell hz3 3
      have r4 := blk_cell hz3 4
      have r5 := blk_cell hz3 5
      have r6 := blk_cell hz3 6
      have r7 := blk_cell hz3 7
      have r8 := blk_cell hz3 8
      have r9 := blk_cell hz3 9
      have r10 := blk_cell hz3 10
      simp only [List.getElem?_toArray, List.getElem?_cons_zero, List.getElem?_cons_succ] at r0 r1 r2 r3 r4 r5 r6 r7 r8 r9 r10
      have rl := blk_lt hz3
      have HP := Lib.hid hpc; have Hst := Lib.hid hst; have Hlen := Lib.hid hlen; have Hown := Lib.hid hown; have Hbel := Lib.hid hbel; have HO3 := Lib.hid hO3; have Hb03 := Lib.hid hb03; have Hk := Lib.hid hk1; have Hs3 := Lib.hid hs3; have Hz3 := Lib.hid hz3; have Hw3 := Lib.hid hw3; have H0 := Lib.hid h0; have Hrow := Lib.hid hrow
      clear hpc hst hlen hown hbel hO3 hb03 hk1 hs3 hz3 hw3 h0 hrow
      clear hpc0 hx hbz hbz3 hb3
      have HO := Lib.hid (rwC_one ((s1, g1), K, a0, a1, a2, a3, a4, a5, a6, a7))
      go_wp2_with (first | (refine wpList_load_flat rfl 33 (.tmp 12) rfl _ rfl [.int .i64 s1, .int .i64 g1, .int .i64 K, .int .i64 a0, .int .i64 a1, .int .i64 a2, .int .i64 a3, .int .i64 a4, .int .i64 a5, .int .i64 a6, .int .i64 a7] _ Try.underlying33 rfl (by kernel_rfl) HP.out ?_) | (refine wpList_store_new rfl 33 (.tmp 7) (.tmp 13) rfl wr (ints zero11) [.int .i64 s1, .int .i64 g1, .int .i64 K, .int .i64 a0, .int .i64 a1, .int .i64 a2, .int .i64 a3, .int .i64 a4, .int .i64 a5, .int .i64 a6, .int .i64 a7] 33 rfl rfl rfl (sz_Row ((s1, g1), K, a0, a1, a2, a3, a4, a5, a6, a7)) HO.out ?_; rw [show ([.int .i64 s1, .int .i64 g1, .int .i64 K, .int .i64 a0, .int .i64 a1, .int .i64 a2, .int .i64 a3, .int .i64 a4, .int .i64 a5, .int .i64 a6, .int .i64 a7] : List Value).toArray = #[.int .i64 s1, .int .i64 g1, .int .i64 K, .int .i64 a0, .int .i64 a1, .int .i64 a2, .int .i64 a3, .int .i64 a4, .int .i64 a5, .int .i64 a6, .int .i64 a7] from rfl, Hw3.out]; clear HO))
      refine Hk.out.mono ?_
      rintro e w4 ⟨rfl, hb4⟩
      have hz4 := (Mod.ofBelow hb4).keep Hz3.out (by simp)
      have hs4 := hb4.size
      have hs3 := Hs3.out
      have hO4 := row_mod HO3.out (Mod.ofBelow hb4) (by simp)
      have hb04 := Hb03.out.trans (hb4.mono Hb03.out.size)
      have hbs := Hb03.out.size
      cases hr : eqB (s1, g1) (s, g) with
      | true =>
        have hst := Hst.out
        rw [if_pos (by simpa [eqB] using hr), List.append_nil] at hst
        have Hst2 := Lib.hid hst; have HO4 := Lib.hid hO4; have Hbel4 := Lib.hid hb04; have Hz4 := Lib.hid hz4; have Hs4 := Lib.hid hs4; have Hbs := Lib.hid hbs; have Hr := Lib.hid hr
        clear hst hO4 hb04 hz4 hs4 hbs hr
        clear hs3 hb4 r0 r1 r2 r3 r4 r5 r6 r7 r8 r9 r10 rl
        go_wp2
        go_roundw
        case rel => exact ⟨n + 1, by omega, by go_num, by rw [Hst2.out]; exact HO4.out, Hbel4.out⟩
        case measure => simp [intOf]; omega
      | false =>
        have hst := Hst.out
        rw [if_neg (by simpa [eqB] using hr)] at hst
        clear r0 r1 r2 r3 r4 r5 r6 r7 r8 r9 r10 rl
        have r0 := blk_cell hz4 0
        have r1 := blk_cell hz4 1
        have r2 := blk_cell hz4 2
        have r3 := blk_cell hz4 3
        have r4 := blk_cell hz4 4
        have r5 := blk_cell hz4 5
        have r6 := blk_cell hz4 6
        have r7 := blk_cell hz4 7
        have r8 := blk_cell hz4 8
        have r9 := blk_cell hz4 9
        have r10 := blk_cell hz4 10
        simp only [List.getElem?_toArray, List.getElem?_cons_zero, List.getElem?_cons_succ] at r0 r1 r2 r3 r4 r5 r6 r7 r8 r9 r10
        have rl := blk_lt hz4
        have Hst2 := Lib.hid hst; have Hown4 := Lib.hid hO4; have Hbel4 := Lib.hid hb04; have Hs4 := Lib.hid hs4; have Hbs := Lib.hid hbs; have Hr := Lib.hid hr
        clear hst hO4 hb04 hs4 hbs hr
        clear hb4 hz4 hs3
        go_wp2_with (at_builtin; (refine app_row rfl _ _ rfl w.heap.size _ M ((s1, g1), K, a0, a1, a2, a3, a4, a5, a6, a7) ⟨w4.heap.size, 0, none⟩ 1 rfl (Hown4.out.alloc _) rfl (new_rec (by simp) rfl) (by have := HLL.out; have := Hlen.out; omega) (by have := Hbel4.out.size; simp; omega) ?_); intro v' w5 hown5 hb5)
        go_roundw
        case rel => exact ⟨n + 1, by omega, by go_num, by rw [Hst2.out]; exact hown5, (Hbel4.out.alloc Hbel4.out.size _).trans hb5⟩
        case measure => simp [intOf]; omega
    · obtain rfl : n = L.length := by omega
      rw [List.take_length] at hown
      have Hown := Lib.hid hown; have Hbel := Lib.hid hbel
      clear hown hbel
      clear hrow h0
      go_wp2
      go_ret
      exact ⟨_, rfl, Hown.out, Hbel.out⟩

set_option maxRecDepth 20000 in
set_option maxHeartbeats 4000000 in
theorem beastAt_any {w : World} (A : Option Addr) (c : Nat) (l : List Rw) (hl : l.length ≤ 9223372036854775807) (hA : Lies w w.heap.size A (l.flatMap rwC)) (s g : Int) :
    Calls Try.prog 23 #[.slice A l.length c, .agg #[.int .i64 s, .int .i64 g]] w fun e w' => e = .returned (beV (getM l (s, g))) ∧ Below w.heap.size w w' := by
  obtain ⟨w0, hw0, hb0, hz0, hs0⟩ := box1 w (.cells #[.int .i64 s, .int .i64 g] 28)
  obtain ⟨w1, hw1, hb1, hz1, hs1⟩ := box1 w0 (.cells #[.int .i64 0, .int .i64 0, .int .i64 0, .int .i64 0, .int .i64 0, .int .i64 0, .int .i64 0, .int .i64 0, .int .i64 0] 31)
  have hB1 := hb0.trans (hb1.mono hb0.size)
  have hz01 := (Mod.ofBelow hb1).keep hz0 (by simp)
  have HB1 := Lib.hid hB1; have Hz01 := Lib.hid hz01; have Hz1 := Lib.hid hz1; have Hs0 := Lib.hid hs0; have Hs1 := Lib.hid hs1; have HA := Lib.hid hA
  clear hB1 hz01 hz1 hs0 hs1 hA
  clear hb0 hb1 hz0
  go_enter Try.func23, Try.ntmps23
  go_wp2_with fail
  clear hw0 hw1
  go_loopw [9] (fun i wr => ∃ n : Nat, n ≤ l.length ∧ i = .int .i64 n ∧ getM (l.drop n) (s, g) = getM l (s, g) ∧ Below w1.heap.size w1 wr) (fun i _ => l.length - (intOf i).toNat)
  case atStart => exact ⟨0, by omega, rfl, rfl, Below.refl _ _⟩
  case round =>
    obtain ⟨n, hn, rfl, hno, hbel⟩ := hrel
    have hsz := hbel.size
    have hzr := (Mod.ofBelow hbel).keep Hz01.out (by simp)
    have hyr := (Mod.ofBelow hbel).keep Hz1.out (by simp)
    have hwb : w.heap.size < w1.heap.size ∧ w0.heap.size < w1.heap.size := ⟨blk_lt Hz01.out, blk_lt Hz1.out⟩
    have hne1 : w0.heap.size ≠ wr.heap.size := by omega
    have hne2 : wr.heap.size ≠ w0.heap.size := by omega
    have hle0 : w.heap.size ≤ w0.heap.size := by have := Hs0.out; omega
    by_cases hlt : n < l.length
    · obtain ⟨ab, ao, rfl, hal, hpc0⟩ := HA.out.rec_at rwC_len (by omega) hlt
      have hpc : ∀ j u, (rwC l[n])[j]? = some u → wr.cell? ((⟨ab, ao + n * 11, none⟩ : Addr).add j) = some u := fun j u hu => ((HB1.out.trans (hbel.mono HB1.out.size)).cell (p := (⟨ab, ao + n * 11, none⟩ : Addr).add j) (by rw [add_block]; exact hal)).trans (by first | exact hpc0 j u hu | (have := hpc0 j u hu; rw [Addr.add_mid]; exact this))
      have hni : (n : Int) < (l.length : Int) := by omega
      rw [List.drop_eq_getElem_cons hlt] at hno
      obtain ⟨x, hx⟩ : ∃ x, l[n] = x := ⟨_, rfl⟩
      rw [hx] at hpc hno
      obtain ⟨⟨t, u⟩, K, a0, a1, a2, a3, a4, a5, a6, a7⟩ := x
      obtain ⟨w3, hw3, hb3, hz3, hs3⟩ := box1 wr (.cells #[.int .i64 t, .int .i64 u, .int .i64 K, .int .i64 a0, .int .i64 a1, .int .i64 a2, .int .i64 a3, .int .i64 a4, .int .i64 a5, .int .i64 a6, .int .i64 a7] 33)
      have hzr3 := (Mod.ofBelow hb3).keep hzr (by simp)
      have hyr3 := (Mod.ofBelow hb3).keep hyr (by simp)
      have heq := fun w => eqlHandle w t u s g
      have hbf := hbel.trans (hb3.mono hsz)
      have HO := Lib.hid (rwC_one ((t, u), (K, a0, a1, a2, a3, a4, a5, a6, a7)))
      have r0 := blk_cell hz3 0
      have r1 := blk_cell hz3 1
      have r2 := blk_cell hz3 2
      have r3 := blk_cell hz3 3
      have r4 := blk_cell hz3 4
      have r5 := blk_cell hz3 5
      have r6 := blk_cell hz3 6
      have r7 := blk_cell hz3 7
      have r8 := blk_cell hz3 8
      have r9 := blk_cell hz3 9
      have r10 := blk_cell hz3 10
      simp only [List.getElem?_toArray, List.getElem?_cons_zero, List.getElem?_cons_succ] at r0 r1 r2 r3 r4 r5 r6 r7 r8 r9 r10
      have rl := blk_lt hz3
      have q0 := blk_cell hzr3 0
      have q1 := blk_cell hzr3 1
      simp only [List.getElem?_toArray, List.getElem?_cons_zero, List.getElem?_cons_succ] at q0 q1
      have ql := blk_lt hzr3
      cases hr : eqB (t, u) (s, g) with
      | true =>
        rw [hr] at heq
        have he : (t, u) = (s, g) := by simpa [eqB] using hr
        rw [← he, getM_cons_eq] at hno
        have hno : (K, a0, a1, a2, a3, a4, a5, a6, a7) = getM l (t, u) := hno
        have Hgm := Lib.hid (show getM l (s, g) = (K, a0, a1, a2, a3, a4, a5, a6, a7) by rw [← he]; exact hno.symm)
        have y0 := blk_cell hyr3 0
        have y1 := blk_cell hyr3 1
        have y2 := blk_cell hyr3 2
        have y3 := blk_cell hyr3 3
        have y4 := blk_cell hyr3 4
        have y5 := blk_cell hyr3 5
        have y6 := blk_cell hyr3 6
        have y7 := blk_cell hyr3 7
        have y8 := blk_cell hyr3 8
        simp only [List.getElem?_toArray, List.getElem?_cons_zero, List.getElem?_cons_succ] at y0 y1 y2 y3 y4 y5 y6 y7 y8
        have yl := blk_lt hyr3
        have f0 := blk_free hyr3 0
        have f1 := blk_free hyr3 1
        have f2 := blk_free hyr3 2
        have f3 := blk_free hyr3 3
        have f4 := blk_free hyr3 4
        have f5 := blk_free hyr3 5
        have f6 := blk_free hyr3 6
        have f7 := blk_free hyr3 7
        have f8 := blk_free hyr3 8
        have hBw := HB1.out.trans (hbf.mono HB1.out.size)
        have HP := Lib.hid hpc; have Hbel := Lib.hid hbel; have Hbf := Lib.hid hbf; have Hs3 := Lib.hid hs3; have Hw3 := Lib.hid hw3; have HBw := Lib.hid hBw; have Hle0 := Lib.hid hle0
        clear hpc hbel hbf hs3 hw3 hBw hle0
        clear hpc0 hx hb3 hzr hyr hz3 hzr3 hyr3 hr he hno
        go_wp2_with (first | (refine wpList_load_flat rfl 33 (.tmp 11) rfl _ rfl [.int .i64 t, .int .i64 u, .int .i64 K, .int .i64 a0, .int .i64 a1, .int .i64 a2, .int .i64 a3, .int .i64 a4, .int .i64 a5, .int .i64 a6, .int .i64 a7] _ Try.underlying33 rfl (by kernel_rfl) HP.out ?_) | (refine wpList_store_new rfl 33 (.tmp 6) (.tmp 12) rfl wr (ints zero11) [.int .i64 t, .int .i64 u, .int .i64 K, .int .i64 a0, .int .i64 a1, .int .i64 a2, .int .i64 a3, .int .i64 a4, .int .i64 a5, .int .i64 a6, .int .i64 a7] 33 rfl rfl rfl (sz_Row ((t, u), (K, a0, a1, a2, a3, a4, a5, a6, a7))) HO.out ?_; rw [show ([.int .i64 t, .int .i64 u, .int .i64 K, .int .i64 a0, .int .i64 a1, .int .i64 a2, .int .i64 a3, .int .i64 a4, .int .i64 a5, .int .i64 a6, .int .i64 a7] : List Value).toArray = #[.int .i64 t, .int .i64 u, .int .i64 K, .int .i64 a0, .int .i64 a1, .int .i64 a2, .int .i64 a3, .int .i64 a4, .int .i64 a5, .int .i64 a6, .int .i64 a7] from rfl, Hw3.out]; clear HO))
        refine bodyPost_ret (v := .agg #[.int .i64 K, .int .i64 a0, .int .i64 a1, .int .i64 a2, .int .i64 a3, .int .i64 a4, .int .i64 a5, .int .i64 a6, .int .i64 a7]) (by unfold results; try go_simp) rfl ?_
        refine ⟨by rw [Hgm.out]; rfl, ?_⟩
        repeat (refine Below.setCell ?_ Hle0.out _)
        exact HBw.out
      | false =>
        rw [hr] at heq
        have he : (s, g) ≠ (t, u) := fun e => by rw [← e, eqB_self] at hr; cases hr
        rw [getM_cons_ne he] at hno
        have HP := Lib.hid hpc; have Hbel := Lib.hid hbel; have Hbf := Lib.hid hbf; have Hs3 := Lib.hid hs3; have Hw3 := Lib.hid hw3; have Hno := Lib.hid hno
        clear hpc hbel hbf hs3 hw3 hno
        clear hpc0 hx hb3 hzr hyr hz3 hzr3 hyr3 hr he
        go_wp2_with (first | (refine wpList_load_flat rfl 33 (.tmp 11) rfl _ rfl [.int .i64 t, .int .i64 u, .int .i64 K, .int .i64 a0, .int .i64 a1, .int .i64 a2, .int .i64 a3, .int .i64 a4, .int .i64 a5, .int .i64 a6, .int .i64 a7] _ Try.underlying33 rfl (by kernel_rfl) HP.out ?_) | (refine wpList_store_new rfl 33 (.tmp 6) (.tmp 12) rfl wr (ints zero11) [.int .i64 t, .int .i64 u, .int .i64 K, .int .i64 a0, .int .i64 a1, .int .i64 a2, .int .i64 a3, .int .i64 a4, .int .i64 a5, .int .i64 a6, .int .i64 a7] 33 rfl rfl rfl (sz_Row ((t, u), (K, a0, a1, a2, a3, a4, a5, a6, a7))) HO.out ?_; rw [show ([.int .i64 t, .int .i64 u, .int .i64 K, .int .i64 a0, .int .i64 a1, .int .i64 a2, .int .i64 a3, .int .i64 a4, .int .i64 a5, .int .i64 a6, .int .i64 a7] : List Value).toArray = #[.int .i64 t, .int .i64 u, .int .i64 K, .int .i64 a0, .int .i64 a1, .int .i64 a2, .int .i64 a3, .int .i64 a4, .int .i64 a5, .int .i64 a6, .int .i64 a7] from rfl, Hw3.out]; clear HO))
        go_roundw
        case rel => exact ⟨n + 1, by omega, by go_num, Hno.out, Hbf.out⟩
        case measure => simp [intOf]; omega
    · obtain rfl : n = l.length := by omega
      rw [List.drop_length, getM_nil] at hno
      have Hno := Lib.hid hno
      have hBw := HB1.out.trans (hbel.mono HB1.out.size)
      have HBw := Lib.hid hBw; have Hle0 := Lib.hid hle0; have Hyr := Lib.hid hyr
      clear hBw hle0 hyr
      clear hzr hno
      go_wp2_with fail
      refine (rNone_any _).mono ?_
      rintro e w5 ⟨rfl, hb5⟩
      rw [show beV noneB = .agg #[.int .i64 (-1), .int .i64 0, .int .i64 0, .int .i64 0, .int .i64 0, .int .i64 0, .int .i64 0, .int .i64 0, .int .i64 0] from rfl]
      have hy5 := (Mod.ofBelow hb5).keep Hyr.out (by simp)
      have y0 := blk_cell hy5 0
      have y1 := blk_cell hy5 1
      have y2 := blk_cell hy5 2
      have y3 := blk_cell hy5 3
      have y4 := blk_cell hy5 4
      have y5 := blk_cell hy5 5
      have y6 := blk_cell hy5 6
      have y7 := blk_cell hy5 7
      have y8 := blk_cell hy5 8
      simp only [List.getElem?_toArray, List.getElem?_cons_zero, List.getElem?_cons_succ] at y0 y1 y2 y3 y4 y5 y6 y7 y8
      have yl := blk_lt hy5
      have f0 := blk_free hy5 0
      have f1 := blk_free hy5 1
      have f2 := blk_free hy5 2
      have f3 := blk_free hy5 3
      have f4 := blk_free hy5 4
      have f5 := blk_free hy5 5
      have f6 := blk_free hy5 6
      have f7 := blk_free hy5 7
      have f8 := blk_free hy5 8
      have hB5 := HBw.out.trans (hb5.mono HBw.out.size)
      have HB5 := Lib.hid hB5
      clear hB5
      clear hb5 hy5 hbel
      go_wp2
      refine bodyPost_ret (v := .agg #[.int .i64 (-1), .int .i64 0, .int .i64 0, .int .i64 0, .int .i64 0, .int .i64 0, .int .i64 0, .int .i64 0, .int .i64 0]) (by unfold results; try go_simp) rfl ?_
      refine ⟨by rw [← Hno.out]; rfl, ?_⟩
      repeat (refine Below.setCell ?_ Hle0.out _)
      exact HB5.out
end Go.Proofs.Ytfbcdblgfhekpaa
