import Derived.Test.YtkcpmoinpdojjaaFamilyTellsJ35
import Derived.Lib.SmallJoins
import Derived.Test.YtkcpmoinpdojjaaFamilyTellsJ27
import Derived.Test.YtkcpmoinpdojjaaRows
/- The law FamilyTells returns true for every input. (printed by mk_ftells.py) -/
namespace Go.Proofs.Ytkcpmoinpdojjaa
open Go Go.RowKit Go.ChangeShapes Go.WideShapes Go.ChangeAt

attribute [local go_sem] AllFrom.cons_eq AllFrom.nil_eq putF_nil putF_cons wantedL_none wantedL_some OpGoalT OpGoalV OpGoalQ OpGoalA OpGoalK YieldsR preF_nil preF_cons

/-- append onto a row: the old row may still be read. -/
theorem append_keeps {V : World} {vB : Value} {B : List Bd} {x : Bd} {ad : Addr} {c : Nat} (ty : TypeId) (hown : V.ownsRow 0 90 4 vB B.length (B.flatMap bdC)) (hB : B.length ≤ 1200000000000) (hc : ∀ j u, (bdC x)[j]? = some u → V.cell? (ad.add j) = some u) :
    ∃ v' V', (Builtin.append_ #[70, 70] ty #[vB, .slice (some ad) 1 c]).run Try.prog V = .ok v' V' ∧ V'.ownsRow 0 90 4 v' (B ++ [x]).length ((B ++ [x]).flatMap bdC) ∧ V'.ownsRow 0 90 4 vB B.length (B.flatMap bdC) ∧ V.grownBy V' vB.ownBlock := by
  obtain ⟨i0, hi, hz0, hz1, hz2⟩ := info_parts inf_Bond
  obtain ⟨v', V', hr, h1, h2, -, -⟩ := run_append_own_at (P := Try.prog) V 0 70 ty 90 i0 _ 4 32 Try.underlying70 hi hz0 hz1 hz2 rfl (by omega) vB B.length _ hown ad 1 c (bdC x) (by rw [bdC_len]) hc (bdC_one x) (by unfold maxLen; omega) (by omega) (Nat.zero_le _)
  refine ⟨v', V', hr, by rw [List.length_append, List.flatMap_append]; simpa using h1, ?_, h2⟩
  obtain ⟨hx, ⟨rfl, h3⟩ | ⟨g, cap, cur, rfl, hbg, hg, hnc, hcm, hcs, htake⟩⟩ := id hown
  · exact ⟨hx, .inl ⟨rfl, h3⟩⟩
  · by_cases hroom : B.length + 1 ≤ cap
    · have hfit : B.length * i0.size + (bdC x).length ≤ cur.size := by
        rw [hcs, bdC_len, hz1]
        have := Nat.mul_le_mul_right 4 hroom
        omega
      have hr2 := run_append_room (P := Try.prog) V 70 ty 90 i0 Try.underlying70 hi g B.length cap cur hg ad 1 c (bdC x) (by rw [bdC_len, hz1]) hc (bdC_one x) hroom hfit
      rw [hr] at hr2
      have hv' := (Result.ok.inj hr2).1
      obtain ⟨hx2, ⟨h4, -⟩ | ⟨g2, cap2, cur2, h4, -, hg2, hn2, hcm2, hcs2, htake2⟩⟩ := h1
      · rw [hv'] at h4; cases h4
      · rw [hv'] at h4
        cases h4
        refine ⟨hx, .inr ⟨g, cap, cur2, rfl, hbg, hg2, hnc, hcm, hcs2, ?_⟩⟩
        have h5 := congrArg (List.take (B.length * 4)) htake2
        rw [List.take_take, Nat.min_eq_left (by omega)] at h5
        rw [h5, ← hx, List.take_left]
    · have holds : ∀ j u, (B.flatMap bdC)[j]? = some u → V.cell? ((⟨g, 0, none⟩ : Addr).add j) = some u := hown.cells (g := g) rfl
      have hr2 := run_append_grow (P := Try.prog) V 70 ty 90 i0 _ Try.underlying70 hi hz0 ⟨g, 0, none⟩ B.length cap (B.flatMap bdC) (by rw [hx, hz1]) holds ad 1 c (bdC x) (by rw [bdC_len, hz1]) hc (by omega) (by omega) (growslice_fits (by omega) (by rw [hz2]; omega))
      rw [hr] at hr2
      have hV' := (Result.ok.inj hr2).2
      have hk : V'.heap[g]? = some (.cells cur 90 (0, 0)) := by
        rw [hV']
        exact (heap_alloc_old V.drew _ (blk_lt hg)).trans hg
      exact ⟨hx, .inr ⟨g, cap, cur, rfl, hbg, hk, hnc, hcm, hcs, htake⟩⟩

theorem eqHd_rows (l : List Hd) (v v' : Value) (w : World) (hl : l.length ≤ 9223372036854775807) (h : w.ownsRow 0 45 2 v l.length (l.flatMap handleC)) (h' : w.ownsRow 0 45 2 v' l.length (l.flatMap handleC)) :
    Calls Try.prog 30 #[v, v'] w fun e w' => e = .returned (.bool true) ∧ Below w.heap.size w w' := by
  obtain ⟨A, c, rfl, hc, hA⟩ := own_lies h
  obtain ⟨A', c', rfl, hc', hA'⟩ := own_lies h'
  have := eqHandle_any A c A' c' l l w (by omega) (by omega) hA hA'
  rw [eqB_self] at this
  exact this
/-- The reference's bonds with one more behind them: the pair stays. -/
theorem pf_append {Lo : Nat} {Z : List Nat} {f q : Nat} {B : List Bd} {w : World} (h : PF (.slice none 0 0) (.slice none 0 0) (.slice none 0 0) Lo Z f q B B w) (hB : B.length ≤ 1200000000000) :
    ∃ vB, q < w.heap.size ∧ w.cell? ⟨q, 3, none⟩ = some vB ∧ (∃ A cap, vB = .slice A B.length cap) ∧ ∀ (V : World) (x : Bd) (ad : Addr) (c : Nat) (ty : TypeId), Below w.heap.size w V → (∀ j u, (bdC x)[j]? = some u → V.cell? (ad.add j) = some u) →
      ∃ v' V', (Builtin.append_ #[70, 70] ty #[vB, .slice (some ad) 1 c]).run Try.prog V = .ok v' V' ∧ V'.ownsRow 0 90 4 v' (B ++ [x]).length ((B ++ [x]).flatMap bdC) ∧ PF (.slice none 0 0) (.slice none 0 0) (.slice none 0 0) Lo Z f q B B V' ∧ Below Lo V V' ∧ KeepZ Z V V' := by
  obtain ⟨F, G, ⟨a, ⟨vB, b1, b2, rfl, b4⟩, d, af, bf, lo, zl⟩⟩ := h
  have e0 := blk_cell b1 3
  simp only [List.getElem?_toArray, List.getElem?_cons_zero, List.getElem?_cons_succ] at e0
  have hsh : ∃ A cap, vB = .slice A B.length cap := by
    obtain ⟨A, cap, e, -, -⟩ := row_slice b2
    exact ⟨A, cap, e⟩
  refine ⟨vB, blk_lt b1, e0, hsh, fun V x ad c ty hV hc => ?_⟩
  have hs := hV.size
  obtain ⟨v', V', hr, h1, h2, h3⟩ := append_keeps ty (row_mod b2 (Mod.ofBelow hV) (by simp)) hB hc
  have hm : Mod vB.ownBlock.toList V V' := grown_mod h3
  have hF : RepF V f B F := RepF.below a hV
  refine ⟨v', V', hr, h1, ⟨F, q :: vB.ownBlock.toList, ⟨RepF.mod hF hm (fun y hy e => d y hy (by simp [e])), ⟨vB, hm.keep ((Mod.ofBelow hV).keep b1 (by simp)) b4, h2, rfl, b4⟩, d, af, bf, ?_, ?_⟩⟩, hm.toBelow (fun y hy => (bf y (by simp [hy])).1) (by omega), fun z hz o ho => hm.keep ho (fun e => (bf z (by simp [e])).2 hz)⟩
  · have := hm.size; omega
  · intro z hz; have := zl z hz; have := hm.size; omega

/-- The region that appends a bond to a copy of the bonds (operations 7 and 8). -/
structure ITa (w0 : World) (Lo : Nat) (Z : List Nat) (f q : Nat) (B : List Bd) (x : Bd) (L : Nat → Bool) (σ : Nat → Value) (V : World) : Prop where
  b : L 8 = false → Below w0.heap.size w0 V
  o : L 7 = true → L 8 = false → oneR w0.heap.size (bdC x).toArray 90 (σ 7) V
  a : L 8 = true → PF (.slice none 0 0) (.slice none 0 0) (.slice none 0 0) Lo Z f q B B V ∧ V.ownsRow 0 90 4 (σ 8) (B ++ [x]).length ((B ++ [x]).flatMap bdC)
  g : Went Lo Z w0 V
section
variable {w0 V V' : World} {Lo : Nat} {Z : List Nat} {f q : Nat} {B : List Bd} {x : Bd} {L : Nat → Bool} {σ : Nat → Value}
theorem ITa.start (h : Below w0.heap.size w0 V) (hg : Went Lo Z w0 V) : ITa w0 Lo Z f q B x (fun _ => false) σ V := ⟨fun _ => h, fun e => (by cases e), fun e => (by cases e), hg⟩
theorem ITa.read (h : ITa w0 Lo Z f q B x L σ V) {i : Nat} (h1 : 7 ≠ i ∧ 8 ≠ i) (u : Value) : ITa w0 Lo Z f q B x (upd L i) (updv σ i u) V := by
  obtain ⟨n1, n2⟩ := h1
  have eL : ∀ j, j ≠ i → upd L i j = L j := fun j hj => by unfold upd; simp [hj]
  have es : ∀ j, j ≠ i → updv σ i u j = σ j := fun j hj => by unfold updv; rw [if_neg hj]
  refine ⟨?_, ?_, ?_, h.g⟩
  · rw [eL 8 n2]; exact h.b
  · rw [eL 7 n1, eL 8 n2, es 7 n1]; exact h.o
  · rw [eL 8 n2, es 8 n2]; exact h.a
theorem ITa.oned (h : ITa w0 Lo Z f q B x L σ V) (h8 : L 8 = false) (hz : Went Lo Z V (V.alloc (.cells (bdC x).toArray 90))) : ITa w0 Lo Z f q B x (upd L 7) (updv σ 7 (.slice (some ⟨V.heap.size, 0, none⟩) 1 1)) (V.alloc (.cells (bdC x).toArray 90)) := by
  have eL : upd L 7 8 = L 8 := by unfold upd; simp
  have hs := (h.b h8).size
  refine ⟨fun _ => (h.b h8).alloc hs _, fun _ _ => oneR_new hs, ?_, h.g.trans hz⟩
  rw [eL, h8]; intro e; cases e
theorem ITa.apped (h : ITa w0 Lo Z f q B x L σ V) {u : Value} (hp : PF (.slice none 0 0) (.slice none 0 0) (.slice none 0 0) Lo Z f q B B V') (hv : V'.ownsRow 0 90 4 u (B ++ [x]).length ((B ++ [x]).flatMap bdC)) (hb : Below Lo V V') (hk : KeepZ Z V V') : ITa w0 Lo Z f q B x (upd L 8) (updv σ 8 u) V' := by
  refine ⟨fun e => by simp [upd] at e, fun _ e => by simp [upd] at e, fun _ => ⟨hp, ?_⟩, h.g.trans ⟨hb, hk⟩⟩
  simpa [updv] using hv
end
/-- What the comparisons know: children of both, and who is under in the family. -/
structure ITc (w0 : World) (ks us : List Hd) (L : Nat → Bool) (σ : Nat → Value) (V : World) : Prop where
  b : Below w0.heap.size w0 V
  k2 : L 2 = true → V.ownsRow 0 45 2 (σ 2) ks.length (ks.flatMap handleC)
  k5 : L 5 = true → V.ownsRow 0 45 2 (σ 5) ks.length (ks.flatMap handleC)
  u11 : L 11 = true → V.ownsRow 0 45 2 (σ 11) us.length (us.flatMap handleC)
section
variable {w0 V V' : World} {ks us : List Hd} {L : Nat → Bool} {σ : Nat → Value}
theorem ITc.start (h : Below w0.heap.size w0 V) : ITc w0 ks us (fun _ => false) σ V := ⟨h, fun e => (by cases e), fun e => (by cases e), fun e => (by cases e)⟩
theorem ITc.turn (h : ITc w0 ks us L σ V) (hb : Below V.heap.size V V') : ITc w0 ks us L σ V' := by
  refine ⟨h.b.trans (hb.mono h.b.size), fun e => row_mod (h.k2 e) (Mod.ofBelow hb) (by simp), fun e => row_mod (h.k5 e) (Mod.ofBelow hb) (by simp), fun e => row_mod (h.u11 e) (Mod.ofBelow hb) (by simp)⟩
theorem ITc.read (h : ITc w0 ks us L σ V) {i : Nat} (h1 : 2 ≠ i ∧ 5 ≠ i ∧ 11 ≠ i) (u : Value) : ITc w0 ks us (upd L i) (updv σ i u) V := by
  obtain ⟨n1, n2, n3⟩ := h1
  have eL : ∀ j, j ≠ i → upd L i j = L j := fun j hj => by unfold upd; simp [hj]
  have es : ∀ j, j ≠ i → updv σ i u j = σ j := fun j hj => by unfold updv; rw [if_neg hj]
  refine ⟨h.b, ?_, ?_, ?_⟩
  · rw [eL 2 n1, es 2 n1]; exact h.k2
  · rw [eL 5 n2, es 5 n2]; exact h.k5
  · rw [eL 11 n3, es 11 n3]; exact h.u11
theorem ITc.got2 (h : ITc w0 ks us L σ V) {u : Value} (hv : V.ownsRow 0 45 2 u ks.length (ks.flatMap handleC)) : ITc w0 ks us (upd L 2) (updv σ 2 u) V := by
  have eL : ∀ j, j ≠ 2 → upd L 2 j = L j := fun j hj => by unfold upd; simp [hj]
  have es : ∀ j, j ≠ 2 → updv σ 2 u j = σ j := fun j hj => by unfold updv; rw [if_neg hj]
  refine ⟨h.b, fun _ => by simpa [updv] using hv, ?_, ?_⟩
  · rw [eL 5 (by decide), es 5 (by decide)]; exact h.k5
  · rw [eL 11 (by decide), es 11 (by decide)]; exact h.u11
theorem ITc.got5 (h : ITc w0 ks us L σ V) {u : Value} (hv : V.ownsRow 0 45 2 u ks.length (ks.flatMap handleC)) : ITc w0 ks us (upd L 5) (updv σ 5 u) V := by
  have eL : ∀ j, j ≠ 5 → upd L 5 j = L j := fun j hj => by unfold upd; simp [hj]
  have es : ∀ j, j ≠ 5 → updv σ 5 u j = σ j := fun j hj => by unfold updv; rw [if_neg hj]
  refine ⟨h.b, ?_, fun _ => by simpa [updv] using hv, ?_⟩
  · rw [eL 2 (by decide), es 2 (by decide)]; exact h.k2
  · rw [eL 11 (by decide), es 11 (by decide)]; exact h.u11
theorem ITc.got11 (h : ITc w0 ks us L σ V) {u : Value} (hv : V.ownsRow 0 45 2 u us.length (us.flatMap handleC)) : ITc w0 ks us (upd L 11) (updv σ 11 u) V := by
  have eL : ∀ j, j ≠ 11 → upd L 11 j = L j := fun j hj => by unfold upd; simp [hj]
  have es : ∀ j, j ≠ 11 → updv σ 11 u j = σ j := fun j hj => by unfold updv; rw [if_neg hj]
  refine ⟨h.b, ?_, ?_, fun _ => by simpa [updv] using hv⟩
  · rw [eL 2 (by decide), es 2 (by decide)]; exact h.k2
  · rw [eL 5 (by decide), es 5 (by decide)]; exact h.k5
end

set_option maxRecDepth 100000 in
set_option maxHeartbeats 8000000 in
theorem familyTells_ok (A : Option Addr) (c : Nat) (l : List Ov) (hs hg : Int) (w : World) (hl : l.length * 128 ≤ 140737488351232) (hA : Lies w w.heap.size A (l.flatMap opC)) (hR : ∀ x ∈ l, HdR x.2.2.1 ∧ HdR x.2.2.2.1) :
    Calls Try.prog 7 #[.slice A l.length c, .agg #[.int .i64 hs, .int .i64 hg]] w fun e w' => e = .returned (.bool true) ∧ Below w.heap.size w w' := by
  obtain ⟨w0, hw0, hb0, hz0, hs0⟩ := box1 w (.cells #[.int .i64 hs, .int .i64 hg] 45)
  have H1 := Lib.hid (famNew_any w0)
  have hl2 : l.length ≤ 1200000000000 := by omega
  have HRs := Lib.hid hR
  have HB0 := Lib.hid hb0; have HZ0 := Lib.hid hz0; have HS0 := Lib.hid hs0; have HA := Lib.hid hA
  clear hb0 hz0 hs0 hA
  clear hl hR
  go_enter Try.func7, Try.ntmps7
  go_wp2_with fail
  clear hw0
  refine H1.out.mono ?_
  rintro e w1 ⟨f, F, rfl, hW, hF, hb⟩
  obtain ⟨w2, hw2⟩ : ∃ w2, w1.alloc (.cells #[.slice none 0 0, .slice none 0 0, .slice none 0 0, .slice none 0 0] 72) = w2 := ⟨_, rfl⟩
  obtain ⟨hP, hB⟩ := pf_start hW hF hb hw2
  have HP0 := Lib.hid hP; have HBB := Lib.hid hB
  clear hP hB
  clear hW hF hb H1
  go_wp2_with fail
  clear hw2
  generalize w1.heap.size = q at *
  go_loopw [20] (fun i wr => ∃ (k : Nat) (B : List Bd), k ≤ l.length ∧ B.length ≤ k ∧ i = .int .i64 k ∧ PF (.slice none 0 0) (.slice none 0 0) (.slice none 0 0) w0.heap.size [] f q B B wr ∧ Below w0.heap.size w0 wr) (fun i _ => l.length - (intOf i).toNat)
  case atStart => exact ⟨0, [], by omega, by simp, rfl, HP0.out, HBB.out⟩
  case round =>
    obtain ⟨k, B, hk, hBk, rfl, hP, hB⟩ := hrel
    clear HP0 HBB
    have hsz := hB.size
    have hBw := HB0.out.trans (hB.mono HB0.out.size)
    by_cases hlt : k < l.length
    · obtain ⟨ab, ao, rfl, hal, hc⟩ := HA.out.rec_at opC_len (by omega) hlt
      have hq : ∀ j u, (opC l[k])[j]? = some u → wr.cell? ((⟨ab, ao + k * 16, none⟩ : Addr).add j) = some u := fun j u hu => (hBw.cell (p := (⟨ab, ao + k * 16, none⟩ : Addr).add j) (by rw [add_block]; exact hal)).trans (by first | exact hc j u hu | (have := hc j u hu; rw [Addr.add_mid]; exact this))
      have hx := HRs.out l[k] (List.getElem_mem hlt)
      generalize l[k] = x at *
      obtain ⟨d, ⟨K, a0, a1, a2, a3, a4, a5, a6, a7⟩, ⟨s, g⟩, ⟨ts, tg⟩, kd, n⟩ := x
      simp only at hx
      obtain ⟨w3, hw3⟩ : ∃ w3, w3 = wr.alloc (.cells #[.int .i64 d, .int .i64 K, .int .i64 a0, .int .i64 a1, .int .i64 a2, .int .i64 a3, .int .i64 a4, .int .i64 a5, .int .i64 a6, .int .i64 a7, .int .i64 s, .int .i64 g, .int .i64 ts, .int .i64 tg, .int .i64 kd, .int .i64 n] 74) := ⟨_, rfl⟩
      have hk3 : w3.heap[wr.heap.size]? = some (.cells #[.int .i64 d, .int .i64 K, .int .i64 a0, .int .i64 a1, .int .i64 a2, .int .i64 a3, .int .i64 a4, .int .i64 a5, .int .i64 a6, .int .i64 a7, .int .i64 s, .int .i64 g, .int .i64 ts, .int .i64 tg, .int .i64 kd, .int .i64 n] 74 (0, 0)) := by rw [hw3]; exact heap_alloc_new _ _
      have hb3 : Below wr.heap.size wr w3 := by rw [hw3]; exact (Below.refl _ _).alloc (Nat.le_refl _) _
      have hP3 := pf_below hP hb3
      have hB3 := hB.trans hP3.2.1
      have HP := Lib.hid hq; have HO := Lib.hid (opC_one (d, (K, a0, a1, a2, a3, a4, a5, a6, a7), (s, g), (ts, tg), kd, n)); have HW3 := Lib.hid hw3
      have H7 := Lib.hid (related_any hP3.1 (by omega) d K a0 a1 a2 a3 a4 a5 a6 a7 s g ts tg kd n hx.1 hx.2)
      have hki : (k : Int) < (l.length : Int) := by omega
      have c0 := blk_cell hk3 0
      have c1 := blk_cell hk3 1
      have c2 := blk_cell hk3 2
      have c3 := blk_cell hk3 3
      have c4 := blk_cell hk3 4
      have c5 := blk_cell hk3 5
      have c6 := blk_cell hk3 6
      have c7 := blk_cell hk3 7
      have c8 := blk_cell hk3 8
      have c9 := blk_cell hk3 9
      have c10 := blk_cell hk3 10
      have c11 := blk_cell hk3 11
      have c12 := blk_cell hk3 12
      have c13 := blk_cell hk3 13
      have c14 := blk_cell hk3 14
      have c15 := blk_cell hk3 15
      simp only [List.getElem?_toArray, List.getElem?_cons_zero, List.getElem?_cons_succ] at c0 c1 c2 c3 c4 c5 c6 c7 c8 c9 c10 c11 c12 c13 c14 c15
      have cl := blk_lt hk3
      have HB3 := Lib.hid hB3; have HBk := Lib.hid hBk
      clear hB3 hBk
      clear hq hc hw3 hP hB hP3 hb3 hk3 hBw hx
      go_wp2_with (first | (refine wpList_load_flat rfl 74 (.tmp 22) rfl _ rfl (opC (d, (K, a0, a1, a2, a3, a4, a5, a6, a7), (s, g), (ts, tg), kd, n)) _ Try.underlying74 rfl (sz_Op _) HP.out ?_) | (refine wpList_store_new rfl 74 (.tmp 8) (.tmp 23) rfl wr (ints [0, 0, 0, 0, 0, 0, 0, 0, 0, 0, 0, 0, 0, 0, 0, 0]) (opC (d, (K, a0, a1, a2, a3, a4, a5, a6, a7), (s, g), (ts, tg), kd, n)) 74 rfl rfl rfl (sz_Op _) HO.out ?_; rw [show (opC (d, (K, a0, a1, a2, a3, a4, a5, a6, a7), (s, g), (ts, tg), kd, n)).toArray = #[.int .i64 d, .int .i64 K, .int .i64 a0, .int .i64 a1, .int .i64 a2, .int .i64 a3, .int .i64 a4, .int .i64 a5, .int .i64 a6, .int .i64 a7, .int .i64 s, .int .i64 g, .int .i64 ts, .int .i64 tg, .int .i64 kd, .int .i64 n] from rfl, ← HW3.out]; clear HW3))
      clear c0 c1 c2 c3 c4 c5 c6 c7 c8 c9 c10 c11 c12 c13 c14 c15 cl
      refine H7.out.mono ?_
      rintro e w4 ⟨rfl, ⟨B1, hB1, h4⟩, hb4, -⟩
      have hB4 := HB3.out.trans hb4
      have HB4 := Lib.hid hB4; have H4 := Lib.hid h4; have HLB1 := Lib.hid hB1
      clear hB4 h4 hB1
      clear hb4
      go_wp2
      go_roundw
      case rel => exact ⟨k + 1, B1, by omega, by have := HLB1.out; have := HBk.out; omega, by go_num, H4.out, HB4.out⟩
      case measure => simp [intOf]; omega
      all_goals exact undef
    · obtain rfl : k = l.length := by omega
      have hB12 : B.length ≤ 1200000000000 := by omega
      have hzr := (Mod.ofBelow hB).keep HZ0.out (by simp)
      obtain ⟨vB, hql, hcq, hsh, hap⟩ := pf_append hP hB12
      obtain ⟨A9, cap9, rfl⟩ := hsh
      have hlo := hP.lo
      have hO := hP.ok
      have HBw := Lib.hid hBw; have HB := Lib.hid hB; have HP := Lib.hid hP; have HAP := Lib.hid hap; have Hzr := Lib.hid hzr; have HCQ := Lib.hid hcq; have HQL := Lib.hid hql; have HLB := Lib.hid hB12; have Hlo := Lib.hid hlo; have HO := Lib.hid hO
      clear hBw hB hP hap hzr hcq hql hB12 hlo hO
      go_wp2_with fail
      refine wp_planK [7, 8] 11 [0] [some 29, some 30, some 31, some 32, some 33, some 34, some 35, some 36, some 37, some 38, some 39] [[], [0], [0, 1], [0, 1, 2], [], [], [4, 5], [4, 5, 6], [0, 1, 2, 3, 4, 5, 6, 7], [0, 1, 2, 3, 4, 5, 6, 7, 8], []] [0, 1, 2, 3, 4, 5, 6, 7, 8, 9, 10] (fun Lf σ V => ITa wr w0.heap.size [] f q B ((hs, hg), (hs, hg)) Lf σ V) mixed rfl (by kernel_rfl) (by decide) (by decide) (by decide) (ITa.start below_drew ⟨below_drew.mono Hlo.out, fun z hz => by cases hz⟩) rfl ?_
      iterate 11 apply Exists.intro
      refine ⟨rfl, ?_, ?_⟩
      · simp only [List.take_succ_cons, List.take_zero, AllFrom.cons_eq, AllFrom.nil_eq, OpGoalK]
        refine ⟨?_, ?_, ?_, ?_, ?_, ?_, ?_, ?_, ?_, ?_, ?_, trivial⟩
        all_goals (intro L' σ V h1 h2 h3 hI hp; have HA1 := Lib.hid h1; have HA2 := Lib.hid h2; have HA3 := Lib.hid h3; clear h1 h2 h3; (try simp only [List.getD_cons_zero, List.getD_cons_succ, preK_cons, preK_nil] at hp); (try simp only [List.mem_cons, List.not_mem_nil, or_false, eq_self, Nat.reduceEqDiff, Nat.reduceAdd, Nat.zero_add, false_or, true_or, true_and, and_true] at hp); (first | (have hq : True := hp; clear hq hp) | skip); have HI := Lib.hid hI; clear hI)
        all_goals (
          have hzV2 := (HI.out.g.b.block w.heap.size (by have := HS0.out; omega)).trans Hzr.out
          have d0 := blk_cell hzV2 0
          have d1 := blk_cell hzV2 1
          simp only [List.getElem?_toArray, List.getElem?_cons_zero, List.getElem?_cons_succ] at d0 d1
          have dl := blk_lt hzV2
          clear hzV2)
        · (go_simp; exact ⟨.inr rfl, HI.out.read (by decide) _⟩)
        · (go_simp; exact ⟨.inr rfl, HI.out.read (by decide) _⟩)
        · (go_simp; exact ⟨.inr rfl, HI.out.read (by decide) _⟩)
        · have hbV := HI.out.b (HA3.out 8 (by decide))
          have hc3 := (hbV.cell (p := ⟨q, 3, none⟩) HQL.out).trans HCQ.out
          have hql3 := Nat.lt_of_lt_of_le HQL.out hbV.size
          clear hbV
          go_simp
          exact ⟨.inr rfl, HI.out.read (by decide) _⟩
        · (go_simp; exact ⟨.inr rfl, HI.out.read (by decide) _⟩)
        · (go_simp; exact ⟨.inr rfl, HI.out.read (by decide) _⟩)
        · (go_simp; exact ⟨.inr rfl, HI.out.read (by decide) _⟩)
        · go_simp
          exact PostK.mk (c := undef) (.inl (by decide)) (HI.out.oned (HA3.out 8 (by decide)) ⟨(Below.refl _ _).alloc (Nat.le_trans Hlo.out (HI.out.b (HA3.out 8 (by decide))).size) _, fun z hz => by cases hz⟩)
        · simp only [wantedL_none, if_true]
          obtain ⟨ad, hse, hcc⟩ := oneR_cells (HI.out.o (HA2.out 7 (by decide)) HA1.out) (show (bdC ((hs, hg), (hs, hg))).toArray.toList = bdC ((hs, hg), (hs, hg)) from rfl)
          obtain ⟨v', V', hr, hv, hp, hb, hk⟩ := HAP.out V ((hs, hg), (hs, hg)) ad 1 70 (HI.out.b HA1.out) hcc
          refine yr_appVB (.tmp 32) (.tmp 36) 70 rfl (by go_simp) (by go_simp) hr (PostK.mk (c := undef) (.inl (by decide)) (HI.out.apped hp hv hb hk))
        · have hsl := row_slice (HI.out.a (HA2.out 8 (by decide))).2
          have hs1 := Classical.choose_spec hsl
          generalize Classical.choose hsl = A2 at hs1
          have hs2 := Classical.choose_spec hs1
          generalize Classical.choose hs1 = cap2 at hs2
          have h8 := hs2.1
          rw [List.length_append, List.length_singleton] at h8
          clear hs1 hs2 hsl
          go_simp
          exact ⟨.inr rfl, HI.out.read (by decide) _⟩
        · (go_simp; exact ⟨.inr rfl, HI.out.read (by decide) _⟩)
      · intro L' σ V h1 hI hp
        have hPV := (hI.a (h1 8 (by decide))).1
        have hrV := (hI.a (h1 8 (by decide))).2
        have hgV := hI.g
        clear h1 hI
        have hsl := row_slice hrV
        have hs1 := Classical.choose_spec hsl
        generalize Classical.choose hsl = A2 at hs1
        have hs2 := Classical.choose_spec hs1
        generalize Classical.choose hs1 = cap2 at hs2
        have hv8 := hs2.1
        simp only [preK_cons, preK_nil, List.getD_cons_zero, List.getD_cons_succ] at hp; simp only [List.mem_cons, List.not_mem_nil, or_false, eq_self, Nat.reduceEqDiff, false_or, true_or, true_and, and_true] at hp
        have hBV : Below w0.heap.size w0 V := HB.out.trans hgV.b
        have HPV := Lib.hid hPV; have HBV := Lib.hid hBV
        clear hPV hBV
        clear hsl hs1 hs2 hgV
        simp only [List.drop_succ_cons, List.drop_zero]
        go_simp
        clear hp
        generalize σ 8 = v8 at *
        subst hv8
        have hL2 : (B ++ [((hs, hg), (hs, hg))]).length = B.length + 1 := by rw [List.length_append, List.length_singleton]
        rw [hL2] at hrV
        generalize B ++ [((hs, hg), (hs, hg))] = L2 at *
        have HRV := Lib.hid hrV; have HL2 := Lib.hid hL2
        clear hrV hL2
        have hBl := HLB.out
        go_wp2_with fail
        refine ⟨rfl, ?_⟩
        go_wp2_with fail
        go_loopw [39] (fun i wq => ∃ n : Nat, n ≤ B.length + 1 ∧ i = .int .i64 n ∧ Below V.heap.size V wq) (fun i _ => B.length + 1 - (intOf i).toNat)
        case atStart => exact ⟨0, by omega, rfl, Below.refl _ _⟩
        case round =>
          obtain ⟨n, hn, rfl, hbq⟩ := hrel
          by_cases hlt2 : n < B.length + 1
          · have hro := row_mod HRV.out (Mod.ofBelow hbq) (by simp)
            obtain ⟨g0, cap0, cur0, hv, -, -, -⟩ := row_some hro (by omega)
            cases hv
            rw [← HL2.out] at hro
            have hltL : n < L2.length := by rw [HL2.out]; exact hlt2
            have hpc := row_piece bdC_len hro hltL 0 (bdC L2[n]) (fun j u hu => by rw [Nat.zero_add]; exact hu)
            have hg0 := row_lt hro g0 rfl
            have hni : (n : Int) < (B.length : Int) + 1 := by omega
            generalize L2[n] = y at *
            obtain ⟨⟨b0, b1⟩, b2, b3⟩ := y
            obtain ⟨w5, hw5, hb5, hz5, hs5⟩ := box1 wr (.cells #[.int .i64 b0, .int .i64 b1, .int .i64 b2, .int .i64 b3] 90)
            have HO2 := Lib.hid (bdC_one ((b0, b1), (b2, b3)))
            obtain ⟨w6, hw6, hb6, hz6, hs6⟩ := box1 w5 (.cells #[.int .i64 b0, .int .i64 b1, .int .i64 b2, .int .i64 b3] 45)
            have hbq6 := hbq.trans ((hb5.trans (hb6.mono hb5.size)).mono hbq.size)
            have r0 := blk_cell hz5 0
            have r1 := blk_cell hz5 1
            have r2 := blk_cell hz5 2
            have r3 := blk_cell hz5 3
            simp only [List.getElem?_toArray, List.getElem?_cons_zero, List.getElem?_cons_succ] at r0 r1 r2 r3
            have rl := blk_lt hz5
            have HPC := Lib.hid hpc; have HW5 := Lib.hid hw5; have HS5 := Lib.hid hs5; have HS6 := Lib.hid hs6; have HZ6 := Lib.hid hz6; have HBQ6 := Lib.hid hbq6
            clear hpc hw5 hs5 hs6 hz6 hbq6
            clear hro hbq hb5 hb6 hz5 hltL
            go_wp2_with (first | (refine wpList_load_flat rfl 90 (.tmp 41) rfl _ rfl [.int .i64 b0, .int .i64 b1, .int .i64 b2, .int .i64 b3] _ Try.underlying90 rfl (by kernel_rfl) HPC.out ?_) | (refine wpList_store_new rfl 90 (.tmp 10) (.tmp 42) rfl wr (ints [0, 0, 0, 0]) [.int .i64 b0, .int .i64 b1, .int .i64 b2, .int .i64 b3] 90 rfl rfl rfl (by kernel_rfl) HO2.out ?_; rw [show ([.int .i64 b0, .int .i64 b1, .int .i64 b2, .int .i64 b3] : List Value).toArray = #[.int .i64 b0, .int .i64 b1, .int .i64 b2, .int .i64 b3] from rfl, HW5.out]; clear HO2))
            clear hw6 r0 r1 r2 r3 rl
            go_loopw [49] (fun i _wr => ∃ j : Nat, j ≤ 2 ∧ i = .int .i64 j ∧ Below w6.heap.size w6 _wr) (fun i _ => 2 - (intOf i).toNat)
            case atStart => exact ⟨0, by omega, rfl, Below.refl _ _⟩
            case round =>
              obtain ⟨j, hj, rfl, hb6⟩ := hrel
              have hz6r := (Mod.ofBelow hb6).keep HZ6.out (by simp)
              have hbV6 := HBQ6.out.trans (hb6.mono HBQ6.out.size)
              have hsz5 := HS5.out
              by_cases hlt3 : j < 2
              · obtain ⟨x0, x1, hp0, hp1⟩ : ∃ x0 x1 : Int, wr.cell? ⟨w5.heap.size, j * 2, none⟩ = some (.int .i64 x0) ∧ wr.cell? ⟨w5.heap.size, j * 2 + 1, none⟩ = some (.int .i64 x1) := by
                  have h3 : j = 0 ∨ j = 1 := by omega
                  rcases h3 with rfl | rfl
                  · exact ⟨b0, b1, blk_cell hz6r 0, blk_cell hz6r 1⟩
                  · exact ⟨b2, b3, blk_cell hz6r 2, blk_cell hz6r 3⟩
                have hl6 := blk_lt hz6r
                have hpj : ∀ i u, [Value.int .i64 x0, .int .i64 x1][i]? = some u → wr.cell? ((⟨w5.heap.size, j * 2, none⟩ : Addr).add i) = some u := by
                  intro i u hu
                  rw [Addr.add_mid]
                  match i, hu with
                  | 0, hu => simp at hu; subst hu; exact hp0
                  | 1, hu => simp at hu; subst hu; exact hp1
                have hji : (j : Int) < 2 := by omega
                obtain ⟨w7, hw7, hb7, hz7, hs7⟩ := box1 wr (.cells #[.int .i64 x0, .int .i64 x1] 45)
                have hbV7 := hbV6.trans (hb7.mono hbV6.size)
                have hb67 := hb6.trans (hb7.mono hb6.size)
                have hPw := (pf_below HPV.out hbV7).1
                have hlB := HLB.out
                have hkL := kids_len B (x0, x1)
                have huL := underN_len HO.out (lowN_spec HO.out.ac (x0, x1))
                have hK2 : ∀ U, Below w7.heap.size w7 U → Calls Try.prog 45 #[.pointer (some ⟨f, 0, none⟩), .agg #[.int .i64 x0, .int .i64 x1]] U (MadeRecs 45 2 handleC (kidsB B (x0, x1)) U) := fun U hU => by
                  obtain ⟨F, G, h⟩ := (pf_below hPw hU).1
                  exact fkids_any h.a hlB x0 x1
                have hK5 : ∀ U, Below w7.heap.size w7 U → Calls Try.prog 46 #[.pointer (some ⟨q, 0, none⟩), .agg #[.int .i64 x0, .int .i64 x1]] U (MadeRecs 45 2 handleC (kidsB B (x0, x1)) U) := fun U hU => by
                  obtain ⟨F, G, h⟩ := (pf_below hPw hU).1
                  exact rkids_any h.b hlB x0 x1
                have hU11 : ∀ U, Below w7.heap.size w7 U → Calls Try.prog 47 #[.pointer (some ⟨f, 0, none⟩), .agg #[.int .i64 x0, .int .i64 x1]] U (MadeRecs 45 2 handleC (underN B (lowN B) (x0, x1)) U) := fun U hU => by
                  obtain ⟨F, G, h⟩ := (pf_below hPw hU).1
                  exact funder_any hlB _ x0 x1 U (lowN_spec HO.out.ac _) h.a
                have hU14 : ∀ U, Below w7.heap.size w7 U → Calls Try.prog 48 #[.pointer (some ⟨q, 0, none⟩), .agg #[.int .i64 x0, .int .i64 x1]] U (MadeRecs 45 2 handleC (underN B (lowN B) (x0, x1)) U) := fun U hU => by
                  obtain ⟨F, G, h⟩ := (pf_below hPw hU).1
                  exact runder_any HO.out hlB _ x0 x1 U (lowN_spec HO.out.ac _) h.b
                have hkL' : (kidsB B (x0, x1)).length ≤ 9223372036854775807 := by omega
                have huL' : (underN B (lowN B) (x0, x1)).length ≤ 9223372036854775807 := by omega
                generalize kidsB B (x0, x1) = ks at *
                generalize underN B (lowN B) (x0, x1) = us at *
                have y0 := blk_cell hz7 0
                have y1 := blk_cell hz7 1
                simp only [List.getElem?_toArray, List.getElem?_cons_zero, List.getElem?_cons_succ] at y0 y1
                have yl := blk_lt hz7
                have HPJ := Lib.hid hpj; have HZ7 := Lib.hid hz7; have HB67 := Lib.hid hb67; have HK2 := Lib.hid hK2; have HK5 := Lib.hid hK5; have HU11 := Lib.hid hU11; have HU14 := Lib.hid hU14; have HKL := Lib.hid hkL'; have HUL := Lib.hid huL'
                clear hpj hz7 hb67 hK2 hK5 hU11 hU14 hkL' huL'
                clear hz6r hbV6 hb6 hp0 hp1 hb7 hbV7 hPw hkL huL hsz5 hs7
                go_wp2_with (refine wpList_load_flat rfl 45 (.tmp 51) rfl _ rfl [.int .i64 x0, .int .i64 x1] _ Try.underlying45 rfl (by kernel_rfl) HPJ.out ?_)
                clear hw7 y0 y1 yl
                refine wp_planK [2, 5, 11] 14 [0, 3] [some 53, some 54, some 55, some 56, some 57, some 58, some 59, some 60, some 61, some 62, some 63, some 64, some 65, some 66, some 67, some 68, some 69, some 70] [[], [], [0, 1], [], [], [0, 1, 2, 3, 4], [0, 1, 2, 3, 4, 5], [0, 1, 2, 3, 4, 5, 6], [0, 1, 2, 3, 4, 5, 6, 7], [0, 1, 2, 3, 4, 5, 6, 7, 8], [0, 1, 2, 3, 4, 5, 6, 7, 8], [0, 1, 2, 3, 4, 5, 6, 7, 8, 9, 10], [0, 1, 2, 3, 4, 5, 6, 7, 8], [0, 1, 2, 3, 4, 5, 6, 7, 8], [0, 1, 2, 3, 4, 5, 6, 7, 8, 9, 10, 11, 12, 13], [0, 1, 2, 3, 4, 5, 6, 7, 8, 9, 10, 11, 12, 13, 14], [0, 1, 2, 3, 4, 5, 6, 7, 8, 9, 10, 11, 12, 13, 14, 15], [0, 1, 2, 3, 4, 5, 6, 7, 8, 9, 10, 11, 12, 13, 14, 15, 16]] [0, 1, 2, 3, 4, 5, 6, 7, 8, 9, 10, 11, 12, 13] (fun Lf σ V => ITc w7 ks us Lf σ V) mixed rfl (by kernel_rfl) (by decide) (by decide) (by decide) (ITc.start below_drew) rfl ?_
                iterate 14 apply Exists.intro
                refine ⟨rfl, ?_, ?_⟩
                · simp only [List.take_succ_cons, List.take_zero, AllFrom.cons_eq, AllFrom.nil_eq, OpGoalK]
                  refine ⟨?_, ?_, ?_, ?_, ?_, ?_, ?_, ?_, ?_, ?_, ?_, ?_, ?_, ?_, trivial⟩
                  all_goals (intro L' σ V h1 h2 h3 hI hp; have HA1 := Lib.hid h1; have HA2 := Lib.hid h2; have HA3 := Lib.hid h3; clear h1 h2 h3; (try simp only [List.getD_cons_zero, List.getD_cons_succ, preK_cons, preK_nil] at hp); (try simp only [List.mem_cons, List.not_mem_nil, or_false, eq_self, Nat.reduceEqDiff, Nat.reduceAdd, Nat.zero_add, false_or, true_or, true_and, and_true] at hp); (first | (have hq : True := hp; clear hq hp) | skip); have HI := Lib.hid hI; clear hI)
                  all_goals (
                    have hzV := (Mod.ofBelow HI.out.b).keep HZ7.out (by simp)
                    have y0 := blk_cell hzV 0
                    have y1 := blk_cell hzV 1
                    simp only [List.getElem?_toArray, List.getElem?_cons_zero, List.getElem?_cons_succ] at y0 y1
                    have yl := blk_lt hzV
                    clear hzV)
                  · (go_simp; exact ⟨.inr rfl, HI.out.read (by decide) _⟩)
                  · (go_simp; exact ⟨.inr rfl, HI.out.read (by decide) _⟩)
                  · go_simp
                    refine (HK2.out _ HI.out.b).mono ?_
                    rintro e V' ⟨v, rfl, hv, hb⟩
                    exact ⟨_, rfl, PostK.mk (c := undef) (.inl (by decide)) ((HI.out.turn hb).got2 (row_base hv (fun k _ => Nat.zero_le k)))⟩
                  · (go_simp; exact ⟨.inr rfl, HI.out.read (by decide) _⟩)
                  · (go_simp; exact ⟨.inr rfl, HI.out.read (by decide) _⟩)
                  · go_simp
                    refine (HK5.out _ HI.out.b).mono ?_
                    rintro e V' ⟨v, rfl, hv, hb⟩
                    exact ⟨_, rfl, PostK.mk (c := undef) (.inl (by decide)) ((HI.out.turn hb).got5 (row_base hv (fun k _ => Nat.zero_le k)))⟩
                  · go_simp
                    refine (eqHd_rows ks _ _ _ HKL.out (HI.out.k2 (HA2.out 2 (by decide))) (HI.out.k5 (HA2.out 5 (by decide)))).mono ?_
                    rintro e V' ⟨rfl, hb⟩
                    exact ⟨_, rfl, .inr rfl, (HI.out.turn hb).read (by decide) _⟩
                  · (go_simp; exact ⟨.inr rfl, HI.out.read (by decide) _⟩)
                  · (go_simp; exact ⟨.inr rfl, HI.out.read (by decide) _⟩)
                  · (go_simp; exact ⟨.inr rfl, HI.out.read (by decide) _⟩)
                  · (go_simp; exact ⟨.inr rfl, HI.out.read (by decide) _⟩)
                  · go_simp
                    refine (HU11.out _ HI.out.b).mono ?_
                    rintro e V' ⟨v, rfl, hv, hb⟩
                    exact ⟨_, rfl, PostK.mk (c := undef) (.inl (by decide)) ((HI.out.turn hb).got11 (row_base hv (fun k _ => Nat.zero_le k)))⟩
                  · (go_simp; exact ⟨.inr rfl, HI.out.read (by decide) _⟩)
                  · (go_simp; exact ⟨.inr rfl, HI.out.read (by decide) _⟩)
                · intro L' σ U h1 hI hp
                  have hU := HU14.out U hI.b
                  have h11 := hI.u11 (h1 11 (by decide))
                  have hbU := hI.b
                  clear h1 hI
                  simp only [preK_cons, preK_nil, List.getD_cons_zero, List.getD_cons_succ] at hp; simp only [List.mem_cons, List.not_mem_nil, or_false, eq_self, Nat.reduceEqDiff, false_or, true_or, true_and, and_true] at hp
                  have HU := Lib.hid hU; have H11 := Lib.hid h11; have HbU := Lib.hid hbU
                  clear hU h11 hbU
                  simp only [List.drop_succ_cons, List.drop_zero]
                  go_simp
                  clear hp
                  generalize σ 11 = v11 at *
                  generalize σ 2 = v2 at *
                  generalize σ 5 = v5 at *
                  go_wp2_with fail
                  refine HU.out.mono ?_
                  rintro e U2 ⟨v14, rfl, hv14, hb14⟩
                  have hE := eqHd_rows us v11 v14 U2 HUL.out (row_mod H11.out (Mod.ofBelow hb14) (by simp)) (row_base hv14 (fun k _ => Nat.zero_le k))
                  have hbU2 := HbU.out.trans (hb14.mono HbU.out.size)
                  have HE := Lib.hid hE; have HbU2 := Lib.hid hbU2
                  clear hE hbU2
                  clear hv14 hb14
                  go_wp2_with fail
                  refine HE.out.mono ?_
                  rintro e U3 ⟨rfl, hb3⟩
                  have hbU3 := HB67.out.trans ((HbU2.out.trans (hb3.mono HbU2.out.size)).mono HB67.out.size)
                  have HbU3 := Lib.hid hbU3
                  clear hbU3
                  clear hb3
                  go_wp2_with fail
                  refine ⟨rfl, ?_⟩
                  go_wp2_with fail
                  go_roundw
                  case rel => exact ⟨j + 1, by omega, by go_num, HbU3.out⟩
                  case measure => simp [intOf]; omega
                all_goals exact undef
              · obtain rfl : j = 2 := by omega
                have HbV6 := Lib.hid hbV6
                clear hbV6
                clear hz6r hb6
                go_wp2_with fail
                go_roundw
                case rel => exact ⟨n + 1, by omega, by go_num, HbV6.out⟩
                case measure => simp [intOf]; omega
          · obtain rfl : n = B.length + 1 := by omega
            have hP9 := (pf_below HPV.out hbq).1
            have hB9 := HBV.out.trans (hbq.mono HBV.out.size)
            have h14 := pf_fadopt hP9 0 0 0 0 hd0 hd0
            rw [show adoE B (0, 0) (0, 0) = 8 by unfold adoE; rw [if_pos (Up.refl _)]] at h14
            have HB9 := Lib.hid hB9; have H14 := Lib.hid h14
            clear hB9 h14
            clear hP9 hbq
            go_wp2_with fail
            refine H14.out.mono ?_
            rintro e w5 ⟨rfl, -, hb5, -⟩
            have HB5 := Lib.hid (HB0.out.trans ((HB9.out.trans hb5).mono HB0.out.size))
            clear hb5
            go_wp2
            go_ret
            exact ⟨rfl, HB5.out⟩
      all_goals exact undef

set_option maxRecDepth 100000 in
theorem familyTells_law {H : Type} {enc : TypeId × Value → H} (W : World) (base : Nat) (args : Array Value) (ds : List (DataW H)) (ps : List MemPlace)
    (hval : ∀ (j : Nat) t v, Try.f7.params[j]? = some t → args[j]? = some v → Value.okWide Try.prog W .any base t v)
    (hA : DataW.TrodAll enc Try.prog W 0 (fun _ => true) true Try.f7.params.toList args.toList ds ps) (hlt : ∀ p ∈ ps, p.block < W.heap.size)
    (hsz : ∀ (j : Nat) t d, Try.f7.params.toList[j]? = some t → ds[j]? = some d → ∀ m ∈ d.weights Try.prog t, m ≤ reachBytes) :
    Calls Try.prog 7 args W fun e W' => e = .returned (.bool true) ∧ Below W.heap.size W W' := by
  rw [Try.params7] at hA hval hsz
  obtain ⟨v0, v1, d0, d1, p0, p1, rfl, rfl, rfl, h0, h1⟩ := trodAll_two hA
  obtain ⟨A, n, c, zs, rfl, hnc, hc, hlen, hin, hL⟩ := open_slice_flat Try.underlying63 intCells_Op (k := 16) (by kernel_rfl) (by omega) (hval 0 63 _ rfl rfl) h0 (fun p hp => hlt p (by simp [hp]))
  obtain ⟨l, hl, rfl⟩ := unflat opI 16 opI_mk n zs hlen
  have hs := slice_size Try.underlying63 h0 (hsz 0 63 d0 rfl rfl)
  rw [show Try.prog.bytesOf 74 = 128 by kernel_rfl, reach_val] at hs
  rw [show ints (l.flatMap opI) = l.flatMap opC by unfold ints opC; rw [List.map_flatMap]; rfl] at hL
  subst hl
  obtain ⟨cs, rfl, -⟩ := okWide_struct Try.underlying45 (hval 1 45 v1 rfl rfl)
  obtain ⟨ys, rfl, hy, -⟩ := open_flat intCells_Handle h1
  have hy : ys.length = 2 := hy.trans (by kernel_rfl)
  have hR : ∀ x ∈ l, HdR x.2.2.1 ∧ HdR x.2.2.2.1 := fun x hx => by
    have hz : ∀ z ∈ opI x, InR z := fun z hz => hin z (List.mem_flatMap.2 ⟨x, hx, hz⟩)
    obtain ⟨d, ⟨K, a0, a1, a2, a3, a4, a5, a6, a7⟩, ⟨s, g⟩, ⟨ts, tg⟩, kd, n⟩ := x
    exact ⟨⟨hz s (by simp [opI, btI, hdI]), hz g (by simp [opI, btI, hdI])⟩, ⟨hz ts (by simp [opI, btI, hdI]), hz tg (by simp [opI, btI, hdI])⟩⟩
  match ys, hy with
  | [a, b], _ => exact familyTells_ok A c l a b W hs hL hR

set_option maxRecDepth 100000 in
theorem familyTells_lifted (os : Os) (started : os.Started) (H : Type) (enc : TypeId × Value → H) :
    ReturnsInHanded {} Try.checked os 7 .any (Rows.familyTellsSpec.pre6 enc Try.prog Try.f7 Rows.familyTellsRow.domain false) (Rows.familyTellsSpec.post enc Try.prog Try.f7 false true false false) := by
  refine law_lifted_sized (C := Try.checked) (tb := 4) started own_ laid_ (by kernel_rfl) Try.func7 ?_ rfl rfl (by kernel_rfl) (fun ds h => ?_)
    (ChangeSpec.witness6 (enc := enc) (C := Try.checked) false ⟨#[], #[.slice none 0 0, .agg #[.int .i64 0, .int .i64 0]], []⟩ 8 (by kernel_rfl) (by kernel_rfl) (by kernel_rfl) (by kernel_rfl)) ?_
  · intro t ht
    have : t = 63 ∨ t = 45 := by simpa [Try.params7] using ht
    rcases this with rfl | rfl
    all_goals exact ⟨by kernel_rfl, of_decide_eq_true (by kernel_rfl)⟩
  · match ds, h with
    | [d0, d1], _ => rfl
  · intro W base args ds ps hval hA hlt hsz
    exact familyTells_law W base args ds ps hval hA hlt hsz

set_option maxHeartbeats 4000000 in
theorem familyTells_closed : joinedFacts Try.prog 7 Try.f7 Rows.familyTellsSpec Rows.familyTellsRow = true := by
  unfold joinedFacts
  repeat' (with_reducible refine and_intro ?_ ?_)
  · as_aux_lemma => kernel_rfl
  · exact laid_
  · exact mapsRowed_
  · as_aux_lemma => kernel_rfl
  · as_aux_lemma => kernel_rfl
  · as_aux_lemma => kernel_rfl
  · exact stops_
  · as_aux_lemma => kernel_rfl
  · exact stopKnobs_
  · as_aux_lemma => kernel_rfl
  · as_aux_lemma => kernel_rfl
  · as_aux_lemma => kernel_rfl
  · as_aux_lemma => kernel_rfl
  · as_aux_lemma => kernel_rfl
  · as_aux_lemma => kernel_rfl
  · as_aux_lemma => kernel_rfl
  · as_aux_lemma => kernel_rfl
  · as_aux_lemma => kernel_rfl
  · as_aux_lemma => kernel_rfl
  · as_aux_lemma => kernel_rfl
  · as_aux_lemma => kernel_rfl
  · as_aux_lemma => kernel_rfl
  · exact plainKeys_
  · as_aux_lemma => kernel_rfl
  · exact stopsHeard_
  · exact mayEnter_
  · exact liftsFinal_
  · exact make_
  · as_aux_lemma => kernel_rfl
  · as_aux_lemma => kernel_rfl
  · as_aux_lemma => kernel_rfl
  · as_aux_lemma => kernel_rfl

theorem familyTells_holds : Rows.FamilyTellsSaid :=
  OpenClaim.holds_of_wide 7 Try.f7 rfl rfl rfl rfl rfl rfl rfl ⟨rfl, rfl, rfl, rfl, rfl⟩ rfl rfl rfl rfl rfl (by as_aux_lemma => kernel_rfl) Try.func7 familyTells_closed
    (of_decide_eq_true (by as_aux_lemma => kernel_rfl)) (by unfold Func.isWrapper; first | (rw [if_pos (by decide +kernel)]; kernel_rfl) | (rw [if_neg (by decide +kernel)]; exact ⟨rfl, rfl⟩))
    (fun os started H enc _ => familyTells_lifted os started H enc)
#print axioms familyTells_holds
end Go.Proofs.Ytkcpmoinpdojjaa
