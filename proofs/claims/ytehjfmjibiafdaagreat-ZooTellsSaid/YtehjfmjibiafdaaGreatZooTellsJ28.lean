import Derived.Test.YtehjfmjibiafdaaGreatZooTellsJ27
import Derived.Test.YtehjfmjibiafdaaGreatZooTellsJ16
import Derived.Test.YtehjfmjibiafdaaGreatZooTellsJ19
import Derived.Test.YtehjfmjibiafdaaGreatZooTellsJ24
/- The reference's zoo: its blocks, At, Get. -/
namespace Go.Proofs.YtehjfmjibiafdaaGreat
open Go Go.RowKit
variable {vB : Value}

attribute [local go_sem] AllFrom.cons_eq AllFrom.nil_eq putF_nil putF_cons wantedL_none wantedL_some OpGoalT OpGoalV OpGoalQ YieldsR preF_nil preF_cons

/-- The reference's zoo at block q: slots sl, rows L (vL: their slice); F: its blocks. No bonds. -/
def RepZ (vB : Value) (w : World) (q : Nat) (sl : Sl) (L : List Rw) (F : List Nat) : Prop :=
  ∃ vL FS, RepZS vL vB w q sl FS ∧ w.ownsRow 0 69 11 vL L.length (L.flatMap rwC) ∧ F = FS ++ vL.ownBlock.toList ∧ F.Nodup
theorem RepZ.mod {w w' : World} {q : Nat} {sl : Sl} {L : List Rw} {F G : List Nat} (h : RepZ vB w q sl L F) (hm : Mod G w w') (hd : ∀ k ∈ F, k ∉ G) : RepZ vB w' q sl L F := by
  obtain ⟨vL, FS, h1, h2, rfl, h3⟩ := h
  exact ⟨vL, FS, h1.mod hm (fun k hk => hd k (by simp [hk])), row_mod h2 hm (fun k hk => hd k (by simp [hk])), rfl, h3⟩
theorem RepZ.below {w w' : World} {q : Nat} {sl : Sl} {L : List Rw} {F : List Nat} (h : RepZ vB w q sl L F) (hb : Below w.heap.size w w') : RepZ vB w' q sl L F := h.mod (Mod.ofBelow hb) (by simp)
theorem RepZ.lt {w : World} {q : Nat} {sl : Sl} {L : List Rw} {F : List Nat} (h : RepZ vB w q sl L F) : ∀ k ∈ F, k < w.heap.size := by
  obtain ⟨vL, FS, h1, h2, rfl, h3⟩ := h
  intro k hk
  rcases List.mem_append.1 hk with hk | hk
  · exact h1.lt k hk
  · exact row_lt h2 k (by simpa using hk)
/-- The zoo's block, opened. -/
theorem RepZ.open_ {w : World} {q : Nat} {sl : Sl} {L : List Rw} {F : List Nat} (h : RepZ vB w q sl L F) : ∃ vg vl A cap, w.heap[q]? = some (.cells #[vg, vl, .slice A L.length cap, vB] 47 (0, 0)) ∧ w.ownsRow 0 69 11 (.slice A L.length cap) L.length (L.flatMap rwC) := by
  obtain ⟨vL, FS, ⟨vg, vl, h1, -⟩, h2, rfl, h3⟩ := h
  obtain ⟨A, cap, rfl, -, -⟩ := row_slice h2
  exact ⟨vg, vl, A, cap, h1, h2⟩
theorem RepZS.turnL {vL vL' vB : Value} {w w' : World} {q : Nat} {sl : Sl} {F G : List Nat} (h : RepZS vL vB w q sl F) (hm : Mod G w w') (hd : ∀ k ∈ F, k ∉ G) : RepZS vL' vB (w'.setCell ⟨q, 2, none⟩ vL') q sl F := by
  obtain ⟨vg, vl, h1, h2, h3, rfl, h4⟩ := h
  have hq := hm.keep h1 (hd q (by simp))
  have hM : ∀ v, Mod [q] w' (w'.setCell ⟨q, 2, none⟩ v) := fun v => (Mod.refl _ _).setCell (.inl (by simp)) v
  have hne : ∀ k ∈ vg.ownBlock.toList ++ vl.ownBlock.toList, k ≠ q := by
    rintro k hk rfl
    rw [List.nodup_cons] at h4
    exact h4.1 hk
  refine ⟨vg, vl, ?_, ?_, ?_, rfl, h4⟩
  · rw [blk_set hq 2 _]; rfl
  · exact row_mod (row_mod h2 hm (fun k hk => hd k (by simp [hk]))) (hM _) (fun k hk h => hne k (by simp [hk]) (by simpa using h))
  · exact row_mod (row_mod h3 hm (fun k hk => hd k (by simp [hk]))) (hM _) (fun k hk h => hne k (by simp [hk]) (by simpa using h))
def atI (L : List Rw) (h : Hd) : Int := match idxL L h with | some i => (i : Int) | none => -1
theorem atI_some {L : List Rw} {h : Hd} {i : Nat} (hi : idxL L h = some i) : atI L h = (i : Int) := by unfold atI; rw [hi]
theorem atI_none {L : List Rw} {h : Hd} (hi : idxL L h = none) : atI L h = -1 := by unfold atI; rw [hi]

set_option maxRecDepth 20000 in
set_option maxHeartbeats 2000000 in
theorem at_any {w : World} {q : Nat} {sl : Sl} {L : List Rw} {F : List Nat} (h : RepZ vB w q sl L F) (hl : L.length ≤ 60) (s g : Int) :
    Calls Tryz.prog 33 #[.pointer (some ⟨q, 0, none⟩), .agg #[.int .i64 s, .int .i64 g]] w (fun e w' => e = .returned (.int .i64 (atI L (s, g))) ∧ Below w.heap.size w w') := by
  obtain ⟨vg, vl, A, cap, hq, hrow⟩ := h.open_
  have c2 := blk_cell hq 2
  simp only [List.getElem?_toArray, List.getElem?_cons_zero, List.getElem?_cons_succ] at c2
  have hql := blk_lt hq
  clear h hq
  go_enter Tryz.func33, Tryz.ntmps33
  go_wp2
  go_loopw [12] (fun i wr => ∃ k : Nat, k ≤ L.length ∧ i = .int .i64 k ∧ (∀ j (h : j < L.length), j < k → ¬ L[j].1 = (s, g)) ∧ Below (w.heap.size + 1) (w.alloc (.cells #[.int .i64 s, .int .i64 g] 41)) wr) (fun i _ => L.length - (Go.RowKit.intOf i).toNat)
  case atStart => exact ⟨0, by omega, rfl, fun j h => by omega, Below.refl _ _⟩
  case round =>
    obtain ⟨k, hk, rfl, hno, hbel⟩ := hrel
    have hsz := hbel.size
    simp only [World.size_alloc] at hsz
    have hsz2 : w.heap.size < wr.heap.size := hsz
    have hb0 : Below w.heap.size w wr := ((Below.refl w.heap.size w).alloc (Nat.le_refl _) _).trans (hbel.mono (by omega))
    have d0 : wr.cell? ⟨w.heap.size, 0, none⟩ = some (.int .i64 s) := (hbel.cell (p := ⟨w.heap.size, 0, none⟩) (by simp)).trans (by simp)
    have d1 : wr.cell? ⟨w.heap.size, 1, none⟩ = some (.int .i64 g) := (hbel.cell (p := ⟨w.heap.size, 1, none⟩) (by simp)).trans (by simp)
    by_cases hlt : k < L.length
    · have hro : wr.ownsRow 0 69 11 (.slice A L.length cap) L.length (L.flatMap rwC) := row_mod hrow (Mod.ofBelow hb0) (by simp)
      obtain ⟨g0, cap0, cur0, hv, -, -, -⟩ := row_some hro (by omega)
      cases hv
      have hpc := row_piece rwC_len hro hlt 0 (rwC L[k]) (fun j u hu => by rw [Nat.zero_add]; exact hu)
      have hg0 := row_lt hro g0 rfl
      have hki : (k : Int) < (L.length : Int) := by omega
      have hyes : L[k].1 = (s, g) → atI L (s, g) = (k : Int) := by
        intro e
        refine atI_some (fi_some hlt (by simpa using e) fun j hj => ?_)
        have := hno j (by omega) hj
        simpa using this
      have hgo : ¬ L[k].1 = (s, g) → ∀ j (h : j < L.length), j < k + 1 → ¬ L[j].1 = (s, g) := by
        intro e j h1 h2
        rcases Nat.lt_or_eq_of_le (Nat.lt_succ_iff.1 h2) with h3 | rfl
        · exact hno j h1 h3
        · exact e
      clear hno
      generalize L[k] = x at *
      obtain ⟨⟨s1, g1⟩, K, a0, a1, a2, a3, a4, a5, a6, a7⟩ := x
      have HP := Lib.hid hpc; have Hyes := Lib.hid hyes; have Hgo := Lib.hid hgo; have Hb := Lib.hid hbel; have Hb0 := Lib.hid hb0; have HR := Lib.hid hrow
      have he := fun w => eqlHandle w s1 g1 s g
      clear hpc hyes hgo hbel hb0 hro hrow
      generalize hr : eqB (s1, g1) (s, g) = r at *
      have Hr := Lib.hid hr
      clear hr
      cases r with
      | true =>
        have H := Lib.hid (Hyes.out (by simpa [eqB] using Hr.out))
        go_wp2_with (refine wpList_load_flat rfl 69 (.tmp 15) rfl _ rfl [.int .i64 s1, .int .i64 g1, .int .i64 K, .int .i64 a0, .int .i64 a1, .int .i64 a2, .int .i64 a3, .int .i64 a4, .int .i64 a5, .int .i64 a6, .int .i64 a7] _ Tryz.underlying69 rfl (by kernel_rfl) HP.out ?_)
        go_ret
        exact ⟨by rw [H.out]; rfl, Hb0.out.alloc (by omega) _⟩
      | false =>
        have H := Lib.hid (Hgo.out (by simpa [eqB] using Hr.out))
        go_wp2_with (refine wpList_load_flat rfl 69 (.tmp 15) rfl _ rfl [.int .i64 s1, .int .i64 g1, .int .i64 K, .int .i64 a0, .int .i64 a1, .int .i64 a2, .int .i64 a3, .int .i64 a4, .int .i64 a5, .int .i64 a6, .int .i64 a7] _ Tryz.underlying69 rfl (by kernel_rfl) HP.out ?_)
        go_roundw
        case rel => exact ⟨k + 1, by omega, by go_num, H.out, Hb.out.alloc (by omega) _⟩
        case measure => simp [Go.RowKit.intOf]; omega
    · have hf : atI L (s, g) = -1 := atI_none (fi_none fun j hj => by have := hno j hj (by omega); simpa using this)
      have H := Lib.hid hf
      clear hf hno hrow
      go_wp2
      go_ret
      exact ⟨by rw [H.out]; rfl, hb0⟩
end Go.Proofs.YtehjfmjibiafdaaGreat

/- The reference's zoo: Get; rows without some. (printed by mk_z2.py) -/
namespace Go.Proofs.YtehjfmjibiafdaaGreat
open Go Go.RowKit
variable {vB : Value}

attribute [local go_sem] AllFrom.cons_eq AllFrom.nil_eq putF_nil putF_cons wantedL_none wantedL_some OpGoalT OpGoalV OpGoalQ YieldsR preF_nil preF_cons

theorem getE_some {L : List Rw} {h : Hd} {i : Nat} (hi : idxL L h = some i) : getE L h = 0 := by unfold getE; rw [hi]
theorem getE_none {L : List Rw} {h : Hd} (hi : idxL L h = none) : getE L h = 7 := by unfold getE; rw [hi]
theorem getB_some {L : List Rw} {h : Hd} {i : Nat} (hi : idxL L h = some i) (hl : i < L.length) : getB L h = L[i].2 := by unfold getB; rw [hi]; simp only; rw [List.getD_eq_getElem?_getD, List.getElem?_eq_getElem hl]; rfl
theorem getB_none {L : List Rw} {h : Hd} (hi : idxL L h = none) : getB L h = (0, 0, 0, 0, 0, 0, 0, 0, 0) := by unfold getB; rw [hi]; rfl

set_option maxRecDepth 20000 in
set_option maxHeartbeats 4000000 in
theorem zget_any {w : World} {q : Nat} {sl : Sl} {L : List Rw} {F : List Nat} (h : RepZ vB w q sl L F) (hl : L.length ≤ 60) (s g : Int) :
    Calls Tryz.prog 18 #[.pointer (some ⟨q, 0, none⟩), .agg #[.int .i64 s, .int .i64 g]] w (fun e w' => e = .returned (.tuple #[.agg (btC (getB L (s, g))).toArray, .int .i64 (getE L (s, g))]) ∧ Below w.heap.size w w') := by
  obtain ⟨w0, hw0, hb0, hz0, hz1, hs0⟩ := box2 w (.cells #[.int .i64 s, .int .i64 g] 41) (.cells #[.int .i64 0, .int .i64 0, .int .i64 0, .int .i64 0, .int .i64 0, .int .i64 0, .int .i64 0, .int .i64 0, .int .i64 0] 50)
  have h1 := at_any (h.below hb0) hl s g
  have q0 := blk_cell hz0 0
  have q1 := blk_cell hz0 1
  simp only [List.getElem?_toArray, List.getElem?_cons_zero, List.getElem?_cons_succ] at q0 q1
  have ql := blk_lt hz0
  cases hi : idxL L (s, g) with
  | none =>
    rw [getE_none hi, getB_none hi]
    rw [atI_none hi] at h1
    have H := Lib.hid h; have H1 := Lib.hid h1; have Hb0 := Lib.hid hb0; have Hz1 := Lib.hid hz1; have Hs0 := Lib.hid hs0
    clear h h1 hb0 hz1 hs0
    clear hz0 hi
    go_enter Tryz.func18, Tryz.ntmps18
    go_wp2_with fail
    clear hw0
    refine H1.out.mono ?_
    rintro e w1 ⟨rfl, hb1⟩
    have hy1 := (Mod.ofBelow hb1).keep Hz1.out (by simp)
    have r0 := blk_cell hy1 0
    have r1 := blk_cell hy1 1
    have r2 := blk_cell hy1 2
    have r3 := blk_cell hy1 3
    have r4 := blk_cell hy1 4
    have r5 := blk_cell hy1 5
    have r6 := blk_cell hy1 6
    have r7 := blk_cell hy1 7
    have r8 := blk_cell hy1 8
    simp only [List.getElem?_toArray, List.getElem?_cons_zero, List.getElem?_cons_succ] at r0 r1 r2 r3 r4 r5 r6 r7 r8
    have rl := blk_lt hy1
    have f0 := blk_free hy1 0
    have f1 := blk_free hy1 1
    have f2 := blk_free hy1 2
    have f3 := blk_free hy1 3
    have f4 := blk_free hy1 4
    have f5 := blk_free hy1 5
    have f6 := blk_free hy1 6
    have f7 := blk_free hy1 7
    have f8 := blk_free hy1 8
    have HB := Lib.hid (Hb0.out.trans (hb1.mono Hb0.out.size))
    have hle : w.heap.size ≤ w.heap.size + 1 := by omega
    clear hb1 hy1 q0 q1 ql
    go_wp2
    refine bodyPost_ret (v := .tuple #[.agg #[.int .i64 0, .int .i64 0, .int .i64 0, .int .i64 0, .int .i64 0, .int .i64 0, .int .i64 0, .int .i64 0, .int .i64 0], .int .i64 7]) (by unfold results; try go_simp) rfl ?_
    refine ⟨rfl, ?_⟩
    repeat (refine Below.setCell ?_ hle _)
    exact HB.out
  | some i =>
    obtain ⟨hil, hie⟩ := idx_some hi
    rw [getE_some hi, getB_some hi hil]
    rw [atI_some hi] at h1
    obtain ⟨vg, vl, A, cap, hq, hrow⟩ := h.open_
    obtain ⟨g0, cap0, cur0, hv, -, -, -⟩ := row_some hrow (by omega)
    cases hv
    have hpc := row_piece rwC_len hrow hil 2 (btC L[i].2) (fun j u hu => by
      rw [rwC_parts, List.getElem?_append_right (by show 2 ≤ 2 + j; omega), show 2 + j - (handleC L[i].1).length = j by show 2 + j - 2 = j; omega]; exact hu)
    have hg0 := row_lt hrow g0 rfl
    have hii : (i : Int) < (L.length : Int) := by omega
    have hi0 : ((i : Int) < 0) = False := by simp
    generalize L[i] = x at *
    obtain ⟨⟨s1, g1⟩, K, a0, a1, a2, a3, a4, a5, a6, a7⟩ := x
    have H := Lib.hid h; have H1 := Lib.hid h1; have Hb0 := Lib.hid hb0; have Hz1 := Lib.hid hz1; have Hs0 := Lib.hid hs0; have Hpc := Lib.hid hpc; have Hq := Lib.hid hq
    clear h h1 hb0 hz1 hs0 hpc hq
    clear hz0 hi hie hrow hi0
    go_enter Tryz.func18, Tryz.ntmps18
    go_wp2_with fail
    clear hw0
    refine H1.out.mono ?_
    rintro e w1 ⟨rfl, hb1⟩
    have hb01 : Below w.heap.size w w1 := Hb0.out.trans (hb1.mono Hb0.out.size)
    have hy1 := (Mod.ofBelow hb1).keep Hz1.out (by simp)
    have r0 := blk_cell hy1 0
    have r1 := blk_cell hy1 1
    have r2 := blk_cell hy1 2
    have r3 := blk_cell hy1 3
    have r4 := blk_cell hy1 4
    have r5 := blk_cell hy1 5
    have r6 := blk_cell hy1 6
    have r7 := blk_cell hy1 7
    have r8 := blk_cell hy1 8
    simp only [List.getElem?_toArray, List.getElem?_cons_zero, List.getElem?_cons_succ] at r0 r1 r2 r3 r4 r5 r6 r7 r8
    have rl := blk_lt hy1
    have f0 := blk_free hy1 0
    have f1 := blk_free hy1 1
    have f2 := blk_free hy1 2
    have f3 := blk_free hy1 3
    have f4 := blk_free hy1 4
    have f5 := blk_free hy1 5
    have f6 := blk_free hy1 6
    have f7 := blk_free hy1 7
    have f8 := blk_free hy1 8
    have hq1 := (Mod.ofBelow hb01).keep Hq.out (by simp)
    have c2 := blk_cell hq1 2
    simp only [List.getElem?_toArray, List.getElem?_cons_zero, List.getElem?_cons_succ] at c2
    have hql := blk_lt hq1
    have hP := fun j u hu => (hb01.cell (p := (⟨g0, i * 11 + 2, none⟩ : Addr).add j) (by rw [add_block]; exact hg0)).trans (Hpc.out j u hu)
    have HP := Lib.hid hP
    have HB := Lib.hid hb01
    have hle : w.heap.size ≤ w.heap.size + 1 := by omega
    have hin : (decide ((i : Int) < 0)) = false := by simp
    clear hb1 hy1 hb01 q0 q1 ql hP hq1
    go_wp2_with (refine wpList_load_flat rfl 50 (.tmp 19) rfl _ rfl [.int .i64 K, .int .i64 a0, .int .i64 a1, .int .i64 a2, .int .i64 a3, .int .i64 a4, .int .i64 a5, .int .i64 a6, .int .i64 a7] _ Tryz.underlying50 rfl (by kernel_rfl) HP.out ?_)
    refine bodyPost_ret (v := .tuple #[.agg #[.int .i64 K, .int .i64 a0, .int .i64 a1, .int .i64 a2, .int .i64 a3, .int .i64 a4, .int .i64 a5, .int .i64 a6, .int .i64 a7], .int .i64 0]) (by unfold results; try go_simp) rfl ?_
    refine ⟨rfl, ?_⟩
    repeat (refine Below.setCell ?_ hle _)
    exact HB.out

/-! Rows without those of a handle. -/
set_option maxRecDepth 20000 in
set_option maxHeartbeats 2000000 in
theorem kill1_any (s1 g1 K a0 a1 a2 a3 a4 a5 a6 a7 s g : Int) (b : Nat) (w : World) (h0 : w.cell? ⟨b, 0, none⟩ = some (.int .i64 s)) (h1 : w.cell? ⟨b, 1, none⟩ = some (.int .i64 g)) (hb : b < w.heap.size) :
    Calls Tryz.prog 106 #[.agg #[.int .i64 s1, .int .i64 g1, .int .i64 K, .int .i64 a0, .int .i64 a1, .int .i64 a2, .int .i64 a3, .int .i64 a4, .int .i64 a5, .int .i64 a6, .int .i64 a7], .pointer (some ⟨b, 0, none⟩)] w (fun e w' => e = .returned (.bool (eqB (s1, g1) (s, g))) ∧ Below w.heap.size w w') := by
  have he := fun w => eqlHandle w s1 g1 s g
  generalize eqB (s1, g1) (s, g) = r at *
  have hB : ∀ o, Below w.heap.size w (w.alloc o) := fun o => (Below.refl _ _).alloc (Nat.le_refl _) o
  go_enter Tryz.func106, Tryz.ntmps106
  go_wp2
  go_ret
  exact ⟨rfl, hB _⟩

/-- append of one row onto a row of one's own. -/
theorem app_row {w : World} {ops : Array Oper} {rest : List Oper} {o : Oper} {a : Act} {Q : Exit → Act → World → Prop} (hgd : o.guard = none) (s x : Operand)
    (ho : o.op = .call { callee := .builtin .append, args := #[s, x], argTypes := #[23, 23] }) (base : Nat) (v : Value) (l : List Rw) (y : Rw) (ad : Addr) (c : Nat)
    (hs : a.eval s = v) (hown : w.ownsRow base 69 11 v l.length (l.flatMap rwC)) (hx : a.eval x = .slice (some ad) 1 c) (hc : ∀ j u, (rwC y)[j]? = some u → w.cell? (ad.add j) = some u)
    (hlen : l.length < 1200000000000) (hbase : base ≤ w.heap.size)
    (h : ∀ v' w', w'.ownsRow base 69 11 v' (l ++ [y]).length ((l ++ [y]).flatMap rwC) → Below base w w' → wpList Tryz.prog ops Q rest (a.put o.dst v') w') : wpList Tryz.prog ops Q (o :: rest) a w := by
  refine app_rec (enc := rwC) (n := 11) (z := .agg (ints zero11).toArray) (bytes := 88) hgd s x 23 69 ho Tryz.underlying23 inf_Row rfl (by omega) (by omega) rwC_one rwC_len base v l y ad c hs hown hx hc (by omega) hbase ?_
  intro v' w' h1 h2 _
  exact h v' w' h1 ((Below.refl base w).grown h2 hbase (own_ge hown))

set_option maxRecDepth 20000 in
set_option maxHeartbeats 4000000 in
theorem without_any {w : World} {L : List Rw} {A : Option Addr} {cap : Nat} (hrow : w.ownsRow 0 69 11 (.slice A L.length cap) L.length (L.flatMap rwC)) (hl : L.length ≤ 1200000000000) (s g : Int) (b : Nat) (h0 : w.heap[b]? = some (.cells #[.int .i64 s, .int .i64 g] 41 (0, 0))) :
    Calls Tryz.prog 66 #[.slice A L.length cap, .func (.func 106) #[] #[.pointer (some ⟨b, 0, none⟩)]] w (MadeR 69 11 rwC (killL L (s, g)) w) := by
  have hle : L.length ≤ 9223372036854775807 := by omega
  have hbl := blk_lt h0
  have HLL := Lib.hid hl
  clear hl
  go_enter Tryz.func66, Tryz.ntmps66
  go_wp2
  go_loopw [5, 10] (fun v i wr => ∃ n : Nat, n ≤ L.length ∧ i = .int .i64 n ∧ wr.ownsRow w.heap.size 69 11 v (killL (L.take n) (s, g)).length ((killL (L.take n) (s, g)).flatMap rwC) ∧ Below w.heap.size w wr) (fun _ i _ => L.length - (Go.RowKit.intOf i).toNat)
  case atStart => exact ⟨0, by omega, rfl, ⟨rfl, .inl ⟨rfl, rfl⟩⟩, Below.refl _ _⟩
  case round =>
    obtain ⟨n, hn, rfl, hown, hbel⟩ := hrel
    have hsz := hbel.size
    by_cases hlt : n < L.length
    · have hro : wr.ownsRow 0 69 11 (.slice A L.length cap) L.length (L.flatMap rwC) := row_mod hrow (Mod.ofBelow hbel) (by simp)
      obtain ⟨g0, cap0, cur0, hv, -, -, -⟩ := row_some hro (by omega)
      cases hv
      have hpc := row_piece rwC_len hro hlt 0 (rwC L[n]) (fun j u hu => by rw [Nat.zero_add]; exact hu)
      have hst : killL (L.take (n + 1)) (s, g) = killL (L.take n) (s, g) ++ (if L[n].1 = (s, g) then [] else [L[n]]) := by
        unfold killL
        rw [take_succ_get L n hlt, List.filter_append, List.filter_cons]
        by_cases e : L[n].1 = (s, g) <;> simp [e]
      have hlen : (killL (L.take n) (s, g)).length ≤ n := by
        have h1 : (killL (L.take n) (s, g)).length ≤ (L.take n).length := List.length_filter_le _ _
        rw [List.length_take] at h1; omega
      have hg0 := row_lt hro g0 rfl
      have hni : (n : Int) < (L.length : Int) := by omega
      generalize killL (L.take n) (s, g) = M at *
      obtain ⟨x, hx⟩ : ∃ x, L[n] = x := ⟨_, rfl⟩
      rw [hx] at hpc hst
      obtain ⟨⟨s1, g1⟩, K, a0, a1, a2, a3, a4, a5, a6, a7⟩ := x
      have hbz := (Mod.ofBelow hbel).keep h0 (by simp)
      obtain ⟨w3, hw3, hb3, hz3, hs3⟩ := box1 wr (.cells #[.int .i64 s1, .int .i64 g1, .int .i64 K, .int .i64 a0, .int .i64 a1, .int .i64 a2, .int .i64 a3, .int .i64 a4, .int .i64 a5, .int .i64 a6, .int .i64 a7] 69)
      have hO3 := hown.alloc (.cells #[.int .i64 s1, .int .i64 g1, .int .i64 K, .int .i64 a0, .int .i64 a1, .int .i64 a2, .int .i64 a3, .int .i64 a4, .int .i64 a5, .int .i64 a6, .int .i64 a7] 69)
      rw [hw3] at hO3
      have hb03 := hbel.trans (hb3.mono hsz)
      have hbz3 := (Mod.ofBelow hb3).keep hbz (by simp)
      have hk1 := kill1_any s1 g1 K a0 a1 a2 a3 a4 a5 a6 a7 s g b w3 (by rw [blk_cell hbz3]; rfl) (by rw [blk_cell hbz3]; rfl) (blk_lt hbz3)
      have hl3 : wr.heap.size < w3.heap.size := by omega
      have r0 := blk_cell hz3 0
      have r1 := blk_cell hz3 1
      have r2 := blk_cell hz3 2
      have r3 := blk_cell hz3 3
      have r4 := blk_cell hz3 4
      have r5 := blk_cell hz3 5
      have r6 := blk_cell hz3 6
      have r7 := blk_cell hz3 7
      have r8 := blk_cell hz3 8
      have r9 := blk_cell hz3 9
      have r10 := blk_cell hz3 10
      simp only [List.getElem?_toArray, List.getElem?_cons_zero, List.getElem?_cons_succ] at r0 r1 r2 r3 r4 r5 r6 r7 r8 r9 r10
      have rl := blk_lt hz3
      have HP := Lib.hid hpc; have Hst := Lib.hid hst; have Hlen := Lib.hid hlen; have Hown := Lib.hid hown; have Hbel := Lib.hid hbel; have HO3 := Lib.hid hO3; have Hb03 := Lib.hid hb03; have Hk := Lib.hid hk1; have Hs3 := Lib.hid hs3; have Hz3 := Lib.hid hz3; have Hw3 := Lib.hid hw3; have H0 := Lib.hid h0; have Hrow := Lib.hid hrow
      clear hpc hst hlen hown hbel hO3 hb03 hk1 hs3 hz3 hw3 h0 hrow
      clear hro hx hbz hbz3 hb3
      have HO := Lib.hid (rwC_one ((s1, g1), K, a0, a1, a2, a3, a4, a5, a6, a7))
      go_wp2_with (first | (refine wpList_load_flat rfl 69 (.tmp 12) rfl _ rfl [.int .i64 s1, .int .i64 g1, .int .i64 K, .int .i64 a0, .int .i64 a1, .int .i64 a2, .int .i64 a3, .int .i64 a4, .int .i64 a5, .int .i64 a6, .int .i64 a7] _ Tryz.underlying69 rfl (by kernel_rfl) HP.out ?_) | (refine wpList_store_new rfl 69 (.tmp 7) (.tmp 13) rfl wr (ints zero11) [.int .i64 s1, .int .i64 g1, .int .i64 K, .int .i64 a0, .int .i64 a1, .int .i64 a2, .int .i64 a3, .int .i64 a4, .int .i64 a5, .int .i64 a6, .int .i64 a7] 69 rfl rfl rfl (sz_Row ((s1, g1), K, a0, a1, a2, a3, a4, a5, a6, a7)) HO.out ?_; rw [show ([.int .i64 s1, .int .i64 g1, .int .i64 K, .int .i64 a0, .int .i64 a1, .int .i64 a2, .int .i64 a3, .int .i64 a4, .int .i64 a5, .int .i64 a6, .int .i64 a7] : List Value).toArray = #[.int .i64 s1, .int .i64 g1, .int .i64 K, .int .i64 a0, .int .i64 a1, .int .i64 a2, .int .i64 a3, .int .i64 a4, .int .i64 a5, .int .i64 a6, .int .i64 a7] from rfl, Hw3.out]; clear HO))
      refine Hk.out.mono ?_
      rintro e w4 ⟨rfl, hb4⟩
      have hz4 := (Mod.ofBelow hb4).keep Hz3.out (by simp)
      have hs4 := hb4.size
      have hs3 := Hs3.out
      have hO4 := row_mod HO3.out (Mod.ofBelow hb4) (by simp)
      have hb04 := Hb03.out.trans (hb4.mono Hb03.out.size)
      have hbs := Hb03.out.size
      cases hr : eqB (s1, g1) (s, g) with
      | true =>
        have hst := Hst.out
        rw [if_pos (by simpa [eqB] using hr), List.append_nil] at hst
        have Hst2 := Lib.hid hst; have HO4 := Lib.hid hO4; have Hbel4 := Lib.hid hb04; have Hz4 := Lib.hid hz4; have Hs4 := Lib.hid hs4; have Hbs := Lib.hid hbs; have Hr := Lib.hid hr
        clear hst hO4 hb04 hz4 hs4 hbs hr
        clear hs3 hb4 r0 r1 r2 r3 r4 r5 r6 r7 r8 r9 r10 rl
        go_wp2
        go_roundw
        case rel => exact ⟨n + 1, by omega, by go_num, by rw [Hst2.out]; exact HO4.out, Hbel4.out⟩
        case measure => simp [Go.RowKit.intOf]; omega
      | false =>
        have hst := Hst.out
        rw [if_neg (by simpa [eqB] using hr)] at hst
        clear r0 r1 r2 r3 r4 r5 r6 r7 r8 r9 r10 rl
        have r0 := blk_cell hz4 0
        have r1 := blk_cell hz4 1
        have r2 := blk_cell hz4 2
        have r3 := blk_cell hz4 3
        have r4 := blk_cell hz4 4
        have r5 := blk_cell hz4 5
        have r6 := blk_cell hz4 6
        have r7 := blk_cell hz4 7
        have r8 := blk_cell hz4 8
        have r9 := blk_cell hz4 9
        have r10 := blk_cell hz4 10
        simp only [List.getElem?_toArray, List.getElem?_cons_zero, List.getElem?_cons_succ] at r0 r1 r2 r3 r4 r5 r6 r7 r8 r9 r10
        have rl := blk_lt hz4
        have Hst2 := Lib.hid hst; have Hown4 := Lib.hid hO4; have Hbel4 := Lib.hid hb04; have Hs4 := Lib.hid hs4; have Hbs := Lib.hid hbs; have Hr := Lib.hid hr
        clear hst hO4 hb04 hs4 hbs hr
        clear hb4 hz4 hs3
        go_wp2_with (at_builtin; (refine app_row rfl _ _ rfl w.heap.size _ M ((s1, g1), K, a0, a1, a2, a3, a4, a5, a6, a7) ⟨w4.heap.size, 0, none⟩ 1 rfl (Hown4.out.alloc _) rfl (new_rec (by simp) rfl) (by have := HLL.out; have := Hlen.out; omega) (by have := Hbel4.out.size; simp; omega) ?_); intro v' w5 hown5 hb5)
        go_roundw
        case rel => exact ⟨n + 1, by omega, by go_num, by rw [Hst2.out]; exact hown5, (Hbel4.out.alloc Hbel4.out.size _).trans hb5⟩
        case measure => simp [Go.RowKit.intOf]; omega
    · obtain rfl : n = L.length := by omega
      rw [List.take_length] at hown
      have Hown := Lib.hid hown; have Hbel := Lib.hid hbel
      clear hown hbel
      clear hrow h0
      go_wp2
      go_ret
      exact ⟨_, rfl, Hown.out, Hbel.out⟩
end Go.Proofs.YtehjfmjibiafdaaGreat
