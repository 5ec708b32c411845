import Derived.Test.YtehjfmjibiafdaaGreatZooTellsJ39
/- The reference's bonds: Parent, Children, Gone, Loosen. (printed by mk_rf2.py) -/
namespace Go.Proofs.YtehjfmjibiafdaaGreat
open Go Go.RowKit
attribute [local go_sem] AllFrom.cons_eq AllFrom.nil_eq putF_nil putF_cons wantedL_none wantedL_some OpGoalT OpGoalV OpGoalQ OpGoalA OpGoalK YieldsR preF_nil preF_cons
section
variable {vg vl vr : Value} {w : World} {q : Nat} {B : List Bd} {F : List Nat}
def RFRet (vg vl vr : Value) (B' : List Bd) (r : Value) (q : Nat) (F : List Nat) (w : World) (e : Ending) (w' : World) : Prop := e = .returned r ∧ ∃ F', RepB vg vl vr w' q B' F' ∧ Turns w F F' w'

set_option maxRecDepth 20000 in
set_option maxHeartbeats 4000000 in
theorem rgone_any (h : RepB vg vl vr w q B F) (hl : B.length ≤ 1200000000000) (s g : Int) : Calls Tryz.prog 54 #[.pointer (some ⟨q, 0, none⟩), .agg #[.int .i64 s, .int .i64 g]] w (RFRet vg vl vr (goneB B (s, g)) (.tuple #[]) q F w) := by
  obtain ⟨w0, hw0, hb0, hz0, hs0⟩ := box1 w (.cells #[.int .i64 s, .int .i64 g] 41)
  have h0 := h.below hb0
  obtain ⟨A, cap, hq, hrow⟩ := h0.open_
  have H1 := Lib.hid (withoutGone_any hrow hl s g w.heap.size hz0)
  have c0 := blk_cell hq 0
  have c1 := blk_cell hq 1
  have c2 := blk_cell hq 2
  have c3 := blk_cell hq 3
  simp only [List.getElem?_toArray, List.getElem?_cons_zero, List.getElem?_cons_succ] at c0 c1 c2 c3
  have cl := blk_lt hq
  have hlt := h.lt
  have H := Lib.hid h; have Hb0 := Lib.hid hb0; have HZ0 := Lib.hid h0; have Hq := Lib.hid hq; have Hlt := Lib.hid hlt
  clear h hb0 h0 hq hlt
  clear hz0 hs0 hrow
  go_enter Tryz.func54, Tryz.ntmps54
  go_wp2_with fail
  clear hw0
  refine H1.out.mono ?_
  rintro e w1 ⟨v, rfl, hv, hb1⟩
  have hq1 := (Mod.ofBelow hb1).keep Hq.out (by simp)
  clear c0 c1 c2 c3 cl
  have c0 := blk_cell hq1 0
  have c1 := blk_cell hq1 1
  have c2 := blk_cell hq1 2
  have c3 := blk_cell hq1 3
  simp only [List.getElem?_toArray, List.getElem?_cons_zero, List.getElem?_cons_succ] at c0 c1 c2 c3
  have cl := blk_lt hq1
  have f3 := blk_free hq1 3
  obtain ⟨A2, cap2, rfl, -, -⟩ := row_slice hv
  obtain ⟨F', h2, hT⟩ := HZ0.out.put hb1 hv
  have hfin : RFRet vg vl vr (goneB B (s, g)) (.tuple #[]) q F w (.returned (.tuple #[])) (w1.setCell ⟨q, 3, none⟩ (.slice A2 (goneB B (s, g)).length cap2)) := ⟨rfl, F', h2, Turns.after Hb0.out hT⟩
  have Hfin := Lib.hid hfin
  clear hfin
  clear hv hb1 hq1 h2 hT
  go_wp2
  refine bodyPost_end (v := .tuple #[]) ?_ rfl Hfin.out
  unfold results; try go_simp

set_option maxRecDepth 20000 in
set_option maxHeartbeats 4000000 in
theorem rpar_any (h : RepB vg vl vr w q B F) (hl : B.length ≤ 1200000000000) (s g : Int) : Calls Tryz.prog 20 #[.pointer (some ⟨q, 0, none⟩), .agg #[.int .i64 s, .int .i64 g]] w (ParPost (parB B (s, g)) w) := by
  obtain ⟨w0, hw0, hb0, hz0, hs0⟩ := box1 w (.cells #[.int .i64 s, .int .i64 g] 41)
  obtain ⟨w1, hw1, hb1, hz1, hs1⟩ := box1 w0 (.cells #[.int .i64 0, .int .i64 0] 41)
  have hB1 := hb0.trans (hb1.mono hb0.size)
  have hz01 := (Mod.ofBelow hb1).keep hz0 (by simp)
  obtain ⟨A, cap, hq, hrow⟩ := (h.below hB1).open_
  have hle : B.length ≤ 9223372036854775807 := by omega
  have c0 := blk_cell hq 0
  have c1 := blk_cell hq 1
  have c2 := blk_cell hq 2
  have c3 := blk_cell hq 3
  simp only [List.getElem?_toArray, List.getElem?_cons_zero, List.getElem?_cons_succ] at c0 c1 c2 c3
  have cl := blk_lt hq
  have H := Lib.hid h; have HB1 := Lib.hid hB1; have Hz01 := Lib.hid hz01; have Hz1 := Lib.hid hz1; have Hs0 := Lib.hid hs0; have Hs1 := Lib.hid hs1; have Hq := Lib.hid hq; have Hrow := Lib.hid hrow
  clear h hB1 hz01 hz1 hs0 hs1 hq hrow
  clear hb0 hb1 hz0
  go_enter Tryz.func20, Tryz.ntmps20
  go_wp2_with fail
  clear hw0 hw1 c0 c1 c2 c3 cl
  go_loopw [13] (fun i wr => ∃ n : Nat, n ≤ B.length ∧ i = .int .i64 n ∧ parB (B.take n) (s, g) = none ∧ Below w1.heap.size w1 wr) (fun i _ => B.length - (Go.RowKit.intOf i).toNat)
  case atStart => exact ⟨0, by omega, rfl, rfl, Below.refl _ _⟩
  case round =>
    obtain ⟨n, hn, rfl, hno, hbel⟩ := hrel
    have hsz := hbel.size
    have hzr := (Mod.ofBelow hbel).keep Hz01.out (by simp)
    have hyr := (Mod.ofBelow hbel).keep Hz1.out (by simp)
    have hwb : w.heap.size < w1.heap.size ∧ w0.heap.size < w1.heap.size := ⟨blk_lt Hz01.out, blk_lt Hz1.out⟩
    have hne1 : w0.heap.size ≠ wr.heap.size := by omega
    have hne2 : wr.heap.size ≠ w0.heap.size := by omega
    have hle0 : w.heap.size ≤ w0.heap.size := by have := Hs0.out; omega
    have q0 := blk_cell hzr 0
    have q1 := blk_cell hzr 1
    simp only [List.getElem?_toArray, List.getElem?_cons_zero, List.getElem?_cons_succ] at q0 q1
    have ql := blk_lt hzr
    have y0 := blk_cell hyr 0
    have y1 := blk_cell hyr 1
    simp only [List.getElem?_toArray, List.getElem?_cons_zero, List.getElem?_cons_succ] at y0 y1
    have yl := blk_lt hyr
    have f0 := blk_free hyr 0
    have f1 := blk_free hyr 1
    by_cases hlt : n < B.length
    · have hro : wr.ownsRow 0 84 4 (.slice A B.length cap) B.length (B.flatMap bdC) := row_mod Hrow.out (Mod.ofBelow hbel) (by simp)
      obtain ⟨g0, cap0, cur0, hv, -, -, -⟩ := row_some hro (by omega)
      cases hv
      have hpc := row_piece bdC_len hro hlt 0 (bdC B[n]) (fun j u hu => by rw [Nat.zero_add]; exact hu)
      have hg0 := row_lt hro g0 rfl
      have hni : (n : Int) < (B.length : Int) := by omega
      have hst := parB_succ hlt hno
      obtain ⟨x, hx⟩ : ∃ x, B[n] = x := ⟨_, rfl⟩
      rw [hx] at hpc hst
      obtain ⟨⟨b0, b1⟩, b2, b3⟩ := x
      obtain ⟨w3, hw3, hb3, hz3, hs3⟩ := box1 wr (.cells #[.int .i64 b0, .int .i64 b1, .int .i64 b2, .int .i64 b3] 84)
      have hzr3 := (Mod.ofBelow hb3).keep hzr (by simp)
      have hyr3 := (Mod.ofBelow hb3).keep hyr (by simp)
      have heq := fun w => eqlHandle w b0 b1 s g
      have hbf := hbel.trans (hb3.mono hsz)
      have HO := Lib.hid (bdC_one ((b0, b1), (b2, b3)))
      clear q0 q1 ql y0 y1 yl f0 f1
      have r0 := blk_cell hz3 0
      have r1 := blk_cell hz3 1
      have r2 := blk_cell hz3 2
      have r3 := blk_cell hz3 3
      simp only [List.getElem?_toArray, List.getElem?_cons_zero, List.getElem?_cons_succ] at r0 r1 r2 r3
      have rl := blk_lt hz3
      have q0 := blk_cell hzr3 0
      have q1 := blk_cell hzr3 1
      simp only [List.getElem?_toArray, List.getElem?_cons_zero, List.getElem?_cons_succ] at q0 q1
      have ql := blk_lt hzr3
      have y0 := blk_cell hyr3 0
      have y1 := blk_cell hyr3 1
      simp only [List.getElem?_toArray, List.getElem?_cons_zero, List.getElem?_cons_succ] at y0 y1
      have yl := blk_lt hyr3
      have f0 := blk_free hyr3 0
      have f1 := blk_free hyr3 1
      cases hr : eqB (b0, b1) (s, g) with
      | true =>
        rw [hr] at heq
        have he : (b0, b1) = (s, g) := by simpa [eqB] using hr
        simp only at hst
        rw [if_pos he] at hst
        have hp := parB_take hst
        unfold ParPost
        rw [hp]
        simp only [parV, Option.getD_some, Option.isSome_some, hdV, handleC]
        have hBw := HB1.out.trans (hbf.mono HB1.out.size)
        have HP := Lib.hid hpc; have Hbel := Lib.hid hbel; have Hbf := Lib.hid hbf; have Hs3 := Lib.hid hs3; have Hw3 := Lib.hid hw3; have HBw := Lib.hid hBw; have Hle0 := Lib.hid hle0
        clear hpc hbel hbf hs3 hw3 hBw hle0
        clear hro hx hb3 hzr hyr hz3 hzr3 hyr3 hr he hst hp hno
        go_wp2_with (first | (refine wpList_load_flat rfl 84 (.tmp 15) rfl _ rfl [.int .i64 b0, .int .i64 b1, .int .i64 b2, .int .i64 b3] _ Tryz.underlying84 rfl (by kernel_rfl) HP.out ?_) | (refine wpList_store_new rfl 84 (.tmp 7) (.tmp 16) rfl wr (ints [0, 0, 0, 0]) [.int .i64 b0, .int .i64 b1, .int .i64 b2, .int .i64 b3] 84 rfl rfl rfl (by kernel_rfl) HO.out ?_; rw [show ([.int .i64 b0, .int .i64 b1, .int .i64 b2, .int .i64 b3] : List Value).toArray = #[.int .i64 b0, .int .i64 b1, .int .i64 b2, .int .i64 b3] from rfl, Hw3.out]; clear HO))
        refine bodyPost_ret (v := .tuple #[.agg #[.int .i64 b2, .int .i64 b3], .bool true]) (by unfold results; try go_simp) rfl ?_
        refine ⟨rfl, ?_⟩
        repeat (refine Below.setCell ?_ Hle0.out _)
        exact HBw.out
      | false =>
        rw [hr] at heq
        simp only at hst
        rw [if_neg (fun e => by rw [e, eqB_self] at hr; cases hr)] at hst
        have HP := Lib.hid hpc; have Hbel := Lib.hid hbel; have Hbf := Lib.hid hbf; have Hs3 := Lib.hid hs3; have Hw3 := Lib.hid hw3; have Hst := Lib.hid hst
        clear hpc hbel hbf hs3 hw3 hst
        clear hro hx hb3 hzr hyr hz3 hzr3 hyr3 hr hno
        go_wp2_with (first | (refine wpList_load_flat rfl 84 (.tmp 15) rfl _ rfl [.int .i64 b0, .int .i64 b1, .int .i64 b2, .int .i64 b3] _ Tryz.underlying84 rfl (by kernel_rfl) HP.out ?_) | (refine wpList_store_new rfl 84 (.tmp 7) (.tmp 16) rfl wr (ints [0, 0, 0, 0]) [.int .i64 b0, .int .i64 b1, .int .i64 b2, .int .i64 b3] 84 rfl rfl rfl (by kernel_rfl) HO.out ?_; rw [show ([.int .i64 b0, .int .i64 b1, .int .i64 b2, .int .i64 b3] : List Value).toArray = #[.int .i64 b0, .int .i64 b1, .int .i64 b2, .int .i64 b3] from rfl, Hw3.out]; clear HO))
        go_roundw
        case rel => exact ⟨n + 1, by omega, by go_num, Hst.out, Hbf.out⟩
        case measure => simp [Go.RowKit.intOf]; omega
    · obtain rfl : n = B.length := by omega
      rw [List.take_length] at hno
      have hBw := HB1.out.trans (hbel.mono HB1.out.size)
      have HBw := Lib.hid hBw; have Hle0 := Lib.hid hle0; have Hno := Lib.hid hno
      clear hBw hle0 hno
      clear hzr hyr hbel
      go_wp2
      refine bodyPost_ret (v := .tuple #[.agg #[.int .i64 0, .int .i64 0], .bool false]) (by unfold results; try go_simp) rfl ?_
      unfold ParPost
      rw [Hno.out]
      refine ⟨rfl, ?_⟩
      repeat (refine Below.setCell ?_ Hle0.out _)
      exact HBw.out

set_option maxRecDepth 20000 in
set_option maxHeartbeats 4000000 in
theorem rkids_any (h : RepB vg vl vr w q B F) (hl : B.length ≤ 1200000000000) (s g : Int) : Calls Tryz.prog 105 #[.pointer (some ⟨q, 0, none⟩), .agg #[.int .i64 s, .int .i64 g]] w (MadeRecs 41 2 handleC (kidsB B (s, g)) w) := by
  obtain ⟨w0, hw0, hb0, hz0, hs0⟩ := box1 w (.cells #[.int .i64 s, .int .i64 g] 41)
  obtain ⟨A, cap, hq, hrow⟩ := (h.below hb0).open_
  have hle : B.length ≤ 9223372036854775807 := by omega
  have c0 := blk_cell hq 0
  have c1 := blk_cell hq 1
  have c2 := blk_cell hq 2
  have c3 := blk_cell hq 3
  simp only [List.getElem?_toArray, List.getElem?_cons_zero, List.getElem?_cons_succ] at c0 c1 c2 c3
  have cl := blk_lt hq
  have HLL := Lib.hid hl
  have H := Lib.hid h; have Hb0 := Lib.hid hb0; have Hz0 := Lib.hid hz0; have Hs0 := Lib.hid hs0; have Hq := Lib.hid hq; have Hrow := Lib.hid hrow
  clear h hb0 hz0 hs0 hq hrow
  clear hl
  go_enter Tryz.func105, Tryz.ntmps105
  go_wp2_with fail
  clear hw0 c0 c1 c2 c3 cl
  go_loopw [5, 13] (fun v i wr => ∃ n : Nat, n ≤ B.length ∧ i = .int .i64 n ∧ wr.ownsRow w0.heap.size 41 2 v (kidsB (B.take n) (s, g)).length ((kidsB (B.take n) (s, g)).flatMap handleC) ∧ Below w0.heap.size w0 wr) (fun _ i _ => B.length - (Go.RowKit.intOf i).toNat)
  case atStart => exact ⟨0, by omega, rfl, ⟨rfl, .inl ⟨rfl, rfl⟩⟩, Below.refl _ _⟩
  case round =>
    obtain ⟨n, hn, rfl, hown, hbel⟩ := hrel
    have hsz := hbel.size
    have hwb := Hs0.out
    have hzr := (Mod.ofBelow hbel).keep Hz0.out (by simp)
    by_cases hlt : n < B.length
    · have hro : wr.ownsRow 0 84 4 (.slice A B.length cap) B.length (B.flatMap bdC) := row_mod Hrow.out (Mod.ofBelow hbel) (by simp)
      obtain ⟨g0, cap0, cur0, hv, -, -, -⟩ := row_some hro (by omega)
      cases hv
      have hpc := row_piece bdC_len hro hlt 0 (bdC B[n]) (fun j u hu => by rw [Nat.zero_add]; exact hu)
      have hg0 := row_lt hro g0 rfl
      have hni : (n : Int) < (B.length : Int) := by omega
      have hst := kids_succ B (s, g) n hlt
      have hlen : (kidsB (B.take n) (s, g)).length ≤ n := by
        unfold kidsB
        rw [List.length_map]
        have h1 : ((B.take n).filter (fun b => decide (b.2 = (s, g)))).length ≤ (B.take n).length := List.length_filter_le _ _
        rw [List.length_take] at h1; omega
      generalize kidsB (B.take n) (s, g) = M at *
      obtain ⟨x, hx⟩ : ∃ x, B[n] = x := ⟨_, rfl⟩
      rw [hx] at hpc hst
      obtain ⟨⟨b0, b1⟩, b2, b3⟩ := x
      obtain ⟨w3, hw3, hb3, hz3, hs3⟩ := box1 wr (.cells #[.int .i64 b0, .int .i64 b1, .int .i64 b2, .int .i64 b3] 84)
      have hzr3 := (Mod.ofBelow hb3).keep hzr (by simp)
      have heq := fun w => eqlHandle w b2 b3 s g
      have hbf := hbel.trans (hb3.mono hsz)
      have hO3 := hown.alloc (.cells #[.int .i64 b0, .int .i64 b1, .int .i64 b2, .int .i64 b3] 84)
      rw [hw3] at hO3
      have HO := Lib.hid (bdC_one ((b0, b1), (b2, b3)))
      have r0 := blk_cell hz3 0
      have r1 := blk_cell hz3 1
      have r2 := blk_cell hz3 2
      have r3 := blk_cell hz3 3
      simp only [List.getElem?_toArray, List.getElem?_cons_zero, List.getElem?_cons_succ] at r0 r1 r2 r3
      have rl := blk_lt hz3
      have q0 := blk_cell hzr3 0
      have q1 := blk_cell hzr3 1
      simp only [List.getElem?_toArray, List.getElem?_cons_zero, List.getElem?_cons_succ] at q0 q1
      have ql := blk_lt hzr3
      cases hr : eqB (b2, b3) (s, g) with
      | false =>
        rw [hr] at heq
        simp only at hst
        rw [if_neg (by rw [hr]; simp), List.append_nil] at hst
        have HP := Lib.hid hpc; have Hbel := Lib.hid hbel; have Hbf := Lib.hid hbf; have Hs3 := Lib.hid hs3; have Hw3 := Lib.hid hw3; have Hst := Lib.hid hst; have HO3 := Lib.hid hO3; have Hlen := Lib.hid hlen
        clear hpc hbel hbf hs3 hw3 hst hO3 hlen
        clear hro hx hb3 hzr hz3 hzr3 hr hown
        go_wp2_with (first | (refine wpList_load_flat rfl 84 (.tmp 15) rfl _ rfl [.int .i64 b0, .int .i64 b1, .int .i64 b2, .int .i64 b3] _ Tryz.underlying84 rfl (by kernel_rfl) HP.out ?_) | (refine wpList_store_new rfl 84 (.tmp 7) (.tmp 16) rfl wr (ints [0, 0, 0, 0]) [.int .i64 b0, .int .i64 b1, .int .i64 b2, .int .i64 b3] 84 rfl rfl rfl (by kernel_rfl) HO.out ?_; rw [show ([.int .i64 b0, .int .i64 b1, .int .i64 b2, .int .i64 b3] : List Value).toArray = #[.int .i64 b0, .int .i64 b1, .int .i64 b2, .int .i64 b3] from rfl, Hw3.out]; clear HO))
        go_roundw
        case rel => exact ⟨n + 1, by omega, by go_num, by rw [Hst.out]; exact HO3.out, Hbf.out⟩
        case measure => simp [Go.RowKit.intOf]; omega
      | true =>
        rw [hr] at heq
        simp only at hst
        rw [if_pos hr] at hst
        have hb0w : w0.heap.size ≤ w3.heap.size := by omega
        have HP := Lib.hid hpc; have Hbel := Lib.hid hbel; have Hbf := Lib.hid hbf; have Hs3 := Lib.hid hs3; have Hw3 := Lib.hid hw3; have Hst := Lib.hid hst; have HO3 := Lib.hid hO3; have Hlen := Lib.hid hlen; have Hb0w := Lib.hid hb0w
        clear hpc hbel hbf hs3 hw3 hst hO3 hlen hb0w
        clear hro hx hb3 hzr hz3 hzr3 hr hown
        go_wp2_with (first | (refine wpList_load_flat rfl 84 (.tmp 15) rfl _ rfl [.int .i64 b0, .int .i64 b1, .int .i64 b2, .int .i64 b3] _ Tryz.underlying84 rfl (by kernel_rfl) HP.out ?_) | (refine wpList_store_new rfl 84 (.tmp 7) (.tmp 16) rfl wr (ints [0, 0, 0, 0]) [.int .i64 b0, .int .i64 b1, .int .i64 b2, .int .i64 b3] 84 rfl rfl rfl (by kernel_rfl) HO.out ?_; rw [show ([.int .i64 b0, .int .i64 b1, .int .i64 b2, .int .i64 b3] : List Value).toArray = #[.int .i64 b0, .int .i64 b1, .int .i64 b2, .int .i64 b3] from rfl, Hw3.out]; clear HO) | (at_builtin; (refine app_handle rfl _ _ rfl w0.heap.size _ M (b0, b1) ⟨w3.heap.size, 0, none⟩ 1 rfl (HO3.out.alloc _) rfl (new_rec (by simp) rfl) (by have := HLL.out; have := Hlen.out; omega) (by have := Hb0w.out; simp; omega) ?_); intro v' w5 hown5 hb5))
        go_roundw
        case rel => exact ⟨n + 1, by omega, by go_num, by rw [Hst.out]; exact hown5, (Hbf.out.alloc Hb0w.out _).trans hb5⟩
        case measure => simp [Go.RowKit.intOf]; omega
    · obtain rfl : n = B.length := by omega
      rw [List.take_length] at hown
      have hBf := Hb0.out.trans (hbel.mono Hb0.out.size)
      have hown := row_base hown (B' := w.heap.size) (fun k hk => by have := own_ge hown k hk; omega)
      have Hown := Lib.hid hown; have HBf := Lib.hid hBf
      clear hown hBf
      clear hzr hbel
      go_wp2
      go_ret
      exact ⟨_, rfl, Hown.out, HBf.out⟩
end
end Go.Proofs.YtehjfmjibiafdaaGreat
