import Derived.Test.YtfbcdblgfhekpaaDiffAppliesJ18
import Derived.Test.YtfbcdblgfhekpaaDiffAppliesJ19
import Derived.Test.YtfbcdblgfhekpaaDiffAppliesJ20
import Derived.Test.YtfbcdblgfhekpaaDiffAppliesJ7
/- R.Apply. (printed by mk_df10.py) -/
namespace Go.Proofs.Ytfbcdblgfhekpaa
open Go Go.RowKit Go.Maps Go.Shelf
attribute [local go_sem] AllFrom.cons_eq AllFrom.nil_eq putF_nil putF_cons wantedL_none wantedL_some OpGoalT OpGoalV OpGoalQ OpGoalA OpGoalK YieldsR preF_nil preF_cons

def RAplPost (la : List Rw) (cs : List Cg) (w : World) (e : Ending) (w' : World) : Prop :=
  ∃ A1 c1, e = .returned (.tuple #[.slice A1 (aplL la cs).length c1, .int .i64 (aplZ la cs)]) ∧ Lies w' w'.heap.size A1 ((aplL la cs).flatMap rwC) ∧ Below w.heap.size w w'
theorem rapl_none {la : List Rw} {cs : List Cg} {w w' : World} {z : Int} (h : aplZ la cs = z ∧ aplL la cs = []) (hb : Below w.heap.size w w') : RAplPost la cs w (.returned (.tuple #[.slice none 0 0, .int .i64 z])) w' := by
  obtain ⟨h1, h2⟩ := h
  refine ⟨none, 0, by rw [h1, h2]; rfl, ?_, hb⟩
  rw [h2]
  exact Lies.nil _ _ _
theorem setR_at {l : List Rw} {x : Rw} {k : Nat} (hk : k ≤ l.length) (h1 : ∀ j (h : j < l.length), j < k → ltH l[j].1 x.1 = true) (h2 : ∀ h : k < l.length, ltH l[k].1 x.1 = false) : setR l x = l.take k ++ [x] ++ l.drop k := by
  obtain ⟨e1, e2⟩ := whiles (fun r : Rw => ltH r.1 x.1) l k hk h1 h2
  unfold setR
  rw [e1, e2]; simp

set_option maxRecDepth 20000 in
set_option maxHeartbeats 8000000 in
theorem rapply_any {w : World} (A : Option Addr) (c : Nat) (la : List Rw) (A' : Option Addr) (c' : Nat) (cs : List Cg) (hla : la.length ≤ 9223372036854775807) (hcl : cs.length ≤ 9223372036854775807) (hA : Lies w w.heap.size A (la.flatMap rwC)) (hC : Lies w w.heap.size A' (cs.flatMap cgC)) :
    Calls Try.prog 9 #[.slice A la.length c, .slice A' cs.length c'] w (RAplPost la cs w) := by
  have HLa := Lib.hid hla; have HA := Lib.hid hA; have HC := Lib.hid hC
  clear hla hA hC
  go_enter Try.func9, Try.ntmps9
  go_wp2_with fail
  refine (rmay_any A c la _ HLa.out HA.out).mono ?_
  rintro e w1 ⟨rfl, hb1⟩
  cases hma : mayB la with
  | false =>
    have Hfin := Lib.hid (rapl_none (cs := cs) (aplZ_bad hma) hb1)
    clear hb1 HC
    go_wp2_with fail
    refine bodyPost_ret (v := .tuple #[.slice none 0 0, .int .i64 4]) (by unfold results; try go_simp) rfl Hfin.out
  | true =>
    have Hma := Lib.hid hma; have Hb1 := Lib.hid hb1
    by_cases h120 : 120 < cs.length
    · have h120' : (120 : Int) < (cs.length : Int) := by omega
      have Hfin := Lib.hid (rapl_none (aplZ_many hma h120) hb1)
      clear hb1 HC hma h120
      go_wp2_with fail
      refine bodyPost_ret (v := .tuple #[.slice none 0 0, .int .i64 2]) (by unfold results; try go_simp) rfl Hfin.out
    have h120' : ¬ (120 : Int) < (cs.length : Int) := by omega
    have h120 : cs.length ≤ 120 := by omega
    have hl60 := (mayB_ok hma).1
    have hsl := (mayB_ok hma).2.2.imp fun {x y : Rw} (hlt : x.1.1 < y.1.1) => (ltH_iff x.1 y.1).2 (.inl hlt)
    have H120 := Lib.hid h120; have HL60 := Lib.hid hl60; have HSl := Lib.hid hsl
    have HA1 := Lib.hid ((HA.out.below hb1).mono hb1.size)
    clear hma hb1 h120 hl60 hsl
    go_wp2_with fail
    go_loopw [0, 17] (fun v0 i wr => ∃ (k : Nat) (R : List Rw) (A0 : Option Addr) (c0 : Nat), k ≤ cs.length ∧ v0 = .slice A0 R.length c0 ∧ i = .int .i64 k ∧ Lies wr wr.heap.size A0 (R.flatMap rwC) ∧ SortR R ∧ Below w.heap.size w wr ∧ runR R (cs.drop k) = runR la cs ∧ R.length ≤ 60 + k) (fun _ i _ => cs.length - (intOf i).toNat)
    case atStart => exact ⟨0, la, A, c, by omega, rfl, rfl, HA1.out, HSl.out, Hb1.out, rfl, HL60.out⟩
    case round =>
      obtain ⟨k, R, A0, c0, hk, rfl, rfl, hL, hsR, hBr, hrun, hlen⟩ := hrel
      have hsz := hBr.size
      by_cases hlt : k < cs.length
      · obtain ⟨ab, ao, rfl, hal, hc⟩ := HC.out.rec_at cgC_len (by omega) hlt
        have hq : ∀ j u, (cgC cs[k])[j]? = some u → wr.cell? ((⟨ab, ao + k * 20, none⟩ : Addr).add j) = some u := fun j u hu => (hBr.cell (p := (⟨ab, ao + k * 20, none⟩ : Addr).add j) (by rw [add_block]; exact hal)).trans (by first | exact hc j u hu | (have := hc j u hu; rw [Addr.add_mid]; exact this))
        have hki : (k : Int) < (cs.length : Int) := by omega
        have Hki := Lib.hid hki
        rw [List.drop_eq_getElem_cons hlt] at hrun
        generalize cs[k] = x at *
        obtain ⟨⟨s, g⟩, ⟨K, a0, a1, a2, a3, a4, a5, a6, a7⟩, ⟨M, b0, b1, b2, b3, b4, b5, b6, b7⟩⟩ := x
        obtain ⟨w9, hw9, hb9, hz9, hs9⟩ := box1 wr (.cells (cgC ((s, g), (K, a0, a1, a2, a3, a4, a5, a6, a7), (M, b0, b1, b2, b3, b4, b5, b6, b7))).toArray 36)
        have hbw9 := hBr.trans (hb9.mono hsz)
        have hL9 := (hL.below hb9).mono hb9.size
        have hlR : R.length ≤ 180 := by have := H120.out; omega
        have hcbl : wr.heap.size < w9.heap.size := by omega
        have hcmp1 := fun w => eqlBt w (K, a0, a1, a2, a3, a4, a5, a6, a7) (M, b0, b1, b2, b3, b4, b5, b6, b7)
        simp only [show (btC (K, a0, a1, a2, a3, a4, a5, a6, a7)).toArray = #[.int .i64 K, .int .i64 a0, .int .i64 a1, .int .i64 a2, .int .i64 a3, .int .i64 a4, .int .i64 a5, .int .i64 a6, .int .i64 a7] from rfl, show (btC (M, b0, b1, b2, b3, b4, b5, b6, b7)).toArray = #[.int .i64 M, .int .i64 b0, .int .i64 b1, .int .i64 b2, .int .i64 b3, .int .i64 b4, .int .i64 b5, .int .i64 b6, .int .i64 b7] from rfl] at hcmp1
        have hNo := blk_piece hz9 2 (btC (K, a0, a1, a2, a3, a4, a5, a6, a7)) (cg_old ((s, g), (K, a0, a1, a2, a3, a4, a5, a6, a7), (M, b0, b1, b2, b3, b4, b5, b6, b7)))
        have hNn := blk_piece hz9 11 (btC (M, b0, b1, b2, b3, b4, b5, b6, b7)) (cg_now ((s, g), (K, a0, a1, a2, a3, a4, a5, a6, a7), (M, b0, b1, b2, b3, b4, b5, b6, b7)))
        obtain ⟨⟨J, d0, d1, d2, d3, d4, d5, d6, d7⟩, hgm⟩ : ∃ b, getM R (s, g) = b := ⟨_, rfl⟩
        have hG : ∀ V, Below w9.heap.size w9 V → Calls Try.prog 23 #[.slice A0 R.length c0, .agg #[.int .i64 s, .int .i64 g]] V fun e V' => e = .returned (.agg #[.int .i64 J, .int .i64 d0, .int .i64 d1, .int .i64 d2, .int .i64 d3, .int .i64 d4, .int .i64 d5, .int .i64 d6, .int .i64 d7]) ∧ Below V.heap.size V V' := fun V hV => by
          have h := beastAt_any A0 c0 R (by omega) ((hL9.below hV).mono hV.size) s g
          rw [hgm] at h
          exact h
        have HQ := Lib.hid hq; have HL9 := Lib.hid hL9; have HSR := Lib.hid hsR; have HB9 := Lib.hid hbw9; have HRun := Lib.hid hrun; have HLen := Lib.hid hlen; have Hz9 := Lib.hid hz9; have HW9 := Lib.hid hw9; have HS9 := Lib.hid hs9; have Hcbl := Lib.hid hcbl; have HNo := Lib.hid hNo; have HNn := Lib.hid hNn; have HG := Lib.hid hG; have HGm := Lib.hid hgm; have HlR := Lib.hid hlR
        clear hq hL9 hsR hbw9 hrun hlen hz9 hw9 hs9 hcbl hNo hNn hG hgm hlR
        clear hc hL hBr hb9
        cases he : eqB (K, a0, a1, a2, a3, a4, a5, a6, a7) (M, b0, b1, b2, b3, b4, b5, b6, b7) with
        | true =>
          rw [he] at hcmp1
          have Hfin := Lib.hid (rapl_none (aplZ_run Hma.out H120.out (HRun.out.symm.trans (run_same he)) (by decide)) HB9.out)
          clear he
          go_wp2_with (first
            | (refine wpList_load_flat rfl 36 (.tmp 19) rfl _ rfl (cgC ((s, g), (K, a0, a1, a2, a3, a4, a5, a6, a7), (M, b0, b1, b2, b3, b4, b5, b6, b7))) _ Try.underlying36 rfl (sz_Change _) HQ.out ?_)
            | (refine wpList_store_new rfl 36 (.tmp 7) (.tmp 20) rfl wr (ints [0, 0, 0, 0, 0, 0, 0, 0, 0, 0, 0, 0, 0, 0, 0, 0, 0, 0, 0, 0]) (cgC ((s, g), (K, a0, a1, a2, a3, a4, a5, a6, a7), (M, b0, b1, b2, b3, b4, b5, b6, b7))) 36 rfl rfl rfl (sz_Change _) (cgC_one _) ?_; rw [HW9.out])
            | (refine wpList_load_flat rfl 31 (.tmp 21) rfl ⟨wr.heap.size, 2, none⟩ rfl [.int .i64 K, .int .i64 a0, .int .i64 a1, .int .i64 a2, .int .i64 a3, .int .i64 a4, .int .i64 a5, .int .i64 a6, .int .i64 a7] _ Try.underlying31 rfl (by kernel_rfl) HNo.out ?_)
            | (refine wpList_load_flat rfl 31 (.tmp 23) rfl ⟨wr.heap.size, 11, none⟩ rfl [.int .i64 M, .int .i64 b0, .int .i64 b1, .int .i64 b2, .int .i64 b3, .int .i64 b4, .int .i64 b5, .int .i64 b6, .int .i64 b7] _ Try.underlying31 rfl (by kernel_rfl) HNn.out ?_)
            | fail)
          refine bodyPost_ret (v := .tuple #[.slice none 0 0, .int .i64 4]) (by unfold results; try go_simp) rfl Hfin.out
        | false =>
          rw [he] at hcmp1
          have He := Lib.hid he
          clear he
          go_wp2_with (first
            | (refine wpList_load_flat rfl 36 (.tmp 19) rfl _ rfl (cgC ((s, g), (K, a0, a1, a2, a3, a4, a5, a6, a7), (M, b0, b1, b2, b3, b4, b5, b6, b7))) _ Try.underlying36 rfl (sz_Change _) HQ.out ?_)
            | (refine wpList_store_new rfl 36 (.tmp 7) (.tmp 20) rfl wr (ints [0, 0, 0, 0, 0, 0, 0, 0, 0, 0, 0, 0, 0, 0, 0, 0, 0, 0, 0, 0]) (cgC ((s, g), (K, a0, a1, a2, a3, a4, a5, a6, a7), (M, b0, b1, b2, b3, b4, b5, b6, b7))) 36 rfl rfl rfl (sz_Change _) (cgC_one _) ?_; rw [HW9.out])
            | (refine wpList_load_flat rfl 31 (.tmp 21) rfl ⟨wr.heap.size, 2, none⟩ rfl [.int .i64 K, .int .i64 a0, .int .i64 a1, .int .i64 a2, .int .i64 a3, .int .i64 a4, .int .i64 a5, .int .i64 a6, .int .i64 a7] _ Try.underlying31 rfl (by kernel_rfl) HNo.out ?_)
            | (refine wpList_load_flat rfl 31 (.tmp 23) rfl ⟨wr.heap.size, 11, none⟩ rfl [.int .i64 M, .int .i64 b0, .int .i64 b1, .int .i64 b2, .int .i64 b3, .int .i64 b4, .int .i64 b5, .int .i64 b6, .int .i64 b7] _ Try.underlying31 rfl (by kernel_rfl) HNn.out ?_)
            | fail)
          clear hcmp1
          have hcmp2 := fun w => neqBeast w (J, d0, d1, d2, d3, d4, d5, d6, d7) (K, a0, a1, a2, a3, a4, a5, a6, a7)
          simp only [show (btC (K, a0, a1, a2, a3, a4, a5, a6, a7)).toArray = #[.int .i64 K, .int .i64 a0, .int .i64 a1, .int .i64 a2, .int .i64 a3, .int .i64 a4, .int .i64 a5, .int .i64 a6, .int .i64 a7] from rfl, show (btC (J, d0, d1, d2, d3, d4, d5, d6, d7)).toArray = #[.int .i64 J, .int .i64 d0, .int .i64 d1, .int .i64 d2, .int .i64 d3, .int .i64 d4, .int .i64 d5, .int .i64 d6, .int .i64 d7] from rfl] at hcmp2
          refine wp_planK [] 7 [0] [some 26, some 27, some 28, some 29, some 30, some 31, some 32] [[], [], [1], [0, 1, 2], [], [4], [0, 1, 2, 3, 4, 5]] [0, 1, 2, 3, 4, 5, 6] (fun Lf σ V => Below w9.heap.size w9 V) mixed rfl (by kernel_rfl) (by decide) (by decide) (by decide) below_drew rfl ?_
          iterate 7 apply Exists.intro
          refine ⟨rfl, ?_, ?_⟩
          · simp only [List.take_succ_cons, List.take_zero, AllFrom.cons_eq, AllFrom.nil_eq, OpGoalK]
            refine ⟨?_, ?_, ?_, ?_, ?_, ?_, ?_, trivial⟩
            all_goals (intro L' σ V h1 h2 h3 hI hp; have HA1 := Lib.hid h1; have HA2 := Lib.hid h2; have HA3 := Lib.hid h3; clear h1 h2 h3; (try simp only [List.getD_cons_zero, List.getD_cons_succ, preK_cons, preK_nil] at hp); (try simp only [List.not_mem_nil, false_or, and_true] at hp); (first | (have hq : True := hp; clear hq hp) | skip); have HI := Lib.hid hI; clear hI)
            all_goals (
              have hz := (Mod.ofBelow HI.out).keep Hz9.out (by simp)
              have q0 : V.cell? ⟨wr.heap.size, 0, none⟩ = some (.int .i64 s) := (blk_cell hz 0).trans (by rfl)
              have q1 : V.cell? ⟨wr.heap.size, 1, none⟩ = some (.int .i64 g) := (blk_cell hz 1).trans (by rfl)
              have ql : wr.heap.size < V.heap.size := blk_lt hz
              have t0 : V.cell? ⟨wr.heap.size, 2, none⟩ = some (.int .i64 K) := (blk_cell hz 2).trans (by rfl)
              have t1 : V.cell? ⟨wr.heap.size, 3, none⟩ = some (.int .i64 a0) := (blk_cell hz 3).trans (by rfl)
              have t2 : V.cell? ⟨wr.heap.size, 4, none⟩ = some (.int .i64 a1) := (blk_cell hz 4).trans (by rfl)
              have t3 : V.cell? ⟨wr.heap.size, 5, none⟩ = some (.int .i64 a2) := (blk_cell hz 5).trans (by rfl)
              have t4 : V.cell? ⟨wr.heap.size, 6, none⟩ = some (.int .i64 a3) := (blk_cell hz 6).trans (by rfl)
              have t5 : V.cell? ⟨wr.heap.size, 7, none⟩ = some (.int .i64 a4) := (blk_cell hz 7).trans (by rfl)
              have t6 : V.cell? ⟨wr.heap.size, 8, none⟩ = some (.int .i64 a5) := (blk_cell hz 8).trans (by rfl)
              have t7 : V.cell? ⟨wr.heap.size, 9, none⟩ = some (.int .i64 a6) := (blk_cell hz 9).trans (by rfl)
              have t8 : V.cell? ⟨wr.heap.size, 10, none⟩ = some (.int .i64 a7) := (blk_cell hz 10).trans (by rfl)
              clear hz)
            · (go_simp; exact ⟨.inr rfl, HI.out⟩)
            · (go_simp; exact ⟨.inr rfl, HI.out⟩)
            · (go_simp; exact ⟨.inr rfl, HI.out⟩)
            · (go_simp; refine (HG.out V HI.out).mono ?_; rintro e V2 ⟨rfl, hb⟩; exact ⟨_, rfl, .inr rfl, HI.out.trans (hb.mono HI.out.size)⟩)
            · (go_simp; exact ⟨.inr rfl, HI.out⟩)
            · (go_simp; exact ⟨.inr rfl, HI.out⟩)
            · (go_simp; exact ⟨.inr rfl, HI.out⟩)
          · intro L' σ V h1 hI hp
            clear h1
            simp only [preK_cons, preK_nil, List.getD_cons_zero, List.getD_cons_succ] at hp; simp only [List.not_mem_nil, false_or, and_true] at hp
            have HI := Lib.hid hI
            clear hI hcmp2
            simp only [List.drop_succ_cons, List.drop_zero]
            go_simp
            clear hp
            cases hg : eqB (J, d0, d1, d2, d3, d4, d5, d6, d7) (K, a0, a1, a2, a3, a4, a5, a6, a7) with
            | false =>
              have Hfin := Lib.hid (rapl_none (aplZ_run Hma.out H120.out (HRun.out.symm.trans (run_none He.out (by rw [HGm.out]; exact hg))) (by decide)) (HB9.out.trans (HI.out.mono HB9.out.size)))
              clear hg
              go_wp2_with fail
              refine ⟨rfl, ?_⟩
              go_wp2_with fail
              refine bodyPost_ret (v := .tuple #[.slice none 0 0, .int .i64 5]) (by unfold results; try go_simp) rfl Hfin.out
            | true =>
              have Hg := Lib.hid (show eqB (getM R (s, g)) (K, a0, a1, a2, a3, a4, a5, a6, a7) = true by rw [HGm.out]; exact hg)
              have hzV := (Mod.ofBelow HI.out).keep Hz9.out (by simp)
              have hLV := (HL9.out.below HI.out).mono HI.out.size
              have HW := Lib.hid (withoutApl_any (cap := c0) hLV (by have := HlR.out; omega) s g (K, a0, a1, a2, a3, a4, a5, a6, a7) (M, b0, b1, b2, b3, b4, b5, b6, b7) wr.heap.size hzV)
              have HzV := Lib.hid hzV
              clear hg hzV hLV
              go_wp2_with fail
              refine ⟨rfl, ?_⟩
              go_wp2_with fail
              refine HW.out.mono ?_
              rintro e w2 ⟨v, rfl, hv, hb2⟩
              have hz2 := (Mod.ofBelow hb2).keep HzV.out (by simp)
              have hbw2 := (HB9.out.trans (HI.out.mono HB9.out.size)).trans (hb2.mono (HB9.out.trans (HI.out.mono HB9.out.size)).size)
              have hv0 : w2.ownsRow 0 33 11 v (delR R (s, g)).length ((delR R (s, g)).flatMap rwC) := row_base hv (fun k _ => Nat.zero_le k)
              have hsl := HSR.out.del (s, g)
              have hll : (delR R (s, g)).length ≤ 180 := Nat.le_trans (delR_len _ _) HlR.out
              have hld : (delR R (s, g)).length ≤ 60 + k := Nat.le_trans (delR_len _ _) HLen.out
              have hne : ∀ r ∈ delR R (s, g), r.1 ≠ (s, g) := delR_ne
              have hrd := fun (hn : eqB (M, b0, b1, b2, b3, b4, b5, b6, b7) noneB = true) => (run_del (t := cs.drop (k + 1)) He.out Hg.out hn).symm.trans HRun.out
              have hrp := fun (hn : eqB (M, b0, b1, b2, b3, b4, b5, b6, b7) noneB = false) => (run_put (t := cs.drop (k + 1)) He.out Hg.out hn).symm.trans HRun.out
              simp only at hrd hrp
              generalize delR R (s, g) = l at *
              obtain ⟨A3, cap3, rfl, -, -⟩ := row_slice hv0
              have hcmp3 := fun w => neqBeast w (M, b0, b1, b2, b3, b4, b5, b6, b7) noneB
              simp only [show (btC noneB).toArray = #[.int .i64 (-1), .int .i64 0, .int .i64 0, .int .i64 0, .int .i64 0, .int .i64 0, .int .i64 0, .int .i64 0, .int .i64 0] from rfl, show (btC (M, b0, b1, b2, b3, b4, b5, b6, b7)).toArray = #[.int .i64 M, .int .i64 b0, .int .i64 b1, .int .i64 b2, .int .i64 b3, .int .i64 b4, .int .i64 b5, .int .i64 b6, .int .i64 b7] from rfl] at hcmp3
              have Hv := Lib.hid hv0; have HSl2 := Lib.hid hsl; have HLl := Lib.hid hll; have HLd := Lib.hid hld; have HNe := Lib.hid hne; have HRd := Lib.hid hrd; have HRp := Lib.hid hrp; have Hz2 := Lib.hid hz2; have HB2 := Lib.hid hbw2
              clear hv0 hsl hll hld hne hrd hrp hz2 hbw2
              clear hb2 hv
              go_wp2_with fail
              refine wp_planK [] 4 [] [some 36, some 37, some 38, some 39] [[], [0], [], [0, 1, 2]] [0, 1, 2, 3] (fun Lf σ V => Below w2.heap.size w2 V) mixed rfl (by kernel_rfl) (by decide) (by decide) (by decide) below_drew rfl ?_
              iterate 4 apply Exists.intro
              refine ⟨rfl, ?_, ?_⟩
              · simp only [List.take_succ_cons, List.take_zero, AllFrom.cons_eq, AllFrom.nil_eq, OpGoalK]
                refine ⟨?_, ?_, ?_, ?_, trivial⟩
                all_goals (intro L' σ V h1 h2 h3 hI hp; have HA1 := Lib.hid h1; have HA2 := Lib.hid h2; have HA3 := Lib.hid h3; clear h1 h2 h3; (try simp only [List.getD_cons_zero, List.getD_cons_succ, preK_cons, preK_nil] at hp); (try simp only [List.not_mem_nil, false_or, and_true] at hp); (first | (have hq : True := hp; clear hq hp) | skip); have HI := Lib.hid hI; clear hI)
                all_goals (
                  have hz := (Mod.ofBelow HI.out).keep Hz2.out (by simp)
                  have u0 : V.cell? ⟨wr.heap.size, 11, none⟩ = some (.int .i64 M) := (blk_cell hz 11).trans (by rfl)
                  have u1 : V.cell? ⟨wr.heap.size, 12, none⟩ = some (.int .i64 b0) := (blk_cell hz 12).trans (by rfl)
                  have u2 : V.cell? ⟨wr.heap.size, 13, none⟩ = some (.int .i64 b1) := (blk_cell hz 13).trans (by rfl)
                  have u3 : V.cell? ⟨wr.heap.size, 14, none⟩ = some (.int .i64 b2) := (blk_cell hz 14).trans (by rfl)
                  have u4 : V.cell? ⟨wr.heap.size, 15, none⟩ = some (.int .i64 b3) := (blk_cell hz 15).trans (by rfl)
                  have u5 : V.cell? ⟨wr.heap.size, 16, none⟩ = some (.int .i64 b4) := (blk_cell hz 16).trans (by rfl)
                  have u6 : V.cell? ⟨wr.heap.size, 17, none⟩ = some (.int .i64 b5) := (blk_cell hz 17).trans (by rfl)
                  have u7 : V.cell? ⟨wr.heap.size, 18, none⟩ = some (.int .i64 b6) := (blk_cell hz 18).trans (by rfl)
                  have u8 : V.cell? ⟨wr.heap.size, 19, none⟩ = some (.int .i64 b7) := (blk_cell hz 19).trans (by rfl)
                  have ul : wr.heap.size < V.heap.size := blk_lt hz
                  clear hz)
                · (go_simp; exact ⟨.inr rfl, HI.out⟩)
                · (go_simp; exact ⟨.inr rfl, HI.out⟩)
                · (go_simp; refine (rNone_any _).mono ?_; rintro e V2 ⟨h0, hb⟩; rw [show beV noneB = .agg #[.int .i64 (-1), .int .i64 0, .int .i64 0, .int .i64 0, .int .i64 0, .int .i64 0, .int .i64 0, .int .i64 0, .int .i64 0] from rfl] at h0; subst h0; exact ⟨_, rfl, .inr rfl, HI.out.trans (hb.mono HI.out.size)⟩)
                · (go_simp; exact ⟨.inr rfl, HI.out⟩)
              · intro L' σ V h1 hI hp
                clear h1
                simp only [preK_cons, preK_nil, List.getD_cons_zero, List.getD_cons_succ] at hp; simp only [List.not_mem_nil, false_or, and_true] at hp
                have hz := (Mod.ofBelow hI).keep Hz2.out (by simp)
                have hvV := row_mod Hv.out (Mod.ofBelow hI) (by simp)
                have hbV := HB2.out.trans (hI.mono HB2.out.size)
                have HzW := Lib.hid hz; have HvV := Lib.hid hvV; have HBV := Lib.hid hbV
                clear hz hvV hbV
                clear hI hcmp3
                simp only [List.drop_succ_cons, List.drop_zero]
                go_simp
                clear hp
                cases hn : eqB (M, b0, b1, b2, b3, b4, b5, b6, b7) noneB with
                | true =>
                  have HR3 := Lib.hid (HRd.out hn)
                  have hL3 : Lies V V.heap.size A3 (l.flatMap rwC) := by
                    obtain ⟨A4, c4, e4, -, h4⟩ := row_lies HvV.out
                    cases e4
                    exact h4
                  have hki := Hki.out
                  have h120 := H120.out
                  have HL3 := Lib.hid hL3
                  clear hL3
                  clear hn
                  go_wp2_with fail
                  refine ⟨rfl, ?_⟩
                  go_wp2
                  go_roundw
                  case rel => exact ⟨k + 1, l, A3, cap3, by omega, rfl, by go_num, HL3.out, HSl2.out, HBV.out, HR3.out, by have := HLd.out; omega⟩
                  case measure => simp [intOf]; omega
                | false =>
                  have HR3 := Lib.hid (HRp.out hn)
                  clear hn
                  simp only [Bool.not_false]
                  go_wp2_with fail
                  refine ⟨rfl, ?_⟩
                  go_wp2_with fail
                  generalize wr.heap.size = cb at *
                  go_loopw [8] (fun i wv => ∃ n : Nat, n ≤ l.length ∧ i = .int .i64 n ∧ (∀ j (h : j < l.length), j < n → ltH l[j].1 (s, g) = true) ∧ Below V.heap.size V wv) (fun i _ => l.length - (intOf i).toNat)
                  case atStart => exact ⟨0, by omega, rfl, fun j h hj => by omega, Below.refl _ _⟩
                  case round =>
                    obtain ⟨n, hn, rfl, hno, hbel⟩ := hrel
                    have hszv := hbel.size
                    have hzv := (Mod.ofBelow hbel).keep HzW.out (by simp)
                    have hrow := row_mod HvV.out (Mod.ofBelow hbel) (by simp)
                    have hl63 : l.length ≤ 180 := HLl.out
                    have q0 : wr.cell? ⟨cb, 0, none⟩ = some (.int .i64 s) := (blk_cell hzv 0).trans (by rfl)
                    have q1 : wr.cell? ⟨cb, 1, none⟩ = some (.int .i64 g) := (blk_cell hzv 1).trans (by rfl)
                    have ql : cb < wr.heap.size := blk_lt hzv
                    by_cases hgo : ∃ h : n < l.length, ltH l[n].1 (s, g) = true
                    · obtain ⟨hlt2, hgo⟩ := hgo
                      obtain ⟨g0, cap0, cur0, hv0, -, -, -⟩ := row_some hrow (by omega)
                      cases hv0
                      obtain ⟨g0', cap', e, hcell⟩ := row_rec rwC_len hrow hlt2
                      cases e
                      have c3 := hcell 0 (.int .i64 l[n].1.1) rfl
                      have c4 := hcell 1 (.int .i64 l[n].1.2) rfl
                      rw [Nat.add_zero] at c3
                      have hgl := row_lt hrow g0 rfl
                      have hno2 : ∀ j (h : j < l.length), j < n + 1 → ltH l[j].1 (s, g) = true := by
                        intro j h1 h2
                        rcases Nat.lt_or_eq_of_le (Nat.lt_succ_iff.1 h2) with h3 | rfl
                        · exact hno j h1 h3
                        · exact hgo
                      have hki2 : (n : Int) < (l.length : Int) := by omega
                      have HLs := Lib.hid (less_any l[n].1.1 l[n].1.2 s g)
                      have hgo' : ltH (l[n].1.1, l[n].1.2) (s, g) = true := hgo
                      generalize l[n].1.1 = z0 at *
                      generalize l[n].1.2 = z1 at *
                      rw [hgo'] at HLs
                      have hb2 := hbel.drew
                      have Hno2 := Lib.hid hno2; have Hb2 := Lib.hid hb2
                      clear hno2 hb2
                      clear hno hbel hzv hrow hcell hgo hgo'
                      go_wp2_with fail
                      refine wp_planR 12 [0, 1] [some 40, some 41, some 42, some 43, some 44, some 45, some 46, some 47, some 48, some 49, some 50, some 51, some 52, some 53] [[], [], [1], [0, 1, 2], [0, 1, 2, 3], [0, 1, 2, 3, 4], [0, 1, 2, 3, 4], [0, 1, 2, 3, 4, 5, 6], [0, 1, 2, 3, 4, 5, 6, 7], [0, 1, 2, 3, 4, 5, 6, 7, 8], [0, 1, 2, 3, 4], [0, 1, 2, 3, 4, 10], [0, 1, 2, 3, 4, 5, 6, 7, 8, 9, 10, 11], [0, 1, 2, 3, 4, 5, 6, 7, 8, 9, 10, 11, 12]] [0, 1, 2, 3, 4, 5, 6, 7, 8, 9, 10, 11] mixed rfl (by kernel_rfl) (by decide) (by decide) rfl ?_
                      iterate 12 apply Exists.intro
                      refine ⟨rfl, ?_, ?_⟩
                      · simp only [List.take_succ_cons, List.take_zero, AllFrom.cons_eq, AllFrom.nil_eq, OpGoalQ]
                        refine ⟨?_, ?_, ?_, ?_, ?_, ?_, ?_, ?_, ?_, ?_, ?_, ?_, trivial⟩
                        all_goals (intro σ hp; (try simp only [List.getD_cons_zero, List.getD_cons_succ, List.map_cons, List.map_nil, preF_cons, preF_nil, isV, and_true] at hp); (first | (have hq : True := hp; clear hq hp) | skip))
                        all_goals (go_simp; exact ⟨rfl, rfl⟩)
                      intro σ hp
                      simp only [List.getD_cons_zero, List.getD_cons_succ, List.map_cons, List.map_nil, preF_cons, preF_nil, isV, and_true] at hp
                      simp only [List.drop_succ_cons, List.drop_zero]
                      go_simp
                      clear hp
                      go_wp2_with fail
                      refine (HLs.out _).mono ?_
                      rintro e w5 ⟨rfl, hb5⟩
                      have hb25 := Hb2.out.trans (hb5.mono Hb2.out.size)
                      have Hb25 := Lib.hid hb25
                      clear hb25
                      clear hb5 q0 q1 ql c3 c4
                      go_wp2_with fail
                      refine ⟨rfl, ?_⟩
                      go_wp2
                      go_roundw
                      case rel => exact ⟨n + 1, by omega, by go_num, Hno2.out, Hb25.out⟩
                      case measure => simp [intOf]; omega
                    · have hins := setR_at (x := ((s, g), (M, b0, b1, b2, b3, b4, b5, b6, b7))) hn hno (fun h => by
                        cases e : ltH l[n].1 (s, g) with
                        | false => rfl
                        | true => exact absurd ⟨h, e⟩ hgo)
                      have Hins := Lib.hid hins; have Hbel := Lib.hid hbel; have Hrow := Lib.hid hrow; have Hno := Lib.hid hno; have Hzv := Lib.hid hzv
                      clear hins hbel hrow hno hzv
                      have Hn := Lib.hid hn
                      rcases Nat.lt_or_ge n l.length with hlt2 | hlt2
                      case' inl =>
                        have hgo' : ltH (l[n].1.1, l[n].1.2) (s, g) = false := by
                          cases e : ltH (l[n].1.1, l[n].1.2) (s, g) with
                          | false => rfl
                          | true => exact absurd ⟨hlt2, e⟩ hgo
                        have hrow := Hrow.out
                        obtain ⟨g0, cap0, cur0, hv0, -, -, -⟩ := row_some hrow (by omega)
                        cases hv0
                        obtain ⟨g0', cap', e, hcell⟩ := row_rec rwC_len hrow hlt2
                        cases e
                        have c3 := hcell 0 (.int .i64 l[n].1.1) rfl
                        have c4 := hcell 1 (.int .i64 l[n].1.2) rfl
                        rw [Nat.add_zero] at c3
                        have hgl := row_lt hrow g0 rfl
                        have hki2 : (n : Int) < (l.length : Int) := by omega
                        have HLs := Lib.hid (less_any l[n].1.1 l[n].1.2 s g)
                        generalize l[n].1.1 = z0 at *
                        generalize l[n].1.2 = z1 at *
                        rw [hgo'] at HLs
                        clear hcell hgo hgo' hrow
                        go_wp2_with fail
                        refine wp_planR 12 [0, 1] [some 40, some 41, some 42, some 43, some 44, some 45, some 46, some 47, some 48, some 49, some 50, some 51, some 52, some 53] [[], [], [1], [0, 1, 2], [0, 1, 2, 3], [0, 1, 2, 3, 4], [0, 1, 2, 3, 4], [0, 1, 2, 3, 4, 5, 6], [0, 1, 2, 3, 4, 5, 6, 7], [0, 1, 2, 3, 4, 5, 6, 7, 8], [0, 1, 2, 3, 4], [0, 1, 2, 3, 4, 10], [0, 1, 2, 3, 4, 5, 6, 7, 8, 9, 10, 11], [0, 1, 2, 3, 4, 5, 6, 7, 8, 9, 10, 11, 12]] [0, 1, 2, 3, 4, 5, 6, 7, 8, 9, 10, 11] mixed rfl (by kernel_rfl) (by decide) (by decide) rfl ?_
                        iterate 12 apply Exists.intro
                        refine ⟨rfl, ?_, ?_⟩
                        · simp only [List.take_succ_cons, List.take_zero, AllFrom.cons_eq, AllFrom.nil_eq, OpGoalQ]
                          refine ⟨?_, ?_, ?_, ?_, ?_, ?_, ?_, ?_, ?_, ?_, ?_, ?_, trivial⟩
                          all_goals (intro σ hp; (try simp only [List.getD_cons_zero, List.getD_cons_succ, List.map_cons, List.map_nil, preF_cons, preF_nil, isV, and_true] at hp); (first | (have hq : True := hp; clear hq hp) | skip))
                          all_goals (go_simp; exact ⟨rfl, rfl⟩)
                        intro σ hp
                        simp only [List.getD_cons_zero, List.getD_cons_succ, List.map_cons, List.map_nil, preF_cons, preF_nil, isV, and_true] at hp
                        simp only [List.drop_succ_cons, List.drop_zero]
                        go_simp
                        clear hp
                        go_wp2_with fail
                        refine (HLs.out _).mono ?_
                        rintro e w5 ⟨rfl, hb5⟩
                        have hb35 : Below wr.heap.size wr w5 := below_drew.trans hb5
                        have Hb35 := Lib.hid hb35
                        clear hb35
                        clear hb5 q0 q1 ql c3 c4 hki2 hgl hlt2
                        go_wp2_with fail
                        refine ⟨rfl, ?_⟩
                        go_wp2_with fail
                      case' inr =>
                        have hki2 : decide (n < l.length) = false := by simp; omega
                        have hb35 : Below wr.heap.size wr wr.drew := below_drew
                        have Hb35 := Lib.hid hb35
                        clear hb35
                        clear hgo
                        go_wp2_with fail
                        refine wp_planR 12 [0, 1] [some 40, some 41, some 42, some 43, some 44, some 45, some 46, some 47, some 48, some 49, some 50, some 51, some 52, some 53] [[], [], [1], [0, 1, 2], [0, 1, 2, 3], [0, 1, 2, 3, 4], [0, 1, 2, 3, 4], [0, 1, 2, 3, 4, 5, 6], [0, 1, 2, 3, 4, 5, 6, 7], [0, 1, 2, 3, 4, 5, 6, 7, 8], [0, 1, 2, 3, 4], [0, 1, 2, 3, 4, 10], [0, 1, 2, 3, 4, 5, 6, 7, 8, 9, 10, 11], [0, 1, 2, 3, 4, 5, 6, 7, 8, 9, 10, 11, 12]] [0, 1, 2, 3, 4, 5, 6, 7, 8, 9, 10, 11] mixed rfl (by kernel_rfl) (by decide) (by decide) rfl ?_
                        iterate 12 apply Exists.intro
                        refine ⟨rfl, ?_, ?_⟩
                        · simp only [List.take_succ_cons, List.take_zero, AllFrom.cons_eq, AllFrom.nil_eq, OpGoalQ]
                          refine ⟨?_, ?_, ?_, ?_, ?_, ?_, ?_, ?_, ?_, ?_, ?_, ?_, trivial⟩
                          all_goals (intro σ hp; (try simp only [List.getD_cons_zero, List.getD_cons_succ, List.map_cons, List.map_nil, preF_cons, preF_nil, isV, and_true] at hp); (first | (have hq : True := hp; clear hq hp) | skip))
                          all_goals (go_simp; exact ⟨rfl, rfl⟩)
                        intro σ hp
                        simp only [List.getD_cons_zero, List.getD_cons_succ, List.map_cons, List.map_nil, preF_cons, preF_nil, isV, and_true] at hp
                        simp only [List.drop_succ_cons, List.drop_zero]
                        go_simp
                        clear hp
                        generalize wr.drew = w5 at *
                        go_wp2_with fail
                        refine ⟨rfl, ?_⟩
                        go_wp2_with fail
                        clear hki2 hlt2 q0 q1 ql
                      all_goals (
                        have hrow5 := row_mod Hrow.out (Mod.ofBelow Hb35.out) (by simp)
                        obtain ⟨v6, v18, e6, e18, hcp, hap⟩ := slice_split2 hrow5 Hn.out (by have := HLl.out; omega)
                        have hz5 := (Mod.ofBelow Hb35.out).keep Hzv.out (by simp)
                        have hBw := HBV.out.trans (Hbel.out.mono HBV.out.size)
                        have hB5 := hBw.trans (Hb35.out.mono hBw.size)
                        have E6 := Lib.hid e6; have E18 := Lib.hid e18; have HCP := Lib.hid hcp; have HAP := Lib.hid hap; have Hz5 := Lib.hid hz5; have HB5 := Lib.hid hB5
                        clear e6 e18 hcp hap hz5 hB5
                        clear hrow5 hBw
                        refine wp_planK [3, 9, 10, 14] 15 [1, 12] [some 56, some 57, some 58, some 59, some 60, some 61, some 62, some 63, some 64, some 65, some 66, some 67, some 68, some 69, some 70, some 0] [[], [], [0, 1], [0, 1, 2], [], [4], [], [6], [4, 5, 6, 7], [4, 5, 6, 7, 8], [0, 1, 2, 3, 4, 5, 6, 7, 8, 9], [], [], [11, 12], [0, 1, 2, 3, 4, 5, 6, 7, 8, 9, 10, 11, 12, 13], [0, 1, 2, 3, 4, 5, 6, 7, 8, 9, 10, 11, 12, 13, 14]] [0, 1, 2, 3, 4, 5, 6, 7, 8, 9, 10, 11, 12, 13, 14] (fun Lf σ V => ISq w5 (l.take n) (l.drop n) ((s, g), (M, b0, b1, b2, b3, b4, b5, b6, b7)) Lf σ V) mixed rfl (by kernel_rfl) (by decide) (by decide) (by decide) (ISq.start below_drew) rfl ?_
                        iterate 15 apply Exists.intro
                        refine ⟨rfl, ?_, ?_⟩
                        · simp only [List.take_succ_cons, List.take_zero, AllFrom.cons_eq, AllFrom.nil_eq, OpGoalK]
                          refine ⟨?_, ?_, ?_, ?_, ?_, ?_, ?_, ?_, ?_, ?_, ?_, ?_, ?_, ?_, ?_, trivial⟩
                          all_goals (intro L' σ V h1 h2 h3 hI hp; have HA1 := Lib.hid h1; have HA2 := Lib.hid h2; have HA3 := Lib.hid h3; clear h1 h2 h3; (try simp only [List.getD_cons_zero, List.getD_cons_succ, preK_cons, preK_nil] at hp); (try simp only [List.mem_cons, List.not_mem_nil, or_false, eq_self, Nat.reduceEqDiff, Nat.reduceAdd, Nat.zero_add, false_or, true_or, true_and, and_true] at hp); (first | (have hq : True := hp; clear hq hp) | skip); have HI := Lib.hid hI; clear hI)
                          all_goals (
                            have hz := (Mod.ofBelow HI.out.b).keep Hz5.out (by simp)
                            have q0 : V.cell? ⟨cb, 0, none⟩ = some (.int .i64 s) := (blk_cell hz 0).trans (by rfl)
                            have q1 : V.cell? ⟨cb, 1, none⟩ = some (.int .i64 g) := (blk_cell hz 1).trans (by rfl)
                            have ql : cb < V.heap.size := blk_lt hz
                            have t0 : V.cell? ⟨cb, 11, none⟩ = some (.int .i64 M) := (blk_cell hz 11).trans (by rfl)
                            have t1 : V.cell? ⟨cb, 12, none⟩ = some (.int .i64 b0) := (blk_cell hz 12).trans (by rfl)
                            have t2 : V.cell? ⟨cb, 13, none⟩ = some (.int .i64 b1) := (blk_cell hz 13).trans (by rfl)
                            have t3 : V.cell? ⟨cb, 14, none⟩ = some (.int .i64 b2) := (blk_cell hz 14).trans (by rfl)
                            have t4 : V.cell? ⟨cb, 15, none⟩ = some (.int .i64 b3) := (blk_cell hz 15).trans (by rfl)
                            have t5 : V.cell? ⟨cb, 16, none⟩ = some (.int .i64 b4) := (blk_cell hz 16).trans (by rfl)
                            have t6 : V.cell? ⟨cb, 17, none⟩ = some (.int .i64 b5) := (blk_cell hz 17).trans (by rfl)
                            have t7 : V.cell? ⟨cb, 18, none⟩ = some (.int .i64 b6) := (blk_cell hz 18).trans (by rfl)
                            have t8 : V.cell? ⟨cb, 19, none⟩ = some (.int .i64 b7) := (blk_cell hz 19).trans (by rfl)
                            have e6 := E6.out
                            have e18 := E18.out
                            clear hz)
                          · (go_simp; exact ⟨.inr rfl, HI.out.read (by decide) _⟩)
                          · (go_simp; exact ⟨.inr rfl, HI.out.read (by decide) _⟩)
                          · (go_simp; exact ⟨.inr rfl, HI.out.read (by decide) _⟩)
                          · go_simp
                            refine (HCP.out _ (Mod.ofBelow HI.out.b)).mono ?_
                            rintro e V' ⟨v, rfl, hv, hb⟩
                            exact ⟨_, rfl, PostK.mk (c := undef) (.inl (by decide)) (HI.out.copied (HA3.out 14 (by decide)) hb hv (HA3.out 10 (by decide)))⟩
                          · (go_simp; exact ⟨.inr rfl, HI.out.read (by decide) _⟩)
                          · (go_simp; exact ⟨.inr rfl, HI.out.read (by decide) _⟩)
                          · (go_simp; exact ⟨.inr rfl, HI.out.read (by decide) _⟩)
                          · (go_simp; exact ⟨.inr rfl, HI.out.read (by decide) _⟩)
                          · (go_simp; exact ⟨.inr rfl, HI.out.read (by decide) _⟩)
                          · go_simp
                            exact PostK.mk (c := undef) (.inl (by decide)) (HI.out.oned (HA3.out 14 (by decide)) (HA3.out 10 (by decide)))
                          · simp only [wantedL_none, if_true]
                            have ha7 := HI.out.c (HA2.out 3 (by decide)) HA1.out
                            have ha11 := HI.out.o (HA2.out 9 (by decide)) HA1.out
                            have Ha7 := Lib.hid ha7; have Ha11 := Lib.hid ha11
                            have Hlen := Lib.hid (show ((l.take n).length + 1) * 88 ≤ 140737488355328 by rw [List.length_take]; omega)
                            clear ha7 ha11
                            refine yr_app (enc := rwC) (n := 11) (z := .agg (Array.replicate 11 (.int .i64 0))) (bytes := 88) (.tmp 59) (.tmp 65) 22 33 rfl Try.underlying22 inf_Row rfl (by omega) (by omega) rwC_one rwC_len w5.heap.size (σ 3) (l.take n) ((s, g), (M, b0, b1, b2, b3, b4, b5, b6, b7)) w5.heap.size (rwC ((s, g), (M, b0, b1, b2, b3, b4, b5, b6, b7))).toArray 33 (by go_simp) Ha7.out (by go_simp; exact Ha11.out) rfl Hlen.out HI.out.b.size ?_
                            intro v' V' hv hg _
                            exact PostK.mk (c := undef) (.inl (by decide)) (HI.out.apped (HA3.out 14 (by decide)) (HA2.out 3 (by decide)) HA1.out hg hv)
                          · (go_simp; exact ⟨.inr rfl, HI.out.read (by decide) _⟩)
                          · (go_simp; exact ⟨.inr rfl, HI.out.read (by decide) _⟩)
                          · (go_simp; exact ⟨.inr rfl, HI.out.read (by decide) _⟩)
                          · obtain ⟨v', V', hr, hv, hg⟩ := HAP.out _ (Mod.ofBelow HI.out.b) 22 _ (σ 10) (l.take n ++ [((s, g), (M, b0, b1, b2, b3, b4, b5, b6, b7))]) (HI.out.a (HA2.out 10 (by decide)) HA1.out) (by rw [List.length_append, List.length_take, List.length_singleton]; omega) HI.out.b.size
                            simp only [wantedL_none, if_true]
                            refine yr_appV (.tmp 66) (.tmp 69) 22 rfl (by go_simp) (by go_simp) hr (PostK.mk (c := undef) (.inl (by decide)) (HI.out.apped2 HA1.out (HA2.out 10 (by decide)) hg hv))
                        · intro L' σ V3 h1 hI hp
                          have h14 := hI.e (h1 14 (by decide))
                          rw [← Hins.out] at h14
                          have hB := hI.b
                          clear h1 hI
                          simp only [preK_cons, preK_nil, List.getD_cons_zero, List.getD_cons_succ] at hp; simp only [List.mem_cons, List.not_mem_nil, or_false, eq_self, Nat.reduceEqDiff, false_or, true_or, true_and, and_true] at hp
                          have hsl := row_lies h14
                          have hs1 := Classical.choose_spec hsl
                          generalize Classical.choose hsl = A5 at hs1
                          have hs2 := Classical.choose_spec hs1
                          generalize Classical.choose hs1 = c5 at hs2
                          have hv2 := hs2.1
                          have hL5 := hs2.2.2
                          have hb5 := HB5.out.trans (hB.mono HB5.out.size)
                          have hl5 : (setR l ((s, g), (M, b0, b1, b2, b3, b4, b5, b6, b7))).length ≤ 60 + (k + 1) := by rw [setR_len]; have := HLd.out; omega
                          have hs5 := SortR.put (x := ((s, g), (M, b0, b1, b2, b3, b4, b5, b6, b7))) HSl2.out HNe.out
                          have hki := Hki.out
                          have h120 := H120.out
                          have HL5 := Lib.hid hL5; have Hb5 := Lib.hid hb5; have Hl5 := Lib.hid hl5; have Hs5 := Lib.hid hs5
                          clear hL5 hb5 hl5 hs5
                          clear hsl hs1 hs2 h14 hB
                          simp only [List.drop_succ_cons, List.drop_zero]
                          go_simp
                          clear hp
                          generalize σ 14 = v14 at *
                          generalize setR l ((s, g), (M, b0, b1, b2, b3, b4, b5, b6, b7)) = ls at *
                          subst hv2
                          go_wp2_with fail
                          refine ⟨rfl, ?_⟩
                          go_wp2
                          go_roundw
                          case rel => exact ⟨k + 1, _, A5, c5, by omega, rfl, by go_num, HL5.out, Hs5.out, Hb5.out, HR3.out, Hl5.out⟩
                          case measure => simp [intOf]; omega)
      · obtain rfl : k = cs.length := by omega
        rw [List.drop_length] at hrun
        have hrun : runR la cs = (R, 0) := hrun.symm
        have hlR : R.length ≤ 180 := by have := H120.out; omega
        have HL := Lib.hid hL; have HSR := Lib.hid hsR; have HBr := Lib.hid hBr; have HRun := Lib.hid hrun; have HlR := Lib.hid hlR
        clear hL hsR hBr hrun hlR
        clear hlt hlen
        go_wp2_with fail
        refine (rmay_any A0 c0 R _ (by have := HlR.out; omega) HL.out).mono ?_
        rintro e wx ⟨rfl, hbx⟩
        have hb0x := HBr.out.trans (hbx.mono HBr.out.size)
        cases hmR : mayB R with
        | false =>
          have Hfin := Lib.hid (rapl_none (aplZ_endbad Hma.out H120.out HRun.out hmR) hb0x)
          clear hbx hb0x hmR
          go_wp2_with fail
          refine bodyPost_ret (v := .tuple #[.slice none 0 0, .int .i64 4]) (by unfold results; try go_simp) rfl Hfin.out
        | true =>
          have hfin : RAplPost la cs w (.returned (.tuple #[.slice A0 R.length c0, .int .i64 0])) wx := by
            obtain ⟨e1, e2⟩ := aplZ_end Hma.out H120.out HRun.out hmR
            refine ⟨A0, c0, by rw [e1, e2], ?_, hb0x⟩
            rw [e2]
            exact (HL.out.below hbx).mono hbx.size
          have Hfin := Lib.hid hfin
          clear hfin
          clear hbx hb0x hmR
          go_wp2_with fail
          refine bodyPost_ret (by unfold results; try go_simp) rfl Hfin.out
end Go.Proofs.Ytfbcdblgfhekpaa
