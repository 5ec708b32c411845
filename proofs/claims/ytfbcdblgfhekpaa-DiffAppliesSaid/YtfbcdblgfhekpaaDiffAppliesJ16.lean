import Derived.Test.YtfbcdblgfhekpaaDiffAppliesJ14
import Derived.Test.YtfbcdblgfhekpaaDiffAppliesJ15
/- diff.Apply. (printed by mk_df9.py) -/
namespace Go.Proofs.Ytfbcdblgfhekpaa
open Go Go.RowKit Go.Maps Go.Shelf
attribute [local go_sem] AllFrom.cons_eq AllFrom.nil_eq putF_nil putF_cons wantedL_none wantedL_some OpGoalT OpGoalV OpGoalQ OpGoalA OpGoalK YieldsR preF_nil preF_cons

def AplPost (la : List Rw) (cs : List Cg) (w : World) (e : Ending) (w' : World) : Prop :=
  ∃ v, e = .returned (.tuple #[v, .int .i64 (aplZ la cs)]) ∧ w'.ownsRow w.heap.size 33 11 v (aplL la cs).length ((aplL la cs).flatMap rwC) ∧ Below w.heap.size w w'
theorem apl_none {la : List Rw} {cs : List Cg} {w w' : World} {z : Int} (h : aplZ la cs = z ∧ aplL la cs = []) (hb : Below w.heap.size w w') : AplPost la cs w (.returned (.tuple #[.slice none 0 0, .int .i64 z])) w' := by
  obtain ⟨h1, h2⟩ := h
  refine ⟨_, by rw [h1], ?_, hb⟩
  rw [h2]
  exact ⟨rfl, .inl ⟨rfl, rfl⟩⟩

/-- A region that makes a row of one (operation m). -/
structure IMk (m : Nat) (w0 : World) (x : Rw) (L : Nat → Bool) (σ : Nat → Value) (V : World) : Prop where
  b : Below w0.heap.size w0 V
  o : L m = true → oneR w0.heap.size (rwC x).toArray 33 (σ m) V
theorem IMk.start {m : Nat} {w0 V : World} {x : Rw} {σ : Nat → Value} (h : Below w0.heap.size w0 V) : IMk m w0 x (fun _ => false) σ V := ⟨h, fun e => (by cases e)⟩
theorem IMk.read {m : Nat} {w0 V : World} {x : Rw} {L : Nat → Bool} {σ : Nat → Value} (h : IMk m w0 x L σ V) {i : Nat} (h1 : m ≠ i) (u : Value) : IMk m w0 x (upd L i) (updv σ i u) V := by
  refine ⟨h.b, ?_⟩
  have e1 : upd L i m = L m := by unfold upd; simp [h1]
  have e2 : updv σ i u m = σ m := by unfold updv; rw [if_neg h1]
  rw [e1, e2]; exact h.o
theorem IMk.oned {m : Nat} {w0 V : World} {x : Rw} {L : Nat → Bool} {σ : Nat → Value} (h : IMk m w0 x L σ V) : IMk m w0 x (upd L m) (updv σ m (.slice (some ⟨V.heap.size, 0, none⟩) 1 1)) (V.alloc (.cells (rwC x).toArray 33)) := by
  refine ⟨h.b.alloc h.b.size _, fun _ => ?_⟩
  have e : updv σ m (.slice (some ⟨V.heap.size, 0, none⟩) 1 1) m = .slice (some ⟨V.heap.size, 0, none⟩) 1 1 := by unfold updv; simp
  rw [e]
  exact oneR_new h.b.size

set_option maxRecDepth 20000 in
set_option maxHeartbeats 8000000 in
theorem apply_any {w : World} (A : Option Addr) (c : Nat) (la : List Rw) (A' : Option Addr) (c' : Nat) (cs : List Cg) (hla : la.length ≤ 9223372036854775807) (hcl : cs.length ≤ 9223372036854775807) (hA : Lies w w.heap.size A (la.flatMap rwC)) (hC : Lies w w.heap.size A' (cs.flatMap cgC)) (hcr : ∀ x ∈ cs, HdR x.1) :
    Calls Try.prog 8 #[.slice A la.length c, .slice A' cs.length c'] w (AplPost la cs w) := by
  have HLa := Lib.hid hla; have HA := Lib.hid hA; have HC := Lib.hid hC; have HCr := Lib.hid hcr
  clear hla hA hC hcr
  go_enter Try.func8, Try.ntmps8
  go_wp2_with fail
  refine (may_any A c la _ HLa.out HA.out).mono ?_
  rintro e w1 ⟨rfl, hb1⟩
  cases hma : mayB la with
  | false =>
    have Hfin := Lib.hid (apl_none (cs := cs) (aplZ_bad hma) hb1)
    clear hb1 HC HCr
    go_wp2_with fail
    refine bodyPost_ret (v := .tuple #[.slice none 0 0, .int .i64 4]) (by unfold results; try go_simp) rfl Hfin.out
  | true =>
    have Hma := Lib.hid hma; have Hb1 := Lib.hid hb1
    by_cases h120 : 120 < cs.length
    · have h120' : (120 : Int) < (cs.length : Int) := by omega
      have Hfin := Lib.hid (apl_none (aplZ_many hma h120) hb1)
      clear hb1 HC HCr hma h120
      go_wp2_with fail
      refine bodyPost_ret (v := .tuple #[.slice none 0 0, .int .i64 2]) (by unfold results; try go_simp) rfl Hfin.out
    have h120' : ¬ (120 : Int) < (cs.length : Int) := by omega
    have h120 : cs.length ≤ 120 := by omega
    have hl60 := (mayB_ok hma).1
    have H120 := Lib.hid h120; have HL60 := Lib.hid hl60
    clear hma hb1 h120 hl60
    go_wp2_with fail
    refine (of_any A c la HLa.out ((HA.out.below Hb1.out).mono Hb1.out.size) (mayB_apart Hma.out) (mayB_hd Hma.out)).mono ?_
    rintro e w3 ⟨mx, lx, rfl, hMx3, hpx, hmx, hb3⟩
    have hb03 := Hb1.out.trans (hb3.mono Hb1.out.size)
    have hmx0 : w.heap.size ≤ mx := Nat.le_trans Hb1.out.size hmx
    have HMx3 := Lib.hid hMx3; have HPx := Lib.hid hpx; have Hmx := Lib.hid hmx0; have Hb03 := Lib.hid hb03
    clear hMx3 hpx hmx0 hb03
    clear hb3 hmx h120'
    go_wp2_with fail
    go_loopw [22] (fun i wr => ∃ (k : Nat) (R lx' : List Rw), k ≤ cs.length ∧ i = .int .i64 k ∧ MapR wr mx lx' ∧ lx'.Perm R ∧ SortR R ∧ Below w.heap.size w wr ∧ runR R (cs.drop k) = runR la cs ∧ R.length ≤ 60 + k ∧ (∀ r ∈ R, HdR r.1)) (fun i _ => cs.length - (intOf i).toNat)
    case atStart => exact ⟨0, la, lx, by omega, rfl, HMx3.out, HPx.out, (mayB_ok Hma.out).2.2.imp fun {x y} hlt => (ltH_iff _ _).2 (.inl hlt), Hb03.out, rfl, HL60.out, mayB_hd Hma.out⟩
    case round =>
      obtain ⟨k, R, lx', hk, rfl, hM, hp, hsR, hBr, hrun, hlen, hRr⟩ := hrel
      have hsz := hBr.size
      by_cases hlt : k < cs.length
      · obtain ⟨ab, ao, rfl, hal, hc⟩ := HC.out.rec_at cgC_len (by omega) hlt
        have hq : ∀ j u, (cgC cs[k])[j]? = some u → wr.cell? ((⟨ab, ao + k * 20, none⟩ : Addr).add j) = some u := fun j u hu => (hBr.cell (p := (⟨ab, ao + k * 20, none⟩ : Addr).add j) (by rw [add_block]; exact hal)).trans (by first | exact hc j u hu | (have := hc j u hu; rw [Addr.add_mid]; exact this))
        have hki : (k : Int) < (cs.length : Int) := by omega
        have hxr : HdR cs[k].1 := HCr.out _ (List.getElem_mem hlt)
        rw [List.drop_eq_getElem_cons hlt] at hrun
        generalize cs[k] = x at *
        obtain ⟨⟨s, g⟩, ⟨K, a0, a1, a2, a3, a4, a5, a6, a7⟩, ⟨M, b0, b1, b2, b3, b4, b5, b6, b7⟩⟩ := x
        obtain ⟨w9, hw9, hb9, hz9, hs9⟩ := box1 wr (.cells (cgC ((s, g), (K, a0, a1, a2, a3, a4, a5, a6, a7), (M, b0, b1, b2, b3, b4, b5, b6, b7))).toArray 36)
        have hbw9 := hBr.trans (hb9.mono hsz)
        have hM9 := hM.mod (Mod.ofBelow hb9) (by simp)
        have hcbl : wr.heap.size < w9.heap.size := by omega
        have hmcb : mx ≠ wr.heap.size := by have := hM.lt; omega
        have hcmp1 := fun w => eqlBt w (K, a0, a1, a2, a3, a4, a5, a6, a7) (M, b0, b1, b2, b3, b4, b5, b6, b7)
        simp only [show (btC (K, a0, a1, a2, a3, a4, a5, a6, a7)).toArray = #[.int .i64 K, .int .i64 a0, .int .i64 a1, .int .i64 a2, .int .i64 a3, .int .i64 a4, .int .i64 a5, .int .i64 a6, .int .i64 a7] from rfl, show (btC (M, b0, b1, b2, b3, b4, b5, b6, b7)).toArray = #[.int .i64 M, .int .i64 b0, .int .i64 b1, .int .i64 b2, .int .i64 b3, .int .i64 b4, .int .i64 b5, .int .i64 b6, .int .i64 b7] from rfl] at hcmp1
        have hNo := blk_piece hz9 2 (btC (K, a0, a1, a2, a3, a4, a5, a6, a7)) (cg_old ((s, g), (K, a0, a1, a2, a3, a4, a5, a6, a7), (M, b0, b1, b2, b3, b4, b5, b6, b7)))
        have hNn := blk_piece hz9 11 (btC (M, b0, b1, b2, b3, b4, b5, b6, b7)) (cg_now ((s, g), (K, a0, a1, a2, a3, a4, a5, a6, a7), (M, b0, b1, b2, b3, b4, b5, b6, b7)))
        obtain ⟨⟨J, d0, d1, d2, d3, d4, d5, d6, d7⟩, hgm⟩ : ∃ b, getM R (s, g) = b := ⟨_, rfl⟩
        have hG : ∀ V, Below w9.heap.size w9 V → Calls Try.prog 18 #[.map (some mx), .agg #[.int .i64 s, .int .i64 g]] V fun e V' => e = .returned (.agg #[.int .i64 J, .int .i64 d0, .int .i64 d1, .int .i64 d2, .int .i64 d3, .int .i64 d4, .int .i64 d5, .int .i64 d6, .int .i64 d7]) ∧ Below V.heap.size V V' := fun V hV => by
          have h := get_any (hM9.mod (Mod.ofBelow hV) (by simp)) s g hxr
          rw [getM_perm hsR.apart hp, hgm] at h
          exact h
        have HQ := Lib.hid hq; have HM9 := Lib.hid hM9; have HP := Lib.hid hp; have HSR := Lib.hid hsR; have HB9 := Lib.hid hbw9; have HRun := Lib.hid hrun; have HLen := Lib.hid hlen; have HRr := Lib.hid hRr; have Hz9 := Lib.hid hz9; have HW9 := Lib.hid hw9; have HS9 := Lib.hid hs9; have Hmcb := Lib.hid hmcb; have Hcbl := Lib.hid hcbl; have Hxr := Lib.hid hxr; have HNo := Lib.hid hNo; have HNn := Lib.hid hNn; have HG := Lib.hid hG; have HGm := Lib.hid hgm
        clear hq hM9 hp hsR hbw9 hrun hlen hRr hz9 hw9 hs9 hmcb hcbl hxr hNo hNn hG hgm
        clear hc hM hBr hb9
        cases he : eqB (K, a0, a1, a2, a3, a4, a5, a6, a7) (M, b0, b1, b2, b3, b4, b5, b6, b7) with
        | true =>
          rw [he] at hcmp1
          have Hfin := Lib.hid (apl_none (aplZ_run Hma.out H120.out (HRun.out.symm.trans (run_same he)) (by decide)) HB9.out)
          clear he
          go_wp2_with (first
            | (refine wpList_load_flat rfl 36 (.tmp 24) rfl _ rfl (cgC ((s, g), (K, a0, a1, a2, a3, a4, a5, a6, a7), (M, b0, b1, b2, b3, b4, b5, b6, b7))) _ Try.underlying36 rfl (sz_Change _) HQ.out ?_)
            | (refine wpList_store_new rfl 36 (.tmp 8) (.tmp 25) rfl wr (ints [0, 0, 0, 0, 0, 0, 0, 0, 0, 0, 0, 0, 0, 0, 0, 0, 0, 0, 0, 0]) (cgC ((s, g), (K, a0, a1, a2, a3, a4, a5, a6, a7), (M, b0, b1, b2, b3, b4, b5, b6, b7))) 36 rfl rfl rfl (sz_Change _) (cgC_one _) ?_; rw [HW9.out])
            | (refine wpList_load_flat rfl 31 (.tmp 32) rfl ⟨wr.heap.size, 2, none⟩ rfl [.int .i64 K, .int .i64 a0, .int .i64 a1, .int .i64 a2, .int .i64 a3, .int .i64 a4, .int .i64 a5, .int .i64 a6, .int .i64 a7] _ Try.underlying31 rfl (by kernel_rfl) HNo.out ?_)
            | (refine wpList_load_flat rfl 31 (.tmp 34) rfl ⟨wr.heap.size, 11, none⟩ rfl [.int .i64 M, .int .i64 b0, .int .i64 b1, .int .i64 b2, .int .i64 b3, .int .i64 b4, .int .i64 b5, .int .i64 b6, .int .i64 b7] _ Try.underlying31 rfl (by kernel_rfl) HNn.out ?_)
            | fail)
          refine bodyPost_ret (v := .tuple #[.slice none 0 0, .int .i64 4]) (by unfold results; try go_simp) rfl Hfin.out
        | false =>
          rw [he] at hcmp1
          have He := Lib.hid he
          clear he
          go_wp2_with (first
            | (refine wpList_load_flat rfl 36 (.tmp 24) rfl _ rfl (cgC ((s, g), (K, a0, a1, a2, a3, a4, a5, a6, a7), (M, b0, b1, b2, b3, b4, b5, b6, b7))) _ Try.underlying36 rfl (sz_Change _) HQ.out ?_)
            | (refine wpList_store_new rfl 36 (.tmp 8) (.tmp 25) rfl wr (ints [0, 0, 0, 0, 0, 0, 0, 0, 0, 0, 0, 0, 0, 0, 0, 0, 0, 0, 0, 0]) (cgC ((s, g), (K, a0, a1, a2, a3, a4, a5, a6, a7), (M, b0, b1, b2, b3, b4, b5, b6, b7))) 36 rfl rfl rfl (sz_Change _) (cgC_one _) ?_; rw [HW9.out])
            | (refine wpList_load_flat rfl 31 (.tmp 32) rfl ⟨wr.heap.size, 2, none⟩ rfl [.int .i64 K, .int .i64 a0, .int .i64 a1, .int .i64 a2, .int .i64 a3, .int .i64 a4, .int .i64 a5, .int .i64 a6, .int .i64 a7] _ Try.underlying31 rfl (by kernel_rfl) HNo.out ?_)
            | (refine wpList_load_flat rfl 31 (.tmp 34) rfl ⟨wr.heap.size, 11, none⟩ rfl [.int .i64 M, .int .i64 b0, .int .i64 b1, .int .i64 b2, .int .i64 b3, .int .i64 b4, .int .i64 b5, .int .i64 b6, .int .i64 b7] _ Try.underlying31 rfl (by kernel_rfl) HNn.out ?_)
            | fail)
          clear hcmp1
          have hcmp2 := fun w => neqBeast w (J, d0, d1, d2, d3, d4, d5, d6, d7) (K, a0, a1, a2, a3, a4, a5, a6, a7)
          simp only [show (btC (K, a0, a1, a2, a3, a4, a5, a6, a7)).toArray = #[.int .i64 K, .int .i64 a0, .int .i64 a1, .int .i64 a2, .int .i64 a3, .int .i64 a4, .int .i64 a5, .int .i64 a6, .int .i64 a7] from rfl, show (btC (J, d0, d1, d2, d3, d4, d5, d6, d7)).toArray = #[.int .i64 J, .int .i64 d0, .int .i64 d1, .int .i64 d2, .int .i64 d3, .int .i64 d4, .int .i64 d5, .int .i64 d6, .int .i64 d7] from rfl] at hcmp2
          refine wp_planK [] 8 [0] [some 38, some 39, some 40, some 41, some 42, some 43, some 44, some 37] [[], [], [1], [0, 1, 2], [], [4], [0, 1, 2, 3, 4, 5], [0, 1, 2, 3, 4, 5, 6]] [0, 1, 2, 3, 4, 5, 6, 7] (fun Lf σ V => Below w9.heap.size w9 V) mixed rfl (by kernel_rfl) (by decide) (by decide) (by decide) below_drew rfl ?_
          iterate 8 apply Exists.intro
          refine ⟨rfl, ?_, ?_⟩
          · simp only [List.take_succ_cons, List.take_zero, AllFrom.cons_eq, AllFrom.nil_eq, OpGoalK]
            refine ⟨?_, ?_, ?_, ?_, ?_, ?_, ?_, ?_, trivial⟩
            all_goals (intro L' σ V h1 h2 h3 hI hp; have HA1 := Lib.hid h1; have HA2 := Lib.hid h2; have HA3 := Lib.hid h3; clear h1 h2 h3; (try simp only [List.getD_cons_zero, List.getD_cons_succ, preK_cons, preK_nil] at hp); (try simp only [List.not_mem_nil, false_or, and_true] at hp); (first | (have hq : True := hp; clear hq hp) | skip); have HI := Lib.hid hI; clear hI)
            all_goals (
              have hz := (Mod.ofBelow HI.out).keep Hz9.out (by simp)
              have q0 : V.cell? ⟨wr.heap.size, 0, none⟩ = some (.int .i64 s) := (blk_cell hz 0).trans (by rfl)
              have q1 : V.cell? ⟨wr.heap.size, 1, none⟩ = some (.int .i64 g) := (blk_cell hz 1).trans (by rfl)
              have ql : wr.heap.size < V.heap.size := blk_lt hz
              have t0 : V.cell? ⟨wr.heap.size, 2, none⟩ = some (.int .i64 K) := (blk_cell hz 2).trans (by rfl)
              have t1 : V.cell? ⟨wr.heap.size, 3, none⟩ = some (.int .i64 a0) := (blk_cell hz 3).trans (by rfl)
              have t2 : V.cell? ⟨wr.heap.size, 4, none⟩ = some (.int .i64 a1) := (blk_cell hz 4).trans (by rfl)
              have t3 : V.cell? ⟨wr.heap.size, 5, none⟩ = some (.int .i64 a2) := (blk_cell hz 5).trans (by rfl)
              have t4 : V.cell? ⟨wr.heap.size, 6, none⟩ = some (.int .i64 a3) := (blk_cell hz 6).trans (by rfl)
              have t5 : V.cell? ⟨wr.heap.size, 7, none⟩ = some (.int .i64 a4) := (blk_cell hz 7).trans (by rfl)
              have t6 : V.cell? ⟨wr.heap.size, 8, none⟩ = some (.int .i64 a5) := (blk_cell hz 8).trans (by rfl)
              have t7 : V.cell? ⟨wr.heap.size, 9, none⟩ = some (.int .i64 a6) := (blk_cell hz 9).trans (by rfl)
              have t8 : V.cell? ⟨wr.heap.size, 10, none⟩ = some (.int .i64 a7) := (blk_cell hz 10).trans (by rfl)
              clear hz)
            · (go_simp; exact ⟨.inr rfl, HI.out⟩)
            · (go_simp; exact ⟨.inr rfl, HI.out⟩)
            · (go_simp; exact ⟨.inr rfl, HI.out⟩)
            · (go_simp; refine (HG.out V HI.out).mono ?_; rintro e V2 ⟨rfl, hb⟩; exact ⟨_, rfl, .inr rfl, HI.out.trans (hb.mono HI.out.size)⟩)
            · (go_simp; exact ⟨.inr rfl, HI.out⟩)
            · (go_simp; exact ⟨.inr rfl, HI.out⟩)
            · (go_simp; exact ⟨.inr rfl, HI.out⟩)
            · (go_simp; exact ⟨.inr rfl, HI.out⟩)
          · intro L' σ V h1 hI hp
            clear h1
            simp only [preK_cons, preK_nil, List.getD_cons_zero, List.getD_cons_succ] at hp; simp only [List.not_mem_nil, false_or, and_true] at hp
            have HI := Lib.hid hI
            clear hI hcmp2
            simp only [List.drop_succ_cons, List.drop_zero]
            go_simp
            clear hp
            cases hg : eqB (J, d0, d1, d2, d3, d4, d5, d6, d7) (K, a0, a1, a2, a3, a4, a5, a6, a7) with
            | false =>
              have Hfin := Lib.hid (apl_none (aplZ_run Hma.out H120.out (HRun.out.symm.trans (run_none He.out (by rw [HGm.out]; exact hg))) (by decide)) (HB9.out.trans (HI.out.mono HB9.out.size)))
              clear hg
              go_wp2_with fail
              refine ⟨rfl, ?_⟩
              go_wp2_with fail
              refine bodyPost_ret (v := .tuple #[.slice none 0 0, .int .i64 5]) (by unfold results; try go_simp) rfl Hfin.out
            | true =>
              have Hg := Lib.hid (show eqB (getM R (s, g)) (K, a0, a1, a2, a3, a4, a5, a6, a7) = true by rw [HGm.out]; exact hg)
              clear hg
              go_wp2_with fail
              refine ⟨rfl, ?_⟩
              go_wp2_with fail
              have hcmp3 := fun w => eqlBt w (M, b0, b1, b2, b3, b4, b5, b6, b7) noneB
              simp only [show (btC noneB).toArray = #[.int .i64 (-1), .int .i64 0, .int .i64 0, .int .i64 0, .int .i64 0, .int .i64 0, .int .i64 0, .int .i64 0, .int .i64 0] from rfl, show (btC (M, b0, b1, b2, b3, b4, b5, b6, b7)).toArray = #[.int .i64 M, .int .i64 b0, .int .i64 b1, .int .i64 b2, .int .i64 b3, .int .i64 b4, .int .i64 b5, .int .i64 b6, .int .i64 b7] from rfl] at hcmp3
              refine wp_planK [] 5 [] [some 46, some 47, some 48, some 49, some 45] [[], [0], [], [0, 1, 2], [0, 1, 2, 3]] [0, 1, 2, 3, 4] (fun Lf σ V => Below w9.heap.size w9 V) mixed rfl (by kernel_rfl) (by decide) (by decide) (by decide) HI.out.drew rfl ?_
              iterate 5 apply Exists.intro
              refine ⟨rfl, ?_, ?_⟩
              · simp only [List.take_succ_cons, List.take_zero, AllFrom.cons_eq, AllFrom.nil_eq, OpGoalK]
                refine ⟨?_, ?_, ?_, ?_, ?_, trivial⟩
                all_goals (intro L' σ V h1 h2 h3 hI hp; have HA1 := Lib.hid h1; have HA2 := Lib.hid h2; have HA3 := Lib.hid h3; clear h1 h2 h3; (try simp only [List.getD_cons_zero, List.getD_cons_succ, preK_cons, preK_nil] at hp); (try simp only [List.not_mem_nil, false_or, and_true] at hp); (first | (have hq : True := hp; clear hq hp) | skip); have HI := Lib.hid hI; clear hI)
                all_goals (
                  have hz := (Mod.ofBelow HI.out).keep Hz9.out (by simp)
                  have u0 : V.cell? ⟨wr.heap.size, 11, none⟩ = some (.int .i64 M) := (blk_cell hz 11).trans (by rfl)
                  have u1 : V.cell? ⟨wr.heap.size, 12, none⟩ = some (.int .i64 b0) := (blk_cell hz 12).trans (by rfl)
                  have u2 : V.cell? ⟨wr.heap.size, 13, none⟩ = some (.int .i64 b1) := (blk_cell hz 13).trans (by rfl)
                  have u3 : V.cell? ⟨wr.heap.size, 14, none⟩ = some (.int .i64 b2) := (blk_cell hz 14).trans (by rfl)
                  have u4 : V.cell? ⟨wr.heap.size, 15, none⟩ = some (.int .i64 b3) := (blk_cell hz 15).trans (by rfl)
                  have u5 : V.cell? ⟨wr.heap.size, 16, none⟩ = some (.int .i64 b4) := (blk_cell hz 16).trans (by rfl)
                  have u6 : V.cell? ⟨wr.heap.size, 17, none⟩ = some (.int .i64 b5) := (blk_cell hz 17).trans (by rfl)
                  have u7 : V.cell? ⟨wr.heap.size, 18, none⟩ = some (.int .i64 b6) := (blk_cell hz 18).trans (by rfl)
                  have u8 : V.cell? ⟨wr.heap.size, 19, none⟩ = some (.int .i64 b7) := (blk_cell hz 19).trans (by rfl)
                  have ul : wr.heap.size < V.heap.size := blk_lt hz
                  clear hz)
                · (go_simp; exact ⟨.inr rfl, HI.out⟩)
                · (go_simp; exact ⟨.inr rfl, HI.out⟩)
                · (go_simp; refine (diffNone_any _).mono ?_; rintro e V2 ⟨h0, hb⟩; rw [show beV noneB = .agg #[.int .i64 (-1), .int .i64 0, .int .i64 0, .int .i64 0, .int .i64 0, .int .i64 0, .int .i64 0, .int .i64 0, .int .i64 0] from rfl] at h0; subst h0; exact ⟨_, rfl, .inr rfl, HI.out.trans (hb.mono HI.out.size)⟩)
                · (go_simp; exact ⟨.inr rfl, HI.out⟩)
                · (go_simp; exact ⟨.inr rfl, HI.out⟩)
              · intro L' σ V h1 hI hp
                clear h1
                simp only [preK_cons, preK_nil, List.getD_cons_zero, List.getD_cons_succ] at hp; simp only [List.not_mem_nil, false_or, and_true] at hp
                have hz := (Mod.ofBelow hI).keep Hz9.out (by simp)
                have q0 : V.cell? ⟨wr.heap.size, 0, none⟩ = some (.int .i64 s) := (blk_cell hz 0).trans (by rfl)
                have q1 : V.cell? ⟨wr.heap.size, 1, none⟩ = some (.int .i64 g) := (blk_cell hz 1).trans (by rfl)
                have hNnV := blk_piece hz 11 (btC (M, b0, b1, b2, b3, b4, b5, b6, b7)) (cg_now ((s, g), (K, a0, a1, a2, a3, a4, a5, a6, a7), (M, b0, b1, b2, b3, b4, b5, b6, b7)))
                have hql : wr.heap.size < V.heap.size := blk_lt hz
                have hMV := HM9.out.mod (Mod.ofBelow hI) (by simp)
                have hbV := HB9.out.trans (hI.mono HB9.out.size)
                have HIV := Lib.hid hI; have HNnV := Lib.hid hNnV; have HBV := Lib.hid hbV
                clear hI hNnV hbV
                clear hz hcmp3
                simp only [List.drop_succ_cons, List.drop_zero]
                go_simp
                clear hp
                cases hn : eqB (M, b0, b1, b2, b3, b4, b5, b6, b7) noneB with
                | true =>
                  have hne : (K, a0, a1, a2, a3, a4, a5, a6, a7) ≠ noneB := fun e => by have h := He.out; rw [e, ← eqB_ok hn, eqB_self] at h; cases h
                  have hin := getM_mem (eqB_ok Hg.out) hne
                  obtain ⟨V3, l3, hrunD, hM3, hl3, hm3, hs3⟩ := mh_del (ty := 0) rwPr_keys Try.underlying43 hMV Hxr.out (HP.out.mem_iff.2 hin)
                  have hrunD' : (Builtin.delete_ #[43, 28] 0 #[.map (some mx), .agg #[.int .i64 s, .int .i64 g]]).run Try.prog V = .ok (.tuple #[]) V3 := hrunD
                  have hp3 : l3.Perm (delR R (s, g)) := by rw [hl3]; exact HP.out.filter _
                  have hb3 : Below w.heap.size w V3 := HBV.out.trans (hm3.toBelow (by have := Hmx.out; simpa using this) HBV.out.size)
                  have hr3 := (run_del He.out Hg.out hn).symm.trans HRun.out
                  have HM3 := Lib.hid hM3; have HP3 := Lib.hid hp3; have HB3 := Lib.hid hb3; have HR3 := Lib.hid hr3
                  clear hM3 hp3 hb3 hr3
                  clear hrunD hl3 hm3 hin hne hn hMV hs3
                  go_wp2_with fail
                  refine ⟨rfl, ?_⟩
                  go_wp2
                  go_roundw
                  case rel => exact ⟨k + 1, delR R (s, g), l3, by omega, by go_num, HM3.out, HP3.out, HSR.out.del _, HB3.out, HR3.out, by have := delR_len R (s, g); have := HLen.out; omega, fun r hr => HRr.out r (List.mem_filter.1 hr).1⟩
                  case measure => simp [intOf]; omega
                | false =>
                  obtain ⟨V3, l3, hrunU, hM3, hl3, hm3, hs3⟩ := mh_upd rwPr_keys Try.underlying43 hMV Hxr.out (M, b0, b1, b2, b3, b4, b5, b6, b7)
                  have hrunU' : (Instr.mapUpdate 43 (.map (some mx)) (.agg #[.int .i64 s, .int .i64 g]) (.agg #[.int .i64 M, .int .i64 b0, .int .i64 b1, .int .i64 b2, .int .i64 b3, .int .i64 b4, .int .i64 b5, .int .i64 b6, .int .i64 b7])).run Try.prog V = .ok () V3 := hrunU
                  have hp3 : l3.Perm (setR (delR R (s, g)) ((s, g), (M, b0, b1, b2, b3, b4, b5, b6, b7))) := hl3.trans (((HP.out.filter _).cons _).trans (setR_perm _ _).symm)
                  have hb3 : Below w.heap.size w V3 := HBV.out.trans (hm3.toBelow (by have := Hmx.out; simpa using this) HBV.out.size)
                  have hr3 := (run_put He.out Hg.out hn).symm.trans HRun.out
                  have HM3 := Lib.hid hM3; have HP3 := Lib.hid hp3; have HB3 := Lib.hid hb3; have HR3 := Lib.hid hr3
                  clear hM3 hp3 hb3 hr3
                  clear hrunU hl3 hm3 hn hMV hs3
                  go_wp2_with fail
                  refine ⟨rfl, ?_⟩
                  go_wp2_with (first | (refine wpList_load_flat rfl 31 (.tmp 29) rfl ⟨wr.heap.size, 11, none⟩ rfl [.int .i64 M, .int .i64 b0, .int .i64 b1, .int .i64 b2, .int .i64 b3, .int .i64 b4, .int .i64 b5, .int .i64 b6, .int .i64 b7] _ Try.underlying31 rfl (by kernel_rfl) HNnV.out ?_) | fail)
                  go_wp2
                  go_roundw
                  case rel => exact ⟨k + 1, _, l3, by omega, by go_num, HM3.out, HP3.out, (HSR.out.del _).put delR_ne, HB3.out, HR3.out, by have := setR_len (delR R (s, g)) ((s, g), (M, b0, b1, b2, b3, b4, b5, b6, b7)); have := delR_len R (s, g); have := HLen.out; omega, fun r hr => by
                    rcases List.mem_cons.1 ((setR_perm _ _).mem_iff.1 hr) with rfl | hr
                    · exact Hxr.out
                    · exact HRr.out r (List.mem_filter.1 hr).1⟩
                  case measure => simp [intOf]; omega
      · obtain rfl : k = cs.length := by omega
        rw [List.drop_length] at hrun
        have hrun : runR la cs = (R, 0) := hrun.symm
        have hlR : R.length ≤ 180 := by have := H120.out; omega
        have hlx : lx'.length ≤ 180 := by rw [hp.length_eq]; exact hlR
        obtain ⟨w7, hw7, hb7, hz7, hs7⟩ := box1 wr (.cells #[.map (some mx)] 43)
        have hM7 := hM.mod (Mod.ofBelow hb7) (by simp)
        have hap := mh_apart rwPr_keys hM
        have hseq := fun n => keys_seq n hM7 wr.heap.size hz7
        have hS := sortedFunc_any (w := w7) (enters_of Try.func32 (by kernel_rfl) rfl) (by omega) hseq (fun l hl => by have := hl.length_eq; simp at this; omega)
        have hb07 := hBr.trans (hb7.mono hBr.size)
        have HM7 := Lib.hid hM7; have Hap := Lib.hid hap; have HS := Lib.hid hS; have Hb07 := Lib.hid hb07; have HlR := Lib.hid hlR; have HLx := Lib.hid hlx; have HW7 := Lib.hid hw7; have HP := Lib.hid hp; have HSR := Lib.hid hsR; have HRr := Lib.hid hRr; have HRun := Lib.hid hrun
        clear hM7 hap hS hb07 hlR hlx hw7 hp hsR hRr hrun
        clear hM hBr hb7 hz7 hs7 hseq hlt hlen
        go_wp2_with fail
        refine (keys_any mx wr).mono ?_
        rintro e w7' ⟨rfl, rfl⟩
        rw [HW7.out]
        go_wp2_with fail
        refine HS.out.mono ?_
        rintro e w8 ⟨v, xs, hs, rfl, hxs, hp, hpw, hown8, hb8⟩
        have hBH : BetH R [] hs := betH_of (l' := lx') (fun h => by rw [hasH_perm HP.out]; exact ⟨.inl, fun e => e.resolve_right (hasH_nil h)⟩) Hap.out hxs hp hpw
        have hks := keys_of HSR.out hBH
        have hlen8 : hs.length ≤ 180 := by rw [hks, List.length_map]; exact HlR.out
        obtain ⟨A8, c8, rfl, hc8, hL8⟩ := row_lies hown8
        have hb08 := Hb07.out.trans (hb8.mono Hb07.out.size)
        have hM8 := HM7.out.mod (Mod.ofBelow hb8) (by simp)
        have hgR : ∀ h ∈ hs, HdR h ∧ (h, getM R h) ∈ lx' := fun h hh => by
          rcases (hBH.mem h).1 hh with ⟨b, hb⟩ | hb
          · exact ⟨HRr.out _ hb, by rw [getM_in HSR.out.apart hb]; exact HP.out.mem_iff.2 hb⟩
          · exact absurd hb (hasH_nil h)
        have hout : hs.map (fun h => (h, getM R h)) = R := by rw [hks]; exact rows_of HSR.out
        have HOut := Lib.hid hout; have Hlen8 := Lib.hid hlen8; have HL8 := Lib.hid hL8; have Hb08 := Lib.hid hb08; have HM8 := Lib.hid hM8; have HGR := Lib.hid hgR
        clear hout hlen8 hL8 hb08 hM8 hgR
        clear hxs hp hpw hown8 hb8 hBH hks hc8
        go_wp2_with fail
        go_loopw [9, 58] (fun v i wr => ∃ k : Nat, k ≤ hs.length ∧ i = .int .i64 k ∧ wr.ownsRow w8.heap.size 33 11 v ((hs.take k).map (fun h => (h, getM R h))).length (((hs.take k).map (fun h => (h, getM R h))).flatMap rwC) ∧ Below w8.heap.size w8 wr) (fun _ i _ => hs.length - (intOf i).toNat)
        case atStart => exact ⟨0, by omega, rfl, ⟨rfl, .inl ⟨rfl, rfl⟩⟩, Below.refl _ _⟩
        case round =>
          obtain ⟨k, hk, rfl, hown, hB8⟩ := hrel
          have hsz := hB8.size
          by_cases hlt : k < hs.length
          · obtain ⟨ab, ao, rfl, hal, hc⟩ := HL8.out.rec_at handleC_len (by omega) hlt
            have hq : ∀ j u, (handleC hs[k])[j]? = some u → wr.cell? ((⟨ab, ao + k * 2, none⟩ : Addr).add j) = some u := fun j u hu => (hB8.cell (p := (⟨ab, ao + k * 2, none⟩ : Addr).add j) (by rw [add_block]; exact hal)).trans (by first | exact hc j u hu | (have := hc j u hu; rw [Addr.add_mid]; exact this))
            have hki : (k : Int) < (hs.length : Int) := by omega
            have Hki := Lib.hid hki
            have hst : (hs.take (k + 1)).map (fun h => (h, getM R h)) = (hs.take k).map (fun h => (h, getM R h)) ++ [(hs[k], getM R hs[k])] := by rw [take_succ_get hs k hlt, List.map_append]; rfl
            have hll : ((hs.take k).map (fun h => (h, getM R h))).length ≤ 180 := by rw [List.length_map, List.length_take]; have := Hlen8.out; omega
            have hmem := HGR.out _ (List.getElem_mem hlt)
            generalize (hs.take k).map (fun h => (h, getM R h)) = L at *
            generalize hs[k] = x at *
            obtain ⟨s, g⟩ := x
            generalize getM R (s, g) = b at *
            obtain ⟨J, d0, d1, d2, d3, d4, d5, d6, d7⟩ := b
            obtain ⟨w9, hw9, hb9, hz9, hs9⟩ := box1 wr (.cells #[.int .i64 s, .int .i64 g] 28)
            have hb89 := hB8.trans (hb9.mono hsz)
            have hown9 := row_mod hown (Mod.ofBelow hb9) (by simp)
            have hlk : ∀ V, Below w9.heap.size w9 V → (Instr.lookup 43 (.map (some mx)) (.agg #[.int .i64 s, .int .i64 g]) false).run Try.prog V = .ok (.agg #[.int .i64 J, .int .i64 d0, .int .i64 d1, .int .i64 d2, .int .i64 d3, .int .i64 d4, .int .i64 d5, .int .i64 d6, .int .i64 d7]) V := fun V hV => by
              have h := mh_in rwPr_keys Try.underlying43 (HM8.out.mod (Mod.ofBelow (hb89.trans (hV.mono hb89.size))) (by simp)) hmem.1 hmem.2 false
              exact h
            have HQ := Lib.hid hq; have Hst := Lib.hid hst; have Hlen := Lib.hid hll; have Hz9 := Lib.hid hz9; have HB89 := Lib.hid hb89; have HO9 := Lib.hid hown9; have HS9 := Lib.hid hs9; have HW9 := Lib.hid hw9; have HLk := Lib.hid hlk
            clear hq hst hll hz9 hb89 hown9 hs9 hw9 hlk
            clear hc hown hb9 hB8 hmem
            go_wp2_with (first | (refine wpList_load_flat rfl 28 (.tmp 60) rfl _ rfl [.int .i64 s, .int .i64 g] _ Try.underlying28 rfl (by kernel_rfl) HQ.out ?_) | fail)
            rw [HW9.out]
            refine wp_planK [6] 7 [2] [some 62, some 63, some 64, some 65, some 66, some 67, some 68, some 69, some 9] [[], [], [], [], [2, 3], [1, 2, 3, 4], [1, 2, 3, 4, 5], [0, 1, 2, 3, 4, 5, 6], [0, 1, 2, 3, 4, 5, 6, 7]] [0, 1, 2, 3, 4, 5, 6] (fun Lf σ V => IMk 6 w9 ((s, g), (J, d0, d1, d2, d3, d4, d5, d6, d7)) Lf σ V) mixed rfl (by kernel_rfl) (by decide) (by decide) (by decide) (IMk.start below_drew) rfl ?_
            iterate 7 apply Exists.intro
            refine ⟨rfl, ?_, ?_⟩
            · simp only [List.take_succ_cons, List.take_zero, AllFrom.cons_eq, AllFrom.nil_eq, OpGoalK]
              refine ⟨?_, ?_, ?_, ?_, ?_, ?_, ?_, trivial⟩
              all_goals (intro L' σ V h1 h2 h3 hI hp; have HA1 := Lib.hid h1; have HA2 := Lib.hid h2; have HA3 := Lib.hid h3; clear h1 h2 h3; (try simp only [List.getD_cons_zero, List.getD_cons_succ, preK_cons, preK_nil] at hp); (try simp only [List.mem_cons, List.not_mem_nil, or_false, eq_self, Nat.reduceEqDiff, Nat.reduceAdd, Nat.zero_add, false_or, true_or, true_and, and_true] at hp); (first | (have hq : True := hp; clear hq hp) | skip); have HI := Lib.hid hI; clear hI)
              all_goals (
                have hzV := (Mod.ofBelow HI.out.b).keep Hz9.out (by simp)
                have hlk := HLk.out V HI.out.b
                have q0 := blk_cell hzV 0
                have q1 := blk_cell hzV 1
                simp only [List.getElem?_toArray, List.getElem?_cons_zero, List.getElem?_cons_succ] at q0 q1
                have ql := blk_lt hzV
                clear hzV)
              · (go_simp; exact ⟨.inr rfl, HI.out.read (by decide) _⟩)
              · (go_simp; exact ⟨.inr rfl, HI.out.read (by decide) _⟩)
              · (go_simp; exact ⟨.inr rfl, HI.out.read (by decide) _⟩)
              · (go_simp; exact ⟨.inr rfl, HI.out.read (by decide) _⟩)
              · (go_simp; exact ⟨.inr rfl, HI.out.read (by decide) _⟩)
              · (go_simp; exact ⟨.inr rfl, HI.out.read (by decide) _⟩)
              · go_simp
                exact PostK.mk (c := undef) (.inl (by decide)) HI.out.oned
            · intro L' σ V h1 hI hp
              have ho := hI.o (h1 6 (by decide))
              have hI := hI.b
              clear h1
              simp only [preK_cons, preK_nil, List.getD_cons_zero, List.getD_cons_succ] at hp; simp only [List.mem_cons, List.not_mem_nil, or_false, eq_self, Nat.reduceEqDiff, false_or, true_or, true_and, and_true] at hp
              have hbV := HB89.out.trans (hI.mono HB89.out.size)
              have hOV := row_mod HO9.out (Mod.ofBelow hI) (by simp)
              have HBV := Lib.hid hbV; have HOV := Lib.hid hOV; have Ho := Lib.hid ho
              clear hbV hOV ho
              clear hI
              simp only [List.drop_succ_cons, List.drop_zero]
              go_simp
              clear hp
              generalize σ 6 = v6 at *
              go_wp2_with (at_builtin; refine app_oneR (enc := rwC) (n := 11) (z := .agg (ints zero11).toArray) (bytes := 88) rfl _ _ 22 33 rfl Try.underlying22 inf_Row rfl (by omega) (by omega) rwC_one rwC_len w8.heap.size _ L ((s, g), (J, d0, d1, d2, d3, d4, d5, d6, d7)) w9.heap.size _ 33 rfl HOV.out Ho.out rfl (by have := Hlen.out; omega) (by have := HBV.out.size; omega) ?_; intro v' w' hown' hg' hloc)
              have hb' : Below w8.heap.size w8 w' := HBV.out.grown hg' (by have := HBV.out.size; omega) (own_ge HOV.out)
              have Hown' := Lib.hid hown'; have Hb' := Lib.hid hb'
              clear hown' hb'
              clear hg' hloc
              have hl8 := Hlen8.out
              have hki := Hki.out
              refine ⟨rfl, ?_⟩
              go_wp2_with fail
              go_roundw
              case rel => exact ⟨k + 1, by have := Hki.out; omega, by go_num, by rw [Hst.out]; exact Hown'.out, Hb'.out⟩
              case measure => have := Hki.out; simp [intOf]; omega
          · obtain rfl : k = hs.length := by omega
            rw [List.take_length, HOut.out] at hown
            have hown0 := row_base (B' := w.heap.size) hown (fun k hk => Nat.le_trans Hb08.out.size (own_ge hown k hk))
            obtain ⟨A9, c9, rfl, hc9, hL9⟩ := row_lies hown
            have hb09 := Hb08.out.trans (hB8.mono Hb08.out.size)
            have hlR := HlR.out
            have Hown0 := Lib.hid hown0; have HL9 := Lib.hid hL9; have Hb09 := Lib.hid hb09
            clear hown0 hL9 hb09
            clear hown hB8 hc9 hlt
            go_wp2_with fail
            refine (may_any A9 c9 R _ (by have := HlR.out; omega) HL9.out).mono ?_
            rintro e wx ⟨rfl, hbx⟩
            have hb0x := Hb09.out.trans (hbx.mono Hb09.out.size)
            cases hmR : mayB R with
            | false =>
              have Hfin := Lib.hid (apl_none (aplZ_endbad Hma.out H120.out HRun.out hmR) hb0x)
              clear hbx hb0x hmR
              go_wp2_with fail
              refine bodyPost_ret (v := .tuple #[.slice none 0 0, .int .i64 4]) (by unfold results; try go_simp) rfl Hfin.out
            | true =>
              have hfin : AplPost la cs w (.returned (.tuple #[.slice A9 R.length c9, .int .i64 0])) wx := by
                obtain ⟨e1, e2⟩ := aplZ_end Hma.out H120.out HRun.out hmR
                refine ⟨_, by rw [e1], ?_, hb0x⟩
                rw [e2]
                exact row_mod Hown0.out (Mod.ofBelow hbx) (by simp)
              have Hfin := Lib.hid hfin
              clear hfin
              clear hbx hb0x hmR
              go_wp2_with fail
              refine bodyPost_ret (by unfold results; try go_simp) rfl Hfin.out
end Go.Proofs.Ytfbcdblgfhekpaa
