import Derived.Test.YtehjfmjibiafdaaGreatZooLoadsJ37
import Derived.Test.YtehjfmjibiafdaaGreatZooLoadsJ33
import Derived.Test.YtehjfmjibiafdaaGreatZooLoadsJ38
import Derived.Test.YtehjfmjibiafdaaGreatZooLoadsJ1
/- R.Load. (printed by mk_zload.py) -/
namespace Go.Proofs.YtehjfmjibiafdaaGreat
open Go Go.RowKit
attribute [local go_sem] AllFrom.cons_eq AllFrom.nil_eq putF_nil putF_cons wantedL_none wantedL_some OpGoalT OpGoalV OpGoalQ OpGoalA OpGoalK YieldsR preF_nil preF_cons

def QLdPost (gs : List Int) (rows : List Rw) (bs : List Bd) (w : World) (e : Ending) (w' : World) : Prop :=
  Below w.heap.size w w' ∧ ((zlE gs rows bs ≠ 0 ∧ e = .returned (.tuple #[.pointer none, .int .i64 (zlE gs rows bs)])) ∨
    (zlE gs rows bs = 0 ∧ ∃ q F, e = .returned (.tuple #[.pointer (some ⟨q, 0, none⟩), .int .i64 0]) ∧ RepQ q (wlS gs rows) (wlL gs rows) (zlB gs rows bs) w' F ∧ (∀ y ∈ F, w.heap.size ≤ y)))
theorem qld_err {gs : List Int} {rows : List Rw} {bs : List Bd} {w w' : World} {z : Int} (h : zlE gs rows bs = z) (hz : z ≠ 0) (hb : Below w.heap.size w w') : QLdPost gs rows bs w (.returned (.tuple #[.pointer none, .int .i64 z])) w' := by
  subst h
  exact ⟨hb, .inl ⟨hz, rfl⟩⟩
theorem rwload_anyZ {w : World} {A A2 : Option Addr} {c c2 : Nat} {gs : List Int} {rows : List Rw} (hg : gs.length ≤ 9223372036854775807) (hr : rows.length ≤ 9223372036854775807) (hA : Lies w w.heap.size A (ints gs)) (hA2 : Lies w w.heap.size A2 (rows.flatMap rwC)) : Calls Tryz.prog 32 #[.slice A gs.length c, .slice A2 rows.length c2] w (RWLPost gs rows w) := by
  by_cases h60 : rows.length ≤ 60
  · exact rwload_in h60 hg hA hA2
  · exact rwload_long (by omega) hr
theorem q_parent {q : Nat} {sl : Sl} {L : List Rw} {B : List Bd} {w : World} {F : List Nat} (h : RepQ q sl L B w F) (hl : B.length ≤ 60) (s g : Int) : Calls Tryz.prog 20 #[.pointer (some ⟨q, 0, none⟩), .agg #[.int .i64 s, .int .i64 g]] w (fun e w' => e = .returned (.tuple #[hdV (parV (parB B (s, g))), .bool (parB B (s, g)).isSome]) ∧ Below w.heap.size w w') := by
  obtain ⟨vg, vl, vr, FB, h1⟩ := h.b_
  exact rpar_any h1 (by omega) s g

set_option maxRecDepth 20000 in
set_option maxHeartbeats 8000000 in
theorem qload_any {w : World} {A1 A2 A3 : Option Addr} {c1 c2 c3 : Nat} {gs : List Int} {rows : List Rw} {bs : List Bd} (hg : gs.length ≤ 9223372036854775807) (hr : rows.length ≤ 9223372036854775807) (hbl : bs.length ≤ 9223372036854775807)
    (hA1 : Lies w w.heap.size A1 (ints gs)) (hA2 : Lies w w.heap.size A2 (rows.flatMap rwC)) (hA3 : Lies w w.heap.size A3 (bs.flatMap bdC)) (hWk : wlE gs rows = 0 → WOk (wlS gs rows) (wlL gs rows)) :
    Calls Tryz.prog 9 #[.agg #[.slice A1 gs.length c1, .slice A2 rows.length c2, .slice A3 bs.length c3]] w (QLdPost gs rows bs w) := by
  obtain ⟨w0, hw0, hb0, hz0, hs0⟩ := box1 w (.cells #[.slice A1 gs.length c1, .slice A2 rows.length c2, .slice A3 bs.length c3] 26)
  have H1 := Lib.hid (rwload_anyZ (c := c1) (c2 := c2) hg hr ((hA1.below hb0).mono hb0.size) ((hA2.below hb0).mono hb0.size))
  have o0 := blk_cell hz0 0
  have o1 := blk_cell hz0 1
  have o2 := blk_cell hz0 2
  simp only [List.getElem?_toArray, List.getElem?_cons_zero, List.getElem?_cons_succ] at o0 o1 o2
  have ol := blk_lt hz0
  have Hb0 := Lib.hid hb0; have Hz0 := Lib.hid hz0; have HA3 := Lib.hid hA3; have HWk := Lib.hid hWk; have Hs0 := Lib.hid hs0
  clear hb0 hz0 hA3 hWk hs0
  clear hA1 hA2
  go_enter Tryz.func9, Tryz.ntmps9
  go_wp2_with fail
  clear hw0 o0 o1 o2 ol
  refine H1.out.mono ?_
  rintro e w1 ⟨hb1, hcase⟩
  have hb01 := Hb0.out.trans (hb1.mono Hb0.out.size)
  rcases hcase with ⟨hne, rfl⟩ | ⟨he0, q, FZ, rfl, hZ, hFZ⟩
  · have hfin := qld_err (bs := bs) (zlE_bad hne) hne hb01
    have hne' : (wlE gs rows != 0) = true := by simpa using hne
    generalize wlE gs rows = ze at *
    have Hfin := Lib.hid hfin
    clear hfin
    clear hb1 hne hb01 H1 HWk
    go_wp2_with fail
    refine bodyPost_ret (v := .tuple #[.pointer none, .int .i64 ze]) (by unfold results; try go_simp) rfl Hfin.out
  have hz1 := (Mod.ofBelow hb1).keep Hz0.out (by simp)
  have hwk := HWk.out he0
  have hV3 : RepQ q (wlS gs rows) (wlL gs rows) [] w1 FZ := ⟨.slice none 0 0, FZ, hZ, ⟨rfl, .inl ⟨rfl, rfl⟩⟩, by simp [Value.ownBlock], by simp [Value.ownBlock]⟩
  have hge : ∀ y ∈ FZ, w0.heap.size ≤ y := hFZ
  have hA33 := Lies.below HA3.out hb01
  obtain ⟨LL, hLL⟩ : ∃ LL, wlL gs rows = LL := ⟨_, rfl⟩
  obtain ⟨sl, hsl⟩ : ∃ sl, wlS gs rows = sl := ⟨_, rfl⟩
  have hfinE : ∀ B z, loadB sl [] bs = (B, z) → zlE gs rows bs = z ∧ zlB gs rows bs = B := fun B z h => zlE_run he0 (by rw [hsl]; exact h)
  rw [hLL, hsl] at hV3 hwk
  have o0 := blk_cell hz1 0
  have o1 := blk_cell hz1 1
  have o2 := blk_cell hz1 2
  simp only [List.getElem?_toArray, List.getElem?_cons_zero, List.getElem?_cons_succ] at o0 o1 o2
  have ol := blk_lt hz1
  have HV3 := Lib.hid hV3; have Hge := Lib.hid hge; have Hb01 := Lib.hid hb01; have Hz1 := Lib.hid hz1; have HA33 := Lib.hid hA33; have Hsl := Lib.hid hsl; have HLL := Lib.hid hLL; have HfinE := Lib.hid hfinE; have HWo := Lib.hid hwk
  clear hV3 hge hb01 hz1 hA33 hsl hLL hfinE hwk
  clear H1 hb1 hZ hFZ he0
  go_wp2_with fail
  clear o0 o1 o2 ol
  go_loopw [25] (fun i wr => ∃ (k : Nat) (B : List Bd), k ≤ bs.length ∧ i = .int .i64 k ∧ OwnPost (RepQ q sl LL B) FZ w1 wr ∧ loadB sl B (bs.drop k) = loadB sl [] bs ∧ ZOk sl LL B) (fun i _ => bs.length - (intOf i).toNat)
  case atStart => exact ⟨0, [], by omega, rfl, OwnPost.ofBelow (own_Q _ _ _ _) HV3.out (Below.refl _ _), rfl, ⟨HWo.out, famOk_nil, by simp⟩⟩
  case round =>
    obtain ⟨k, B, hk, rfl, hOP, hld, hO⟩ := hrel
    have hge' : ∀ y ∈ FZ, w.heap.size ≤ y := fun y hy => Nat.le_trans Hb0.out.size (Hge.out y hy)
    have hbr : Below w.heap.size w wr := Hb01.out.trans (hOP.mod.toBelow hge' Hb01.out.size)
    by_cases hlt : k < bs.length
    · obtain ⟨ab, ao, rfl, hal, hc⟩ := HA3.out.rec_at bdC_len (by omega) hlt
      have hq : ∀ j u, (bdC bs[k])[j]? = some u → wr.cell? ((⟨ab, ao + k * 4, none⟩ : Addr).add j) = some u := fun j u hu => (hbr.cell (p := (⟨ab, ao + k * 4, none⟩ : Addr).add j) (by rw [add_block]; exact hal)).trans (by first | exact hc j u hu | (have := hc j u hu; rw [Addr.add_mid]; exact this))
      have hki : (k : Int) < (bs.length : Int) := by omega
      rw [List.drop_eq_getElem_cons hlt] at hld
      generalize bs[k] = x at *
      obtain ⟨⟨s, g⟩, t, u⟩ := x
      obtain ⟨F1, hV, hT⟩ := hOP
      obtain ⟨w4, hw4, hb4, hz4, hs4⟩ := box1 wr (.cells #[.int .i64 s, .int .i64 g, .int .i64 t, .int .i64 u] 84)
      have hV4 := hV.below hb4
      have hN : wr.heap.size ∉ F1 := fun e => by have := hV.lt _ e; omega
      have HOo := Lib.hid (bdC_one ((s, g), (t, u)))
      have hT4 := hT.below hb4
      have q0 := blk_cell hz4 0
      have q1 := blk_cell hz4 1
      have q2 := blk_cell hz4 2
      have q3 := blk_cell hz4 3
      simp only [List.getElem?_toArray, List.getElem?_cons_zero, List.getElem?_cons_succ] at q0 q1 q2 q3
      have ql := blk_lt hz4
      have HQ := Lib.hid hq; have HLd := Lib.hid hld; have HO := Lib.hid hO; have HV4 := Lib.hid hV4; have HT4 := Lib.hid hT4; have Hz4 := Lib.hid hz4; have HN := Lib.hid hN; have Hw4 := Lib.hid hw4; have Hbr := Lib.hid hbr; have Hs4 := Lib.hid hs4; have Hb4 := Lib.hid hb4; have Hlt := Lib.hid hlt
      clear hq hld hO hV4 hT4 hz4 hN hw4 hbr hs4 hb4 hlt
      clear hc hV hT hge'
      cases hl1 : liveB sl s g with
      | false =>
        have hdead : liveZ sl [((s, g), t, u).1, ((s, g), t, u).2] = false := by rw [liveZ_two]; simp only; rw [hl1]; rfl
        have HAt := Lib.hid (atI_dead HO.out.w hl1)
        have hE := (HfinE.out B 7 (HLd.out.symm.trans (loadB_dead hdead))).1
        have HE := Lib.hid hE
        clear hE
        clear hl1 hdead
        go_wp2_with (first | (refine wpList_load_flat rfl 84 (.tmp 27) rfl _ rfl [.int .i64 s, .int .i64 g, .int .i64 t, .int .i64 u] _ Tryz.underlying84 rfl (by kernel_rfl) HQ.out ?_) | (refine wpList_store_new rfl 84 (.tmp 7) (.tmp 28) rfl wr (ints [0, 0, 0, 0]) [.int .i64 s, .int .i64 g, .int .i64 t, .int .i64 u] 84 rfl rfl rfl (by kernel_rfl) HOo.out ?_; rw [show ([.int .i64 s, .int .i64 g, .int .i64 t, .int .i64 u] : List Value).toArray = #[.int .i64 s, .int .i64 g, .int .i64 t, .int .i64 u] from rfl, Hw4.out]) | fail)
        clear q0 q1 q2 q3 ql
        refine (q_at HV4.out HO.out.w s g).mono ?_
        rintro e w6 ⟨rfl, hb6⟩
        rw [HAt.out]
        have hfin := qld_err HE.out (by decide) (Hbr.out.trans ((Hb4.out.trans (hb6.mono Hb4.out.size)).mono Hbr.out.size))
        have Hfin := Lib.hid hfin
        clear hfin
        clear hb6
        go_wp2_with fail
        refine bodyPost_ret (v := .tuple #[.pointer none, .int .i64 7]) (by unfold results; try go_simp) rfl Hfin.out
      | true =>
        obtain ⟨i1, hAt1⟩ := atI_live HO.out.w (s := s) (g := g) hl1
        have hlt1 : decide ((i1 : Int) < 0) = false := by simp
        have HAt1 := Lib.hid hAt1; have Hl1 := Lib.hid hl1
        clear hAt1 hl1
        go_wp2_with (first | (refine wpList_load_flat rfl 84 (.tmp 27) rfl _ rfl [.int .i64 s, .int .i64 g, .int .i64 t, .int .i64 u] _ Tryz.underlying84 rfl (by kernel_rfl) HQ.out ?_) | (refine wpList_store_new rfl 84 (.tmp 7) (.tmp 28) rfl wr (ints [0, 0, 0, 0]) [.int .i64 s, .int .i64 g, .int .i64 t, .int .i64 u] 84 rfl rfl rfl (by kernel_rfl) HOo.out ?_; rw [show ([.int .i64 s, .int .i64 g, .int .i64 t, .int .i64 u] : List Value).toArray = #[.int .i64 s, .int .i64 g, .int .i64 t, .int .i64 u] from rfl, Hw4.out]) | fail)
        clear q0 q1 q2 q3 ql
        refine (q_at HV4.out HO.out.w s g).mono ?_
        rintro e w6 ⟨rfl, hb6⟩
        rw [HAt1.out]
        have hV6 := HV4.out.below hb6
        have hT6 := HT4.out.below hb6
        have hz6 := (Mod.ofBelow hb6).keep Hz4.out (by simp)
        have hb06 := Hbr.out.trans ((Hb4.out.trans (hb6.mono Hb4.out.size)).mono Hbr.out.size)
        have q0 := blk_cell hz6 0
        have q1 := blk_cell hz6 1
        have q2 := blk_cell hz6 2
        have q3 := blk_cell hz6 3
        simp only [List.getElem?_toArray, List.getElem?_cons_zero, List.getElem?_cons_succ] at q0 q1 q2 q3
        have ql := blk_lt hz6
        have HV6 := Lib.hid hV6; have HT6 := Lib.hid hT6; have Hz6 := Lib.hid hz6; have Hb06 := Lib.hid hb06
        clear hV6 hT6 hz6 hb06
        clear hb6
        cases hl2 : liveB sl t u with
        | false =>
          have hdead : liveZ sl [((s, g), t, u).1, ((s, g), t, u).2] = false := by rw [liveZ_two]; simp only; rw [Hl1.out, hl2]; rfl
          have HAt := Lib.hid (atI_dead HO.out.w hl2)
          have hE := (HfinE.out B 7 (HLd.out.symm.trans (loadB_dead hdead))).1
          have HE := Lib.hid hE
          clear hE
          clear hl2 hdead
          go_wp2_with fail
          clear q0 q1 q2 q3 ql
          refine (q_at HV6.out HO.out.w t u).mono ?_
          rintro e w7 ⟨rfl, hb7⟩
          rw [HAt.out]
          have hfin := qld_err HE.out (by decide) (Hb06.out.trans (hb7.mono Hb06.out.size))
          have Hfin := Lib.hid hfin
          clear hfin
          clear hb7
          go_wp2_with fail
          refine bodyPost_ret (v := .tuple #[.pointer none, .int .i64 7]) (by unfold results; try go_simp) rfl Hfin.out
        | true =>
          obtain ⟨i2, hAt2⟩ := atI_live HO.out.w (s := t) (g := u) hl2
          have hlt2 : decide ((i2 : Int) < 0) = false := by simp
          have hlv : liveZ sl [((s, g), t, u).1, ((s, g), t, u).2] = true := by rw [liveZ_two]; simp only; rw [Hl1.out, hl2]; rfl
          have HAt2 := Lib.hid hAt2; have Hlv := Lib.hid hlv
          clear hAt2 hl2 hlv
          go_wp2_with fail
          clear q0 q1 q2 q3 ql
          refine (q_at HV6.out HO.out.w t u).mono ?_
          rintro e w7 ⟨rfl, hb7⟩
          rw [HAt2.out]
          have hV7 := HV6.out.below hb7
          have hT7 := HT6.out.below hb7
          have hz7 := (Mod.ofBelow hb7).keep Hz6.out (by simp)
          have hb07 := Hb06.out.trans (hb7.mono Hb06.out.size)
          obtain ⟨o, ho⟩ : ∃ o, parB B (s, g) = o := ⟨_, rfl⟩
          obtain ⟨⟨ps, pg⟩, hps⟩ : ∃ x, parV o = x := ⟨_, rfl⟩
          have hPr := q_parent hV7 HO.out.len s g
          rw [ho] at hPr
          simp only [hdV, handleC, hps] at hPr
          obtain ⟨bo, hbo⟩ : ∃ bo, o.isSome = bo := ⟨_, rfl⟩
          rw [hbo] at hPr
          have q0 := blk_cell hz7 0
          have q1 := blk_cell hz7 1
          have q2 := blk_cell hz7 2
          have q3 := blk_cell hz7 3
          simp only [List.getElem?_toArray, List.getElem?_cons_zero, List.getElem?_cons_succ] at q0 q1 q2 q3
          have ql := blk_lt hz7
          have HV7 := Lib.hid hV7; have HT7 := Lib.hid hT7; have Hz7 := Lib.hid hz7; have Hb07 := Lib.hid hb07; have Ho := Lib.hid ho; have Hbo := Lib.hid hbo; have HPr := Lib.hid hPr
          clear hV7 hT7 hz7 hb07 ho hbo hPr
          clear hb7 hps
          go_wp2_with fail
          clear q0 q1 q2 q3 ql
          refine HPr.out.mono ?_
          rintro e w8 ⟨rfl, hb8⟩
          obtain ⟨w9, hw9, hb9, hz9, hs9⟩ := box1 w8 (.cells #[.int .i64 ps, .int .i64 pg] 41)
          have hb89 := hb8.trans (hb9.mono hb8.size)
          have hV9 := HV7.out.below hb89
          have hT9 := HT7.out.below hb89
          have hz79 := (Mod.ofBelow hb89).keep Hz7.out (by simp)
          have hb09 := Hb07.out.trans (hb89.mono Hb07.out.size)
          have q0 := blk_cell hz79 0
          have q1 := blk_cell hz79 1
          have q2 := blk_cell hz79 2
          have q3 := blk_cell hz79 3
          simp only [List.getElem?_toArray, List.getElem?_cons_zero, List.getElem?_cons_succ] at q0 q1 q2 q3
          have ql := blk_lt hz79
          have HV9 := Lib.hid hV9; have HT9 := Lib.hid hT9; have Hz79 := Lib.hid hz79; have Hb09 := Lib.hid hb09
          clear hV9 hT9 hz79 hb09
          clear hb8 hb9 hz9 hs9 hb89
          cases hbo2 : bo with
          | true =>
            have hfin := qld_err ((HfinE.out B 6 (HLd.out.symm.trans (loadB_twice Hlv.out (by simp only; rw [Ho.out, Hbo.out]; exact hbo2)))).1) (by decide) Hb09.out
            have Hfin := Lib.hid hfin
            clear hfin
            subst hbo2
            go_wp2_with fail
            refine bodyPost_ret (v := .tuple #[.pointer none, .int .i64 6]) (by unfold results; try go_simp) rfl Hfin.out
          | false =>
            have Hno := Lib.hid (show (parB B (s, g)).isSome = false by rw [Ho.out, Hbo.out]; exact hbo2)
            subst hbo2
            go_wp2_with fail
            clear hw9 q0 q1 q2 q3 ql
            refine (q_adopt HV9.out HO.out.f HO.out.len s g t u).mono ?_
            rintro e V7 ⟨rfl, hP⟩
            have hOP7 : OwnPost (RepQ q sl LL (adoB B (s, g) (t, u))) FZ w1 V7 := by
              obtain ⟨F4, h3, h4⟩ := hP
              exact ⟨F4, h3, HT9.out.trans h4⟩
            have hge' : ∀ y ∈ FZ, w.heap.size ≤ y := fun y hy => Nat.le_trans Hb0.out.size (Hge.out y hy)
            have hb7 : Below w.heap.size w V7 := Hb01.out.trans (hOP7.mod.toBelow hge' Hb01.out.size)
            have HOP7 := Lib.hid hOP7; have Hb7 := Lib.hid hb7
            clear hOP7 hb7
            clear hP hge'
            rcases adoE_cases B (s, g) (t, u) with he | he
            · have hgo := (loadB_go (r := bs.drop (k + 1)) Hlv.out Hno.out he).symm.trans HLd.out
              have hC7 := adoB_live (a := (s, g)) (b := (t, u)) HO.out.c ((liveB_iff sl s g).1 Hl1.out)
              have hF7 : FamOk (adoB B (s, g) (t, u)) := adoB_fam HO.out.f _ _
              rw [he]
              have Hgo := Lib.hid hgo; have HC7 := Lib.hid hC7; have HF7 := Lib.hid hF7
              clear hgo hC7 hF7
              clear he
              have hlt := Hlt.out
              go_wp2_with fail
              go_wp2
              go_roundw
              case rel => exact ⟨k + 1, _, by omega, by go_num, HOP7.out, Hgo.out, ⟨HO.out.w, HF7.out, HC7.out⟩⟩
              case measure => simp [intOf]; omega
            · have hfin := qld_err ((HfinE.out B 8 (HLd.out.symm.trans ((loadB_loop Hlv.out Hno.out (by simp only; rw [he]; decide)).trans (by simp only; rw [he])))).1) (by decide) Hb7.out
              rw [he]
              have Hfin := Lib.hid hfin
              clear hfin
              clear he
              go_wp2_with fail
              refine bodyPost_ret (v := .tuple #[.pointer none, .int .i64 8]) (by unfold results; try go_simp) rfl Hfin.out
    · obtain rfl : k = bs.length := by omega
      rw [List.drop_length] at hld
      obtain ⟨e1, e2⟩ := HfinE.out B 0 hld.symm
      obtain ⟨F4, h4, h5⟩ := hOP
      have hfin : QLdPost gs rows bs w (.returned (.tuple #[.pointer (some ⟨q, 0, none⟩), .int .i64 0])) wr := by
        refine ⟨hbr, .inr ⟨e1, q, F4, rfl, ?_, fun y hy => ?_⟩⟩
        · rw [Hsl.out, HLL.out, e2]; exact h4
        · rcases h5.new y hy with h | h
          · exact hge' y h
          · exact Nat.le_trans Hb01.out.size h
      have Hfin := Lib.hid hfin
      clear hfin
      clear h4 h5 hbr hge' hld hlt e1 e2 hO
      go_wp2_with fail
      refine bodyPost_ret (v := .tuple #[.pointer (some ⟨q, 0, none⟩), .int .i64 0]) (by unfold results; try go_simp) rfl Hfin.out
end Go.Proofs.YtehjfmjibiafdaaGreat

/- A slice that is a cell of a struct, opened. -/
namespace Go.Proofs.YtehjfmjibiafdaaGreat
open Go Go.ChangeShapes Go.WideShapes Go.ChangeAt Go.RowKit
section
variable {P : Program} {t e : TypeId}
/-- A slice of such elements. -/
theorem open_slice_cell {H : Type} {enc : TypeId × Value → H} {W : World} {v : Value} {y : DataW H × List MemPlace} {fuel B k : Nat} (ht : P.underlying t = some (.slice e))
    (he : IntCells P e) (hk : P.cellsOf e = k) (hpos : 0 < k) (hf : DataW.trod enc P W 0 (fun _ => true) true fuel t [v] = some y) (hlt : ∀ p ∈ y.2, p.block < B) :
    ∃ (A : Option Addr) (n c : Nat) (zs : List Int), v = .slice A n c ∧ n ≤ c ∧ c ≤ 9223372036854775807 ∧ zs.length = n * k ∧ (∀ z ∈ zs, InR z) ∧ Lies W B A (ints zs) := by
  obtain ⟨d, ps⟩ := y
  simp only at hlt
  obtain ⟨a0, n0, c0, rfl⟩ : ∃ a0 n0 c0, v = .slice a0 n0 c0 := by
    rcases Go.Deep.open_slice ht hf with ⟨hcs, _⟩ | ⟨a, len, cap, m, n, D, Pl, hcs, _⟩
    · exact ⟨_, _, _, by simpa using hcs⟩
    · exact ⟨_, _, _, by simpa using hcs⟩
  rcases Go.Deep.open_slice ht hf with ⟨hcs, _⟩ | ⟨a, len, cap, m, n, D, Pl, hcs, _, hl, hm, hmm, hx, hi⟩
  · have : a0 = none ∧ n0 = 0 ∧ c0 = 0 := by simpa using hcs
    obtain ⟨rfl, rfl, rfl⟩ := this
    exact ⟨none, 0, 0, [], rfl, by omega, by omega, by simp, by simp, Lies.nil _ _ _⟩
  · have : a0 = some a ∧ n0 = len ∧ c0 = cap := by simpa using hcs
    obtain ⟨rfl, rfl, rfl⟩ := this
    simp only [if_true] at hmm
    subst hmm
    have hcell : ∀ j, j < n0 * k → ∃ z, W.cell? (a.add j) = some (.int .i64 z) ∧ InR z := by
      intro j hj
      have hij : j / k < n0 := by rw [Nat.div_lt_iff_lt_mul hpos]; omega
      obtain ⟨cs', hc', ht'⟩ := hi (j / k) (by omega)
      obtain ⟨_, hl', hat⟩ := World.cells?_some hc'
      obtain ⟨_, hz⟩ := he ht'
      rw [hk] at hat hl'
      have hjk : j % k < k := Nat.mod_lt _ hpos
      have h1 := hat (j % k) hjk
      rw [add_add_, Nat.mul_comm, Nat.div_add_mod] at h1
      have h2 : cs'[j % k]? = some (cs'[j % k]'(by omega)) := List.getElem?_eq_getElem (by omega)
      obtain ⟨z, hz1, hz2⟩ := hz _ (List.getElem_mem (by omega : j % k < cs'.length))
      rw [h2, hz1] at h1
      exact ⟨z, h1, hz2⟩
    have hblk : n0 * k ≠ 0 → a.block < B := by
      intro hne
      have hpos' : 0 < m * k := by
        have : 0 < n0 := Nat.pos_of_ne_zero fun e => hne (by simp [e])
        exact Nat.mul_pos (by omega) hpos
      have hmem : (MemPlace.cell a.block (a.off + 0)) ∈ ps := by
        have : ps = MemPlace.row a (m * P.cellsOf e) ++ (List.range m).flatMap Pl := (Prod.mk.inj hx).2
        rw [this, hk]
        refine List.mem_append.2 (.inl ?_)
        unfold MemPlace.row
        rw [List.mem_map]
        exact ⟨0, by simpa using hpos', rfl⟩
      exact hlt _ hmem
    let f : Nat → Int := fun j => match W.cell? (a.add j) with | some (.int .i64 z) => z | _ => 0
    have hf' : ∀ j, j < n0 * k → W.cell? (a.add j) = some (.int .i64 (f j)) ∧ InR (f j) := by
      intro j hj
      obtain ⟨z, h1, h2⟩ := hcell j hj
      have : f j = z := by simp only [f, h1]
      rw [this]; exact ⟨h1, h2⟩
    refine ⟨some a, n0, _, (List.range (n0 * k)).map f, rfl, hl, by simpa [maxLen] using hm, by simp, ?_, ?_⟩
    · intro z hz
      simp only [List.mem_map, List.mem_range] at hz
      obtain ⟨j, hj, rfl⟩ := hz
      exact (hf' j hj).2
    · intro j u hu
      simp only [ints, List.map_map, List.getElem?_map] at hu
      have hj : j < n0 * k := by
        rcases Nat.lt_or_ge j (n0 * k) with h | h
        · exact h
        · rw [List.getElem?_eq_none (by simpa using h)] at hu; cases hu
      rw [List.getElem?_range hj] at hu
      simp at hu
      subst hu
      exact ⟨a, rfl, hblk (by omega), (hf' j hj).1⟩
theorem slice_size_cell {H : Type} {enc : TypeId × Value → H} {W : World} {A : Option Addr} {n c fuel : Nat} {y : DataW H × List MemPlace} (ht : P.underlying t = some (.slice e))
    (hf : DataW.trod enc P W 0 (fun _ => true) true fuel t [.slice A n c] = some y) (hw : ∀ m ∈ y.1.weights P t, m ≤ reachBytes) : n * P.bytesOf e ≤ reachBytes := by
  refine slice_size (W := W) (enc := enc) (A := A) (c := c) (d := y.1) (ps := y.2) ht ⟨fuel, ?_⟩ hw
  simpa [Value.cells] using hf
end
end Go.Proofs.YtehjfmjibiafdaaGreat
