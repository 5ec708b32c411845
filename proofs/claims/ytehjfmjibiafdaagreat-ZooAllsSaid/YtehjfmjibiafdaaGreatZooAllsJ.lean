import Derived.Test.YtehjfmjibiafdaaGreatZooAllsJ0
import Derived.Test.YtehjfmjibiafdaaGreatZooAllsJ40
import Derived.Lib.SmallJoins
/- A part of the proof that the law ZooAlls returns true for every input. -/
namespace Go.Proofs.YtehjfmjibiafdaaGreat
open Go Go.RowKit Go.ChangeShapes Go.WideShapes Go.ChangeAt
attribute [local go_sem] AllFrom.cons_eq AllFrom.nil_eq putF_nil putF_cons wantedL_none wantedL_some OpGoalT OpGoalV OpGoalQ OpGoalA OpGoalK YieldsR preF_nil preF_cons
set_option maxRecDepth 100000 in
set_option maxHeartbeats 8000000 in
theorem zooAlls_ok (A1 : Option Addr) (c1 : Nat) (l1 : List Ov) (A2 : Option Addr) (c2 : Nat) (l2 : List Ov) (w : World) (hl1 : l1.length * 128 ≤ 140737488351232) (hl2 : l2.length * 128 ≤ 140737488351232) (hA1 : Lies w w.heap.size A1 (l1.flatMap opC)) (hA2 : Lies w w.heap.size A2 (l2.flatMap opC)) (hR1 : ∀ x ∈ l1, HdR x.2.2.1 ∧ HdR x.2.2.2.1) (hR2 : ∀ x ∈ l2, HdR x.2.2.1 ∧ HdR x.2.2.2.1) :
  Calls Tryz.prog 7 #[.slice A1 l1.length c1, .slice A2 l2.length c2] w fun e w' => e = .returned (.bool true) ∧ Below w.heap.size w w' := by
 have H1 := Lib.hid (zooNew_any w)
 have hb1 : l1.length ≤ 9223372036854775807 := by omega
 have hb2 : l2.length ≤ 9223372036854775807 := by omega
 obtain ⟨HA1, HA2, HR1, HR2, HL1, HL2⟩ := hid6 hA1 hA2 hR1 hR2 hb1 hb2
 clear hA1 hA2 hR1 hR2 hb1 hb2
 clear hl1 hl2
 go_enter Tryz.func7, Tryz.ntmps7
 go_wp2_with fail
 refine H1.out.mono ?_
 rintro e w1 ⟨z, p, f, F, rfl, hW, hF, hb⟩
 obtain ⟨w2, hw2⟩ : ∃ w2, w1.alloc (.cells #[.slice none 0 0, .slice none 0 0, .slice none 0 0, .slice none 0 0] 47) = w2 := ⟨_, rfl⟩
 obtain ⟨hP, hB⟩ := pvq_start hW hF hb hw2
 have hP := hP.x
 obtain ⟨w3, hw3, hb3, hz3, hs3⟩ := box1 w2 (.cells #[.slice A1 l1.length c1, .slice A2 l2.length c2] 37)
 have hP3 := Sep.fresh (own_X _ _ _ _) (own_Q _ _ _ _) hP hb3 w2.heap.size (Nat.le_refl _) (by omega)
 have hB3 := hB.trans (hb3.mono hB.size)
 obtain ⟨HP3, HB3, Hz3⟩ := hid3 hP3 hB3 hz3
 clear hP3 hB3 hz3
 clear hW hF hb H1 hP hB hb3 hs3
 go_wp2_with fail
 clear hw2 hw3
 generalize w1.heap.size = q at *
 generalize w2.heap.size = bx at *
 go_loopw [24] (fun i wr => ∃ (k : Nat) (sl : Sl) (R : List Rw) (B : List Bd), k ≤ 2 ∧ i = .int .i64 k ∧ PXQ w.heap.size [bx] z q sl R B sl R B wr ∧ ZOk sl R B ∧ (∀ b ∈ B, b.2 ∈ allS sl) ∧ wr.heap[bx]? = some (.cells #[.slice A1 l1.length c1, .slice A2 l2.length c2] 37 (0, 0)) ∧ Below w.heap.size w wr) (fun i _ => 2 - (Go.RowKit.intOf i).toNat)
 case atStart => exact ⟨0, [], [], [], by omega, rfl, HP3.out, ⟨wok_nil, famOk_nil, by simp⟩, by simp, Hz3.out, HB3.out⟩
 case round =>
  obtain ⟨k, sl, R, B, hk, rfl, hP, hO, hq, hbk, hB⟩ := hrel
  clear HP3 HB3 Hz3
  by_cases hlt : k < 2
  ·have hki : (k : Int) < 2 := by omega
   obtain ⟨A, c, l, hcell, hAl, hll, hRl⟩ : ∃ (A : Option Addr) (c : Nat) (l : List Ov), wr.cell? ⟨bx, k, none⟩ = some (.slice A l.length c) ∧ Lies w w.heap.size A (l.flatMap opC) ∧ l.length ≤ 9223372036854775807 ∧ (∀ x ∈ l, HdR x.2.2.1 ∧ HdR x.2.2.2.1) := by
    have h01 : k = 0 ∨ k = 1 := by omega
    rcases h01 with rfl | rfl
    ·exact ⟨A1, c1, l1, by rw [blk_cell hbk]; rfl, HA1.out, HL1.out, HR1.out⟩
    ·exact ⟨A2, c2, l2, by rw [blk_cell hbk]; rfl, HA2.out, HL2.out, HR2.out⟩
   have hbl := blk_lt hbk
   obtain ⟨n, e0, sl', R', B', hD⟩ := allO_any hO l hRl
   have hO' := hD.ok hO hq
   have H7 := Lib.hid (Sep.callL (own_X _ _ _ _) (own_Q _ _ _ _) hP fun F hF => vx_all hF hO hq A c l hll ((hAl.below hB).mono hB.size) hD)
   obtain ⟨HAl, HRl, HD, HO', HO, HB, Hbk, Hlt⟩ := hid8 hAl hRl hD hO' hO hB hbk hlt
   clear hAl hRl hD hO' hO hB hbk hlt
   clear hP hq
   go_wp2_with fail
   clear hcell
   refine H7.out.mono ?_
   rintro e w4 ⟨rfl, h4, hb4, hk4⟩
   have hB4 := HB.out.trans hb4
   have hbk4 := hk4 _ (by simp) _ Hbk.out
   have H8 := Lib.hid (Sep.callR (own_X _ _ _ _) (own_Q _ _ _ _) h4 fun F hF => q_allO hF HO.out A c l hll ((HAl.out.below hB4).mono hB4.size) HD.out)
   obtain ⟨HB4, Hbk4⟩ := hid2 hB4 hbk4
   clear hB4 hbk4
   clear h4 hb4 hk4
   go_wp2_with fail
   refine H8.out.mono ?_
   rintro e w5 ⟨rfl, h5, hb5, hk5⟩
   have hB5 := HB4.out.trans hb5
   have hbk5 := hk5 _ (by simp) _ Hbk4.out
   have H9 := Lib.hid (px_state h5 HO'.out.1)
   obtain ⟨HB5, Hbk5, HP5⟩ := hid3 hB5 hbk5 h5
   clear hB5 hbk5 h5
   clear hb5 hk5
   go_wp2_with fail
   refine H9.out.mono ?_
   rintro e w8 ⟨v1, v2, v3, rfl, g1, g2, g3, hb8⟩
   have h8 := pxq_below HP5.out hb8
   have hB8 := HB5.out.trans h8.2.1
   have hbk8 := h8.2.2 _ (by simp) _ Hbk5.out
   have hP8 := h8.1
   have H10 := Lib.hid (px_qstate hP8 HO'.out.1)
   obtain ⟨HB8, HP8, G1, G2, G3, Hbk8⟩ := hid6 hB8 hP8 g1 g2 g3 hbk8
   clear hB8 hP8 g1 g2 g3 hbk8
   clear h8 hb8
   go_wp2_with fail
   refine H10.out.mono ?_
   rintro e w9 ⟨u1, u2, u3, rfl, k1, k2, k3, hb9⟩
   have h9 := pxq_below HP8.out hb9
   have hB9 := HB8.out.trans h9.2.1
   have hbk9 := h9.2.2 _ (by simp) _ Hbk8.out
   have hP9 := h9.1
   have H11 := Lib.hid (same_any HO'.out.1 (row_mod G1.out (Mod.ofBelow hb9) (by simp)) (row_mod G2.out (Mod.ofBelow hb9) (by simp)) (row_mod G3.out (Mod.ofBelow hb9) (by simp)) k1 k2 k3)
   obtain ⟨HB9, HP9, Hbk9⟩ := hid3 hB9 hP9 hbk9
   clear hB9 hP9 hbk9
   clear h9 hb9 k1 k2 k3
   go_wp2_with fail
   refine H11.out.mono ?_
   rintro e w10 ⟨rfl, hb10⟩
   have h10 := pxq_below HP9.out hb10
   have hB10 := HB9.out.trans h10.2.1
   have hbk10 := h10.2.2 _ (by simp) _ Hbk9.out
   have hP10 := h10.1
   obtain ⟨HB10, HP10, Hbk10⟩ := hid3 hB10 hP10 hbk10
   clear hB10 hP10 hbk10
   clear h10 hb10
   have hlt := Hlt.out
   go_wp2
   go_roundw
   case rel => exact ⟨k + 1, sl', R', B', by omega, by go_num, HP10.out, HO'.out.1, HO'.out.2, Hbk10.out, HB10.out⟩
   case measure => simp [Go.RowKit.intOf]; omega
  ·obtain rfl : k = 2 := by omega
   have H14 := Lib.hid (Sep.callL (own_X _ _ _ _) (own_Q _ _ _ _) hP fun _ hF => vx_none hF)
   have HB := Lib.hid hB
   clear hB
   clear hP hO hq hbk
   go_wp2_with fail
   refine H14.out.mono ?_
   rintro e w5 ⟨rfl, -, hb5, -⟩
   have HB5 := Lib.hid (HB.out.trans hb5)
   have HB6 := Lib.hid (fun o => ((HB5.out.alloc HB5.out.size o) : Below w.heap.size w (w5.alloc o)))
   clear hb5
   go_wp2
   go_ret
   exact ⟨rfl, HB6.out _⟩
set_option maxRecDepth 100000 in
theorem zooAlls_law {H : Type} {enc : TypeId × Value → H} (W : World) (base : Nat) (args : Array Value) (ds : List (DataW H)) (ps : List MemPlace)
  (hval : ∀ (j : Nat) t v, Tryz.f7.params[j]? = some t → args[j]? = some v → Value.okWide Tryz.prog W .any base t v)
  (hA : DataW.TrodAll enc Tryz.prog W 0 (fun _ => true) true Tryz.f7.params.toList args.toList ds ps) (hlt : ∀ p ∈ ps, p.block < W.heap.size)
  (hsz : ∀ (j : Nat) t d, Tryz.f7.params.toList[j]? = some t → ds[j]? = some d → ∀ m ∈ d.weights Tryz.prog t, m ≤ reachBytes) :
  Calls Tryz.prog 7 args W fun e W' => e = .returned (.bool true) ∧ Below W.heap.size W W' := by
 rw [Tryz.params7] at hA hval hsz
 obtain ⟨v0, v1, d0, d1, p0, p1, rfl, rfl, rfl, h0, h1⟩ := trodAll_two hA
 obtain ⟨A, n, c, zs, rfl, hnc, hc, hlen, hin, hL⟩ := open_slice_flat Tryz.underlying37 intCells_Op (k := 16) (by kernel_rfl) (by omega) (hval 0 37 v0 rfl rfl) h0 (fun p hp => hlt p (by simp [hp]))
 obtain ⟨la, hl, rfl⟩ := unflat opI 16 opI_mk n zs hlen
 have hs0 := slice_size Tryz.underlying37 h0 (hsz 0 37 d0 rfl rfl)
 rw [show Tryz.prog.bytesOf 52 = 128 by kernel_rfl, reach_val] at hs0
 rw [show ints (la.flatMap opI) = la.flatMap opC by unfold ints opC; rw [List.map_flatMap]; rfl] at hL
 obtain ⟨A', n', c', zs', rfl, hnc', hc', hlen', hin', hL'⟩ := open_slice_flat Tryz.underlying37 intCells_Op (k := 16) (by kernel_rfl) (by omega) (hval 1 37 v1 rfl rfl) h1 (fun p hp => hlt p (by simp [hp]))
 obtain ⟨lb, hl', rfl⟩ := unflat opI 16 opI_mk n' zs' hlen'
 have hs1 := slice_size Tryz.underlying37 h1 (hsz 1 37 d1 rfl rfl)
 rw [show Tryz.prog.bytesOf 52 = 128 by kernel_rfl, reach_val] at hs1
 rw [show ints (lb.flatMap opI) = lb.flatMap opC by unfold ints opC; rw [List.map_flatMap]; rfl] at hL'
 subst hl hl'
 have hR : ∀ (l : List Ov), (∀ z ∈ l.flatMap opI, InR z) → ∀ x ∈ l, HdR x.2.2.1 ∧ HdR x.2.2.2.1 := fun l hin x hx => by
  have hz : ∀ z ∈ opI x, InR z := fun z hz => hin z (List.mem_flatMap.2 ⟨x, hx, hz⟩)
  obtain ⟨d, ⟨K, a0, a1, a2, a3, a4, a5, a6, a7⟩, ⟨s, g⟩, ⟨ts, tg⟩, kd, n⟩ := x
  exact ⟨⟨hz s (by simp [opI, btI, hdI]), hz g (by simp [opI, btI, hdI])⟩, ⟨hz ts (by simp [opI, btI, hdI]), hz tg (by simp [opI, btI, hdI])⟩⟩
 exact zooAlls_ok A c la A' c' lb W hs0 hs1 hL hL' (hR la hin) (hR lb hin')
set_option maxRecDepth 100000 in
theorem zooAlls_lifted (os : Os) (started : os.Started) (H : Type) (enc : TypeId × Value → H) :
  ReturnsInHanded {} Tryz.checked os 7 .any (Rows.zooAllsSpec.pre6 enc Tryz.prog Tryz.f7 Rows.zooAllsRow.domain false) (Rows.zooAllsSpec.post enc Tryz.prog Tryz.f7 false true false false) := by
 refine law_lifted_sized (C := Tryz.checked) (tb := 4) started own_ laid_ (by kernel_rfl) Tryz.func7 ?_ rfl rfl (by kernel_rfl) (fun ds h => ?_)
  (ChangeSpec.witness6 (enc := enc) (C := Tryz.checked) false ⟨#[], #[.slice none 0 0, .slice none 0 0], []⟩ 8 (by kernel_rfl) (by kernel_rfl) (by kernel_rfl) (by kernel_rfl)) ?_
 ·intro t ht
  have : t = 37 ∨ t = 37 := by simpa [Tryz.params7] using ht
  rcases this with rfl | rfl
  all_goals exact ⟨by kernel_rfl, of_decide_eq_true (by kernel_rfl)⟩
 ·match ds, h with
  | [d0, d1], _ => rfl
 ·intro W base args ds ps hval hA hlt hsz
  exact zooAlls_law W base args ds ps hval hA hlt hsz
set_option maxHeartbeats 4000000 in
theorem zooAlls_closed : joinedFacts Tryz.prog 7 Tryz.f7 Rows.zooAllsSpec Rows.zooAllsRow = true := by
 unfold joinedFacts
 repeat' (with_reducible refine and_intro ?_ ?_)
 ·as_aux_lemma => kernel_rfl
 ·exact laid_
 ·exact mapsRowed_
 ·as_aux_lemma => kernel_rfl
 ·as_aux_lemma => kernel_rfl
 ·as_aux_lemma => kernel_rfl
 ·exact stops_
 ·as_aux_lemma => kernel_rfl
 ·exact stopKnobs_
 ·as_aux_lemma => kernel_rfl
 ·as_aux_lemma => kernel_rfl
 ·as_aux_lemma => kernel_rfl
 ·as_aux_lemma => kernel_rfl
 ·as_aux_lemma => kernel_rfl
 ·as_aux_lemma => kernel_rfl
 ·as_aux_lemma => kernel_rfl
 ·as_aux_lemma => kernel_rfl
 ·as_aux_lemma => kernel_rfl
 ·as_aux_lemma => kernel_rfl
 ·as_aux_lemma => kernel_rfl
 ·as_aux_lemma => kernel_rfl
 ·as_aux_lemma => kernel_rfl
 ·exact plainKeys_
 ·as_aux_lemma => kernel_rfl
 ·exact stopsHeard_
 ·exact mayEnter_
 ·exact liftsFinal_
 ·exact make_
 ·as_aux_lemma => kernel_rfl
 ·as_aux_lemma => kernel_rfl
 ·as_aux_lemma => kernel_rfl
 ·as_aux_lemma => kernel_rfl
theorem zooAlls_holds : Rows.ZooAllsSaid :=
 OpenClaim.holds_of_wide 7 Tryz.f7 rfl rfl rfl rfl rfl rfl rfl ⟨rfl, rfl, rfl, rfl, rfl⟩ rfl rfl rfl rfl rfl (by as_aux_lemma => kernel_rfl) Tryz.func7 zooAlls_closed
  (of_decide_eq_true (by as_aux_lemma => kernel_rfl)) (by unfold Func.isWrapper; first | (rw [if_pos (by decide +kernel)]; kernel_rfl) | (rw [if_neg (by decide +kernel)]; exact ⟨rfl, rfl⟩))
  (fun os started H enc _ => zooAlls_lifted os started H enc)
#print axioms zooAlls_holds
end Go.Proofs.YtehjfmjibiafdaaGreat
