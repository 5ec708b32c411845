import Derived.Test.YtehjfmjibiafdaaGreatRows
import Derived.Test.YtehjfmjibiafdaaGreatZooLoadsJ1
import Derived.Test.YtehjfmjibiafdaaGreatZooLoadsJ35
import Derived.Test.YtehjfmjibiafdaaGreatZooLoadsJ39
import Derived.Lib.SmallJoins
/- The law ZooLoads returns true for every input. (printed by mk_zloadlaw.py) -/
namespace Go.Proofs.YtehjfmjibiafdaaGreat
open Go Go.RowKit Go.ChangeShapes Go.WideShapes Go.ChangeAt

attribute [local go_sem] AllFrom.cons_eq AllFrom.nil_eq putF_nil putF_cons wantedL_none wantedL_some OpGoalT OpGoalV OpGoalQ OpGoalA OpGoalK YieldsR preF_nil preF_cons

theorem zlE_minus : zlE [-1] [] [] = 1 := by
  have h : wlE [-1] [] = 1 := by decide
  rw [zlE_bad (by rw [h]; decide), h]

set_option maxRecDepth 100000 in
set_option maxHeartbeats 8000000 in
theorem zooLoads_ok {w : World} {A1 A2 A3 : Option Addr} {c1 c2 c3 : Nat} {gs : List Int} {rows : List Rw} {bs : List Bd} (hg : gs.length ≤ 1200000000000000) (hr : rows.length ≤ 1200000000000000) (hbl : bs.length ≤ 1200000000000000)
    (hA1 : Lies w w.heap.size A1 (ints gs)) (hA2 : Lies w w.heap.size A2 (rows.flatMap rwC)) (hA3 : Lies w w.heap.size A3 (bs.flatMap bdC)) (hR : ∀ b ∈ bs, HdR b.1 ∧ HdR b.2) :
    Calls Tryz.prog 3 #[.agg #[.slice A1 gs.length c1, .slice A2 rows.length c2, .slice A3 bs.length c3]] w fun e w' => e = .returned (.bool true) ∧ Below w.heap.size w w' := by
  obtain ⟨w0, hw0, hb0, hz0, hs0⟩ := box1 w (.cells #[.slice A1 gs.length c1, .slice A2 rows.length c2, .slice A3 bs.length c3] 26)
  have hB1 := (hA1.below hb0).mono hb0.size; have hB2 := (hA2.below hb0).mono hb0.size; have hB3 := (hA3.below hb0).mono hb0.size
  have H1 := Lib.hid (zload_any (c1 := c1) (c2 := c2) (c3 := c3) (by omega) (by omega) (by omega) hB1 hB2 hB3 hR)
  have H2 := Lib.hid (fun V (hb : Below w0.heap.size w0 V) => qload_any (c1 := c1) (c2 := c2) (c3 := c3) (w := V) (by omega) (by omega) (by omega) ((hB1.below hb).mono hb.size) ((hB2.below hb).mono hb.size) ((hB3.below hb).mono hb.size) (fun h => (wlok_of h).wok))
  have o0 := blk_cell hz0 0
  have o1 := blk_cell hz0 1
  have o2 := blk_cell hz0 2
  simp only [List.getElem?_toArray, List.getElem?_cons_zero, List.getElem?_cons_succ] at o0 o1 o2
  have ol := blk_lt hz0
  have Hb0 := Lib.hid hb0; have Hz0 := Lib.hid hz0
  clear hb0 hz0
  clear hA1 hA2 hA3 hB1 hB2 hB3 hR hs0
  go_enter Tryz.func3, Tryz.ntmps3
  go_wp2_with fail
  clear hw0 o0 o1 o2 ol
  refine H1.out.mono ?_
  rintro e w1 ⟨hb1, hcase⟩
  have H3 := Lib.hid (H2.out _ hb1)
  have hz1 := (Mod.ofBelow hb1).keep Hz0.out (by simp)
  have hbad : ∀ V, ∀ b, V.heap[b]? = some (.cells #[.int .i64 (-1)] 3 (0, 0)) → Calls Tryz.prog 8 #[.agg #[.slice (some ⟨b, 0, none⟩) 1 1, .slice none 0 0, .slice none 0 0]] V (fun e w' => e = .returned (.tuple #[.pointer none, .int .i64 1]) ∧ Below V.heap.size V w') := fun V b hb => by
    have hL : Lies V V.heap.size (some ⟨b, 0, none⟩) (ints [-1]) := by
      intro j u hu
      match j, hu with
      | 0, hu =>
        cases hu
        exact ⟨_, rfl, blk_lt hb, (blk_cell hb 0).trans rfl⟩
    refine (zload_any (c1 := 1) (c2 := 0) (c3 := 0) (gs := [-1]) (rows := []) (bs := []) (A2 := none) (A3 := none) (by simp) (by simp) (by simp) hL (Lies.nil _ _ _) (Lies.nil _ _ _) (by simp)).mono ?_
    rintro e w' ⟨h1, ⟨h2, rfl⟩ | ⟨h2, -⟩⟩
    · rw [zlE_minus]; exact ⟨rfl, h1⟩
    · rw [zlE_minus] at h2; cases h2
  have HBad := Lib.hid hbad
  clear hbad
  have hb01 := Hb0.out.trans (hb1.mono Hb0.out.size)
  rcases hcase with ⟨hne, rfl⟩ | ⟨he0, z, p, f, F, rfl, hV, hF, hC⟩
  · have hne' : (zlE gs rows bs == 0) = false := by simpa using hne
    have o0 := blk_cell hz1 0
    have o1 := blk_cell hz1 1
    have o2 := blk_cell hz1 2
    simp only [List.getElem?_toArray, List.getElem?_cons_zero, List.getElem?_cons_succ] at o0 o1 o2
    have ol := blk_lt hz1
    have Hne := Lib.hid hne; have Hb01 := Lib.hid hb01; have Hb1 := Lib.hid hb1; have Hz1 := Lib.hid hz1
    clear hne hb01 hb1 hz1
    clear H1 H2
    go_wp2_with fail
    clear o0 o1 o2 ol
    refine H3.out.mono ?_
    rintro e w2 ⟨hb2, hcase2⟩
    rcases hcase2 with ⟨-, rfl⟩ | ⟨he0, -⟩
    · have hb02 := Hb01.out.trans (hb2.mono Hb01.out.size)
      have Hb02 := Lib.hid hb02
      clear hb02
      clear hb2 H3
      generalize zlE gs rows bs = ze at *
      go_wp2_with fail
      refine (HBad.out _ _ (heap_alloc_new _ _)).mono ?_
      rintro e w5 ⟨rfl, hb5⟩
      have hb05 := Hb02.out.trans ((((Below.refl w2.heap.size w2).alloc (Nat.le_refl _) _).trans (hb5.mono (by simp))).mono Hb02.out.size)
      have Hb05 := Lib.hid hb05
      clear hb05
      clear hb5
      go_wp2
      go_ret
      exact ⟨rfl, Hb05.out⟩
    · exact absurd he0 Hne.out
  · skip
    have o0 := blk_cell hz1 0
    have o1 := blk_cell hz1 1
    have o2 := blk_cell hz1 2
    simp only [List.getElem?_toArray, List.getElem?_cons_zero, List.getElem?_cons_succ] at o0 o1 o2
    have ol := blk_lt hz1
    have He0 := Lib.hid he0; have HV := Lib.hid hV; have HF := Lib.hid hF; have HC := Lib.hid hC; have Hb01 := Lib.hid hb01; have Hz1 := Lib.hid hz1; have Hb1 := Lib.hid hb1
    clear he0 hV hF hC hb01 hz1 hb1
    clear H1 H2
    go_wp2_with fail
    clear o0 o1 o2 ol
    refine H3.out.mono ?_
    rintro e w2 ⟨hb2, hcase2⟩
    rcases hcase2 with ⟨hne, -⟩ | ⟨-, q, G, rfl, hQ, hG⟩
    · exact absurd He0.out hne
    have hV2 := HV.out.below hb2
    have hb02 := Hb01.out.trans (hb2.mono Hb01.out.size)
    have HV2 := Lib.hid hV2; have HQ := Lib.hid hQ; have Hb02 := Lib.hid hb02
    clear hV2 hQ hb02
    clear hb2 H3 hG
    go_wp2_with fail
    refine (HBad.out _ _ (heap_alloc_new _ _)).mono ?_
    rintro e w5 ⟨rfl, hb5⟩
    have hb25 := ((Below.refl w2.heap.size w2).alloc (Nat.le_refl _) (.cells #[.int .i64 (-1)] 3)).trans (hb5.mono (by simp))
    have hb05 := Hb02.out.trans (hb25.mono Hb02.out.size)
    have hV5 := HV2.out.below hb25
    have hQ5 := HQ.out.below hb25
    have hO5 : ZOk _ _ _ := ⟨hV5.okW, hV5.okF, HC.out⟩
    have H9 := Lib.hid (vstate_any hV5 hO5.len)
    have Hb05 := Lib.hid hb05; have HQ5 := Lib.hid hQ5; have HO5 := Lib.hid hO5
    clear hb05 hQ5 hO5
    clear hb5 hb25 hV5
    go_wp2_with fail
    refine H9.out.mono ?_
    rintro e w8 ⟨v1, v2, v3, rfl, g1, g2, g3, hb8⟩
    have hQ8 := HQ5.out.below hb8
    have hb08 := Hb05.out.trans (hb8.mono Hb05.out.size)
    have H10 := Lib.hid (qstate_any hQ8 HO5.out)
    have Hb08 := Lib.hid hb08; have G1 := Lib.hid g1; have G2 := Lib.hid g2; have G3 := Lib.hid g3
    clear hb08 g1 g2 g3
    clear hb8 hQ8
    go_wp2_with fail
    refine H10.out.mono ?_
    rintro e w9 ⟨u1, u2, u3, rfl, k1, k2, k3, hb9⟩
    have hb09 := Hb08.out.trans (hb9.mono Hb08.out.size)
    have H11 := Lib.hid (same_any HO5.out (row_mod G1.out (Mod.ofBelow hb9) (by simp)) (row_mod G2.out (Mod.ofBelow hb9) (by simp)) (row_mod G3.out (Mod.ofBelow hb9) (by simp)) k1 k2 k3)
    have Hb09 := Lib.hid hb09
    clear hb09
    clear hb9 k1 k2 k3
    go_wp2_with fail
    refine H11.out.mono ?_
    rintro e w10 ⟨rfl, hb10⟩
    have hb010 := Hb09.out.trans (hb10.mono Hb09.out.size)
    have Hb010 := Lib.hid hb010
    clear hb010
    clear hb10
    go_wp2
    go_ret
    exact ⟨rfl, Hb010.out⟩

theorem intCells_RowS : IntCells Tryz.prog 69 := IntCells.struct Tryz.underlying69 (by kernel_rfl) (by
  intro f hf
  simp only [List.mem_toArray, List.mem_cons, List.not_mem_nil, or_false] at hf
  rcases hf with rfl | rfl
  · exact intCells_Handle
  · exact intCells_Beast)
theorem intCells_BondS : IntCells Tryz.prog 84 := IntCells.struct Tryz.underlying84 (by kernel_rfl) (by
  intro f hf
  simp only [List.mem_toArray, List.mem_cons, List.not_mem_nil, or_false] at hf
  rcases hf with rfl | rfl
  · exact intCells_Handle
  · exact intCells_Handle)
theorem bdI_mkS (zs : List Int) (h : zs.length = 4) : ∃ x, bdI x = zs := by
  match zs, h with
  | [a, b, c, d], _ => exact ⟨((a, b), (c, d)), rfl⟩

set_option maxRecDepth 100000 in
theorem zooLoads_law {H : Type} {enc : TypeId × Value → H} (W : World) (base : Nat) (args : Array Value) (ds : List (DataW H)) (ps : List MemPlace)
    (hval : ∀ (j : Nat) t v, Tryz.f3.params[j]? = some t → args[j]? = some v → Value.okWide Tryz.prog W .any base t v)
    (hA : DataW.TrodAll enc Tryz.prog W 0 (fun _ => true) true Tryz.f3.params.toList args.toList ds ps) (hlt : ∀ p ∈ ps, p.block < W.heap.size)
    (hsz : ∀ (j : Nat) t d, Tryz.f3.params.toList[j]? = some t → ds[j]? = some d → ∀ m ∈ d.weights Tryz.prog t, m ≤ reachBytes) :
    Calls Tryz.prog 3 args W fun e W' => e = .returned (.bool true) ∧ Below W.heap.size W W' := by
  rw [Tryz.params3] at hA hval hsz
  obtain ⟨v0, d0, rfl, rfl, h0⟩ := trodAll_one hA
  obtain ⟨x1, x2, x3, y1, y2, y3, m, rfl, rfl, rfl, k1, k2, k3⟩ := Go.Joins.open_agg3 Tryz.underlying26 (by kernel_rfl) (by kernel_rfl) (hval 0 26 v0 rfl rfl) h0
  have hw := hsz 0 26 _ rfl rfl
  have hw1 : ∀ m ∈ y1.1.weights Tryz.prog 22, m ≤ reachBytes := fun m hm => hw m (by rw [DataW.weights, Tryz.underlying26]; simp [DataW.weightsEach, hm])
  have hw2 : ∀ m ∈ y2.1.weights Tryz.prog 23, m ≤ reachBytes := fun m hm => hw m (by rw [DataW.weights, Tryz.underlying26]; simp [DataW.weightsEach, hm])
  have hw3 : ∀ m ∈ y3.1.weights Tryz.prog 24, m ≤ reachBytes := fun m hm => hw m (by rw [DataW.weights, Tryz.underlying26]; simp [DataW.weightsEach, hm])
  obtain ⟨A1, n1, c1, gs, rfl, -, -, hl1, -, hL1⟩ := open_slice_cell Tryz.underlying22 intCells_int (k := 1) (by kernel_rfl) (by omega) k1 (fun p hp => hlt p (by simp [hp]))
  obtain rfl : n1 = gs.length := by omega
  have hs1 := slice_size_cell Tryz.underlying22 k1 hw1
  rw [show Tryz.prog.bytesOf 3 = 8 by kernel_rfl, reach_val] at hs1
  obtain ⟨A2, n2, c2, zs, rfl, -, -, hl2, -, hL2⟩ := open_slice_cell Tryz.underlying23 intCells_RowS (k := 11) (by kernel_rfl) (by omega) k2 (fun p hp => hlt p (by simp [hp]))
  obtain ⟨rows, hl2', rfl⟩ := unflat rwI 11 rwI_mk n2 zs hl2
  have hs2 := slice_size_cell Tryz.underlying23 k2 hw2
  rw [show Tryz.prog.bytesOf 69 = 88 by kernel_rfl, reach_val] at hs2
  rw [show ints (rows.flatMap rwI) = rows.flatMap rwC by unfold ints rwC; rw [List.map_flatMap]; rfl] at hL2
  obtain ⟨A3, n3, c3, zs3, rfl, -, -, hl3, hin, hL3⟩ := open_slice_cell Tryz.underlying24 intCells_BondS (k := 4) (by kernel_rfl) (by omega) k3 (fun p hp => hlt p (by simp [hp]))
  obtain ⟨bs, hl3', rfl⟩ := unflat bdI 4 bdI_mkS n3 zs3 hl3
  have hs3 := slice_size_cell Tryz.underlying24 k3 hw3
  rw [show Tryz.prog.bytesOf 84 = 32 by kernel_rfl, reach_val] at hs3
  rw [show ints (bs.flatMap bdI) = bs.flatMap bdC by unfold ints bdC; rw [List.map_flatMap]; rfl] at hL3
  subst hl2' hl3'
  have hR : ∀ b ∈ bs, HdR b.1 ∧ HdR b.2 := fun b hb => by
    have hz : ∀ z ∈ bdI b, InR z := fun z hz => hin z (List.mem_flatMap.2 ⟨b, hb, hz⟩)
    obtain ⟨⟨s, g⟩, t, u⟩ := b
    exact ⟨⟨hz s (by simp [bdI, hdI]), hz g (by simp [bdI, hdI])⟩, ⟨hz t (by simp [bdI, hdI]), hz u (by simp [bdI, hdI])⟩⟩
  exact zooLoads_ok (by omega) (by omega) (by omega) hL1 hL2 hL3 hR

set_option maxRecDepth 100000 in
theorem zooLoads_lifted (os : Os) (started : os.Started) (H : Type) (enc : TypeId × Value → H) :
    ReturnsInHanded {} Tryz.checked os 3 .any (Rows.zooLoadsSpec.pre6 enc Tryz.prog Tryz.f3 Rows.zooLoadsRow.domain false) (Rows.zooLoadsSpec.post enc Tryz.prog Tryz.f3 false true false false) := by
  refine law_lifted_sized (C := Tryz.checked) (tb := 4) started own_ laid_ (by kernel_rfl) Tryz.func3 ?_ rfl rfl (by kernel_rfl) (fun ds h => ?_)
    (ChangeSpec.witness6 (enc := enc) (C := Tryz.checked) false ⟨#[], #[.agg #[.slice none 0 0, .slice none 0 0, .slice none 0 0]], []⟩ 8 (by kernel_rfl) (by kernel_rfl) (by kernel_rfl) (by kernel_rfl)) ?_
  · intro t ht
    have : t = 26 := by simpa [Tryz.params3] using ht
    rcases this with rfl
    all_goals exact ⟨by kernel_rfl, of_decide_eq_true (by kernel_rfl)⟩
  · match ds, h with
    | [d0], _ => rfl
  · intro W base args ds ps hval hA hlt hsz
    exact zooLoads_law W base args ds ps hval hA hlt hsz

set_option maxHeartbeats 4000000 in
theorem zooLoads_closed : joinedFacts Tryz.prog 3 Tryz.f3 Rows.zooLoadsSpec Rows.zooLoadsRow = true := by
  unfold joinedFacts
  repeat' (with_reducible refine and_intro ?_ ?_)
  · as_aux_lemma => kernel_rfl
  · exact laid_
  · exact mapsRowed_
  · as_aux_lemma => kernel_rfl
  · as_aux_lemma => kernel_rfl
  · as_aux_lemma => kernel_rfl
  · exact stops_
  · as_aux_lemma => kernel_rfl
  · exact stopKnobs_
  · as_aux_lemma => kernel_rfl
  · as_aux_lemma => kernel_rfl
  · as_aux_lemma => kernel_rfl
  · as_aux_lemma => kernel_rfl
  · as_aux_lemma => kernel_rfl
  · as_aux_lemma => kernel_rfl
  · as_aux_lemma => kernel_rfl
  · as_aux_lemma => kernel_rfl
  · as_aux_lemma => kernel_rfl
  · as_aux_lemma => kernel_rfl
  · as_aux_lemma => kernel_rfl
  · as_aux_lemma => kernel_rfl
  · as_aux_lemma => kernel_rfl
  · exact plainKeys_
  · as_aux_lemma => kernel_rfl
  · exact stopsHeard_
  · exact mayEnter_
  · exact liftsFinal_
  · exact make_
  · as_aux_lemma => kernel_rfl
  · as_aux_lemma => kernel_rfl
  · as_aux_lemma => kernel_rfl
  · as_aux_lemma => kernel_rfl

theorem zooLoads_holds : Rows.ZooLoadsSaid :=
  OpenClaim.holds_of_wide 3 Tryz.f3 rfl rfl rfl rfl rfl rfl rfl ⟨rfl, rfl, rfl, rfl, rfl⟩ rfl rfl rfl rfl rfl (by as_aux_lemma => kernel_rfl) Tryz.func3 zooLoads_closed
    (of_decide_eq_true (by as_aux_lemma => kernel_rfl)) (by unfold Func.isWrapper; first | (rw [if_pos (by decide +kernel)]; kernel_rfl) | (rw [if_neg (by decide +kernel)]; exact ⟨rfl, rfl⟩))
    (fun os started H enc _ => zooLoads_lifted os started H enc)
#print axioms zooLoads_holds
end Go.Proofs.YtehjfmjibiafdaaGreat
