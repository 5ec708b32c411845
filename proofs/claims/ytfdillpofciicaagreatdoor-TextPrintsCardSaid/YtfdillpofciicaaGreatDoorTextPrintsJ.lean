import Derived.Lib.SmallJoins
import Derived.Test.YtfdillpofciicaaGreatDoorTextPrintsJ28
set_option linter.unusedVariables false
set_option linter.unusedSimpArgs false
/- A part of the proof that TextPrints returns true. -/
namespace Go.Proofs.YtfdillpofciicaaGreatDoor
open Go Go.RowKit Go.ChangeShapes Go.WideShapes Go.ChangeAt
attribute [local go_sem] AllFrom.cons_eq AllFrom.nil_eq putF_nil putF_cons wantedL_none wantedL_some OpGoalT OpGoalV OpGoalQ OpGoalA OpGoalK YieldsR preF_nil preF_cons ByteArray.mk_append_mk
theorem intCells_RowS : IntCells Tryz.prog 56:=IntCells.struct Tryz.underlying56 (by kernel_rfl) (by
 intro f hf
 simp only [List.mem_toArray,List.mem_cons,List.not_mem_nil,or_false] at hf
 rcases hf with rfl | rfl
 ·exact intCells_Handle
 ·exact intCells_Beast)
theorem intCells_BondS : IntCells Tryz.prog 60:=IntCells.struct Tryz.underlying60 (by kernel_rfl) (by
 intro f hf
 simp only [List.mem_toArray,List.mem_cons,List.not_mem_nil,or_false] at hf
 rcases hf with rfl | rfl
 ·exact intCells_Handle
 ·exact intCells_Handle)
theorem bdI_mkS (zs : List Int) (h : zs.length = 4) : ∃ x,bdI x = zs:=by
 match zs,h with
 | [a,b,c,d],_ => exact ⟨((a,b),(c,d)),rfl⟩
set_option maxRecDepth 100000 in
set_option maxHeartbeats 8000000 in
theorem textPrints_ok {w : World} {A1 A2 A3 : Option Addr} {c1 c2 c3 : Nat} {gs : List Int} {rows : List Rw} {bs : List Bd} (hLv : LaidV w) (hg : gs.length ≤ 1200000000000000) (hr : rows.length ≤ 1200000000000000) (hbl : bs.length ≤ 1200000000000000)
  (hA1 : Lies w w.heap.size A1 (ints gs)) (hA2 : Lies w w.heap.size A2 (rows.flatMap rwC)) (hA3 : Lies w w.heap.size A3 (bs.flatMap bdC)) (hG : ∀ n ∈ gs,InR n) (hR : ∀ b ∈ bs,HdR b.1 ∧ HdR b.2) :
  Calls Tryz.prog 3 #[.agg #[.slice A1 gs.length c1,.slice A2 rows.length c2,.slice A3 bs.length c3]] w fun e w' => e = .returned (.bool true) ∧ Below w.heap.size w w':=by
 obtain ⟨w0,hw0,hb0,hz0,hs0⟩:=box1 w (.cells #[.slice A1 gs.length c1,.slice A2 rows.length c2,.slice A3 bs.length c3] 26)
 have hB1:=(hA1.below hb0).mono hb0.size;have hB2:=(hA2.below hb0).mono hb0.size;have hB3:=(hA3.below hb0).mono hb0.size
 have hL0:=hLv.below hb0
 have H1:=Lib.hid (print_any (c1:=c1) (c2:=c2) (c3:=c3) hL0 hg hr hbl hB1 hB2 hB3 hG hR)
 have H2:=Lib.hid (fun V (hb : Below w0.heap.size w0 V) => rprint_any (c1:=c1) (c2:=c2) (c3:=c3) (w:=V) hg hr hbl ((hB1.below hb).mono hb.size) ((hB2.below hb).mono hb.size) ((hB3.below hb).mono hb.size))
 have H3:=Lib.hid (fun V (hb : Below w0.heap.size w0 V) => guard_any (hL0.below hb))
 generalize printS gs rows bs = ps at *
 generalize printE gs rows bs = pe at *
 unfold str at *
 obtain ⟨o0,o1,o2,ol⟩:=cells3 hz0
 obtain ⟨Hb0,Hz0⟩:=hid2 hb0 hz0
 clear hb0 hz0
 clear hA1 hA2 hA3 hB1 hB2 hB3 hR hG hs0 hLv hL0
 go_enter Tryz.func3,Tryz.ntmps3
 go_wp2_with fail
 clear hw0 o0 o1 o2 ol
 refine H1.out.mono ?_
 rintro e w1 ⟨rfl,hb1⟩
 have hz1:=(Mod.ofBelow hb1).keep Hz0.out (by simp)
 have H4:=Lib.hid (H2.out _ hb1)
 obtain ⟨o0,o1,o2,ol⟩:=cells3 hz1
 obtain ⟨Hb1,Hz1⟩:=hid2 hb1 hz1
 clear hb1 hz1
 clear H1 H2
 go_wp2_with fail
 clear o0 o1 o2 ol
 refine H4.out.mono ?_
 rintro e w2 ⟨rfl,hb2⟩
 have hb12:=Hb1.out.trans (hb2.mono Hb1.out.size)
 have H5:=Lib.hid (H3.out _ hb12)
 have Hb12:=Lib.hid hb12
 clear hb12
 clear hb2 H3 H4
 go_wp2_with fail
 refine H5.out.mono ?_
 rintro e w3 ⟨E1,e1,E2,e2,E3,e3,rfl,hb3⟩
 have hb03:=Hb0.out.trans ((Hb12.out.trans (hb3.mono Hb12.out.size)).mono Hb0.out.size)
 have Hb03:=Lib.hid hb03
 clear hb03
 clear hb3 H5
 go_wp2
 go_ret
 exact ⟨rfl,Hb03.out.alloc Hb03.out.size _⟩
set_option maxRecDepth 100000 in
theorem textPrints_law {H : Type} {enc : TypeId × Value → H} (W : World) (base : Nat) (args : Array Value) (ds : List (DataW H)) (ps : List MemPlace) (hLv : LaidV W)
  (hval : ∀ (j : Nat) t v,Tryz.f3.params[j]? = some t → args[j]? = some v → Value.okWide Tryz.prog W .any base t v)
  (hA : DataW.TrodAll enc Tryz.prog W 0 (fun _ => true) true Tryz.f3.params.toList args.toList ds ps) (hlt : ∀ p ∈ ps,p.block < W.heap.size)
  (hsz : ∀ (j : Nat) t d,Tryz.f3.params.toList[j]? = some t → ds[j]? = some d → ∀ m ∈ d.weights Tryz.prog t,m ≤ reachBytes) :
  Calls Tryz.prog 3 args W fun e W' => e = .returned (.bool true) ∧ Below W.heap.size W W':=by
 rw [Tryz.params3] at hA hval hsz
 obtain ⟨v0,d0,rfl,rfl,h0⟩:=trodAll_one hA
 obtain ⟨x1,x2,x3,y1,y2,y3,m,rfl,rfl,rfl,k1,k2,k3⟩:=Go.Joins.open_agg3 Tryz.underlying26 (by kernel_rfl) (by kernel_rfl) (hval 0 26 v0 rfl rfl) h0
 have hw:=hsz 0 26 _ rfl rfl
 have hw1 : ∀ m ∈ y1.1.weights Tryz.prog 22,m ≤ reachBytes:=fun m hm => hw m (by rw [DataW.weights,Tryz.underlying26];simp [DataW.weightsEach,hm])
 have hw2 : ∀ m ∈ y2.1.weights Tryz.prog 23,m ≤ reachBytes:=fun m hm => hw m (by rw [DataW.weights,Tryz.underlying26];simp [DataW.weightsEach,hm])
 have hw3 : ∀ m ∈ y3.1.weights Tryz.prog 24,m ≤ reachBytes:=fun m hm => hw m (by rw [DataW.weights,Tryz.underlying26];simp [DataW.weightsEach,hm])
 obtain ⟨A1,n1,c1,gs,rfl,-,-,hl1,hG,hL1⟩:=open_slice_cell Tryz.underlying22 intCells_int (k:=1) (by kernel_rfl) (by omega) k1 (fun p hp => hlt p (by simp [hp]))
 obtain rfl : n1 = gs.length:=by omega
 have hs1:=slice_size_cell Tryz.underlying22 k1 hw1
 rw [show Tryz.prog.bytesOf 3 = 8 by kernel_rfl,reach_val] at hs1
 obtain ⟨A2,n2,c2,zs,rfl,-,-,hl2,-,hL2⟩:=open_slice_cell Tryz.underlying23 intCells_RowS (k:=11) (by kernel_rfl) (by omega) k2 (fun p hp => hlt p (by simp [hp]))
 obtain ⟨rows,hl2',rfl⟩:=unflat rwI 11 rwI_mk n2 zs hl2
 have hs2:=slice_size_cell Tryz.underlying23 k2 hw2
 rw [show Tryz.prog.bytesOf 56 = 88 by kernel_rfl,reach_val] at hs2
 rw [show ints (rows.flatMap rwI) = rows.flatMap rwC by unfold ints rwC;rw [List.map_flatMap];rfl] at hL2
 obtain ⟨A3,n3,c3,zs3,rfl,-,-,hl3,hin,hL3⟩:=open_slice_cell Tryz.underlying24 intCells_BondS (k:=4) (by kernel_rfl) (by omega) k3 (fun p hp => hlt p (by simp [hp]))
 obtain ⟨bs,hl3',rfl⟩:=unflat bdI 4 bdI_mkS n3 zs3 hl3
 have hs3:=slice_size_cell Tryz.underlying24 k3 hw3
 rw [show Tryz.prog.bytesOf 60 = 32 by kernel_rfl,reach_val] at hs3
 rw [show ints (bs.flatMap bdI) = bs.flatMap bdC by unfold ints bdC;rw [List.map_flatMap];rfl] at hL3
 subst hl2' hl3'
 have hR : ∀ b ∈ bs,HdR b.1 ∧ HdR b.2:=fun b hb => by
  have hz : ∀ z ∈ bdI b,InR z:=fun z hz => hin z (List.mem_flatMap.2 ⟨b,hb,hz⟩)
  obtain ⟨⟨s,g⟩,t,u⟩:=b
  exact ⟨⟨hz s (by simp [bdI,hdI]),hz g (by simp [bdI,hdI])⟩,⟨hz t (by simp [bdI,hdI]),hz u (by simp [bdI,hdI])⟩⟩
 exact textPrints_ok hLv (by omega) (by omega) (by omega) hL1 hL2 hL3 hG hR
theorem textPrints_met (os : Os) (args : Array Value) : laidMetH Tryz.prog Rows.textPrintsRow.laid ((World.laidAll Tryz.prog os Rows.textPrintsRow.laid).forCall (fun _ _ => 0) ⟨#[],args,[]⟩).memory:=by
 rw [MakeChecks.laidMetH_plain _ _ _ (by kernel_rfl)]
 exact laidMet_laidAll _ (by kernel_rfl) (by kernel_rfl)
set_option maxRecDepth 100000 in
theorem textPrints_lifted (os : Os) (started : os.Started) (H : Type) (enc : TypeId × Value → H) :
  ReturnsInLeavingWide {} Tryz.checked os 3 .any (fun w args => (Rows.textPrintsSpec.pre enc Tryz.prog Tryz.f3 [] false w args ∧ laidMetH Tryz.prog Rows.textPrintsRow.laid w) ∧ sizedMet enc Tryz.prog Tryz.f3 (OpenSpec.ofChange Rows.textPrintsSpec) false w args) (Rows.textPrintsSpec.post enc Tryz.prog Tryz.f3 false true false false):=by
 refine ReturnsInHanded.leaving (law_lifted_laid (C:=Tryz.checked) (tb:=4) started own_ laid_ (by kernel_rfl) Tryz.func3 ?_ rfl rfl (by kernel_rfl) (fun ds h => ?_)
  (ChangeSpec.witness_shaped (enc:=enc) (C:=Tryz.checked) (os:=os) (X:=fun w _ => laidMetH Tryz.prog Rows.textPrintsRow.laid w) false (World.laidAll Tryz.prog os Rows.textPrintsRow.laid) #[.agg #[.slice none 0 0,.slice none 0 0,.slice none 0 0]] 8 (World.laidAll_os _ _ _)
   (World.shaped_of_ZipB (by kernel_rfl) (by kernel_rfl)) (by kernel_rfl) (by kernel_rfl) (by kernel_rfl) (textPrints_met os _)) ?_)
 ·intro t ht
  have : t = 26:=by simpa [Tryz.params3] using ht
  rcases this with rfl
  all_goals exact ⟨by kernel_rfl,of_decide_eq_true (by kernel_rfl)⟩
 ·match ds,h with
  | [d0],_ => rfl
 ·intro W base args ds ps hsh hX hval hA hlt hsz
  exact textPrints_law W base args ds ps (laidV_of hsh hX) hval hA hlt hsz
set_option maxHeartbeats 4000000 in
theorem textPrints_closed : joinedFacts Tryz.prog 3 Tryz.f3 Rows.textPrintsSpec Rows.textPrintsRow = true:=by
 unfold joinedFacts
 repeat' (with_reducible refine and_intro ?_ ?_)
 ·as_aux_lemma => kernel_rfl
 ·exact laid_
 ·exact mapsRowed_
 ·as_aux_lemma => kernel_rfl
 ·as_aux_lemma => kernel_rfl
 ·as_aux_lemma => kernel_rfl
 ·exact stops_
 ·as_aux_lemma => kernel_rfl
 ·exact stopKnobs_
 ·as_aux_lemma => kernel_rfl
 ·as_aux_lemma => kernel_rfl
 ·as_aux_lemma => kernel_rfl
 ·as_aux_lemma => kernel_rfl
 ·as_aux_lemma => kernel_rfl
 ·as_aux_lemma => kernel_rfl
 ·as_aux_lemma => kernel_rfl
 ·as_aux_lemma => kernel_rfl
 ·as_aux_lemma => kernel_rfl
 ·as_aux_lemma => kernel_rfl
 ·as_aux_lemma => kernel_rfl
 ·as_aux_lemma => kernel_rfl
 ·as_aux_lemma => kernel_rfl
 ·exact plainKeys_
 ·as_aux_lemma => kernel_rfl
 ·exact stopsHeard_
 ·exact mayEnter_
 ·exact liftsFinal_
 ·exact make_
 ·as_aux_lemma => kernel_rfl
 ·as_aux_lemma => kernel_rfl
 ·as_aux_lemma => kernel_rfl
 ·as_aux_lemma => kernel_rfl
theorem textPrints_row : Rows.TextPrintsSaid :=
 OpenClaim.holds_of_wide_leaving 3 Tryz.f3 rfl rfl rfl rfl rfl rfl rfl ⟨rfl,rfl,rfl,rfl,rfl⟩ rfl rfl rfl rfl rfl (by as_aux_lemma => kernel_rfl) Tryz.func3 textPrints_closed
  (of_decide_eq_true (by as_aux_lemma => kernel_rfl)) (by unfold Func.isWrapper;first | (rw [if_pos (by decide +kernel)];kernel_rfl) | (rw [if_neg (by decide +kernel)];exact ⟨rfl,rfl⟩))
  (fun os started H enc _ => textPrints_lifted os started H enc)
theorem textPrints_holds : Rows.TextPrintsCardSaid :=
 holds_tied_goes .later [.data, .data, .data, .data, .sentinel, .sentinel, .pinned] true (true, "1c276c0ccf89fdd18cffb6671677c068dd8a0d32a66beb5d65534d45e6538d3d") true true
  textPrints_row (by kernel_rfl) textPrints_row_tie rfl ⟨rfl,rfl⟩ (by kernel_rfl) rfl
  (fun f fn hf hfn => by
   obtain rfl : f = 3 := Option.some.inj ((show Tryz.prog.funcNamed "vivarium/vivariumlaw.TextPrints" = some 3 by kernel_rfl).symm.trans hf) |>.symm
   obtain rfl : fn = Tryz.f3:=(Option.some.inj (Tryz.func3.symm.trans hfn)).symm
   exact ⟨by kernel_rfl,fun j t ht => by
    rw [Tryz.params3] at ht
    have hm : t ∈ [26]:=by simpa using Array.mem_of_getElem? ht
    have hall : ([26].all fun u => !Tryz.prog.wantsStandIn u) = true:=by kernel_rfl
    exact (show Tryz.prog.wantsStandIn t = false by simpa using List.all_eq_true.1 hall t hm)⟩)
  (by kernel_rfl)
#print axioms textPrints_holds
end Go.Proofs.YtfdillpofciicaaGreatDoor
