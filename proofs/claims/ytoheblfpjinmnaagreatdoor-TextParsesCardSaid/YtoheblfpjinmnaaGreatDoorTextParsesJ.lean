import Derived.Lib.SmallJoins
import Derived.Test.YtoheblfpjinmnaaGreatDoorTextParsesJ32
set_option linter.unusedVariables false
set_option linter.unusedSimpArgs false
/- A part of the proof that TextParses returns true. -/
namespace Go.Proofs.YtoheblfpjinmnaaGreatDoor
open Go Go.RowKit Go.ChangeShapes Go.WideShapes Go.ChangeAt
attribute [local go_sem] AllFrom.cons_eq AllFrom.nil_eq putF_nil putF_cons wantedL_none wantedL_some OpGoalT OpGoalV OpGoalQ OpGoalA OpGoalK YieldsR preF_nil preF_cons ByteArray.mk_append_mk
set_option maxRecDepth 100000 in
set_option maxHeartbeats 4000000 in
theorem same_lies {w : World} {A1 A2 A3 A4 A5 A6 : Option Addr} {c1 c2 c3 c4 c5 c6 : Nat} {gs : List Int} {rows : List Rw} {bs : List Bd} (hg : gs.length ≤ 1200000000000) (hr : rows.length ≤ 1200000000000) (hbl : bs.length ≤ 1200000000000)
  (g1 : Lies w w.heap.size A1 (ints gs)) (g2 : Lies w w.heap.size A2 (rows.flatMap rwC)) (g3 : Lies w w.heap.size A3 (bs.flatMap bdC))
  (k1 : Lies w w.heap.size A4 (ints gs)) (k2 : Lies w w.heap.size A5 (rows.flatMap rwC)) (k3 : Lies w w.heap.size A6 (bs.flatMap bdC)) :
  Calls Tryz.prog 6 #[.agg #[.slice A1 gs.length c1,.slice A2 rows.length c2,.slice A3 bs.length c3],.agg #[.slice A4 gs.length c4,.slice A5 rows.length c5,.slice A6 bs.length c6]] w fun e w' => e = .returned (.bool true) ∧ Below w.heap.size w w':=by
 obtain ⟨w0,hw0,hb0,hz0,hs0⟩:=box1 w (.cells #[.slice A1 gs.length c1,.slice A2 rows.length c2,.slice A3 bs.length c3] 26)
 obtain ⟨w1,hw1,hb1,hz1,hs1⟩:=box1 w0 (.cells #[.slice A4 gs.length c4,.slice A5 rows.length c5,.slice A6 bs.length c6] 26)
 have hb01:=hb0.trans (hb1.mono hb0.size)
 have hz01:=(Mod.ofBelow hb1).keep hz0 (by simp)
 have H1:=Lib.hid (fun V (hb : Below w.heap.size w V) => by
  have h:=eqInt_any A1 c1 A4 c4 gs gs V.heap.size V.heap.size V (by omega) (by omega) ((g1.below hb).mono hb.size) ((k1.below hb).mono hb.size)
  rw [eqB_self] at h
  exact h)
 have H2:=Lib.hid (fun V (hb : Below w.heap.size w V) => by
  have h:=eqRow_any A2 c2 A5 c5 rows rows V (by omega) (by omega) ((g2.below hb).mono hb.size) ((k2.below hb).mono hb.size)
  rw [eqB_self] at h
  exact h)
 have H3:=Lib.hid (fun V (hb : Below w.heap.size w V) => by
  have h:=eqBond_any A3 c3 A6 c6 bs bs V (by omega) (by omega) ((g3.below hb).mono hb.size) ((k3.below hb).mono hb.size)
  rw [eqB_self] at h
  exact h)
 obtain ⟨a0,a1,a2,al⟩:=cells3 hz01
 obtain ⟨b0,b1,b2,bl⟩:=cells3 hz1
 obtain ⟨Hb01,Hz01,Hz1,Hs0,Hs1⟩:=hid5 hb01 hz01 hz1 hs0 hs1
 clear hb01 hz01 hz1 hs0 hs1
 clear g1 g2 g3 k1 k2 k3 hb0 hb1 hz0
 go_enter Tryz.func6,Tryz.ntmps6
 go_wp2_with fail
 clear hw0 hw1
 refine (H1.out _ Hb01.out).mono ?_
 rintro e w2 ⟨rfl,hw2⟩
 obtain rfl : w1 = w2:=hw2
 go_wp2_with fail
 refine (H2.out _ Hb01.out).mono ?_
 rintro e w3 ⟨rfl,hb3⟩
 have hz03:=(Mod.ofBelow hb3).keep Hz01.out (by simp)
 have hz13:=(Mod.ofBelow hb3).keep Hz1.out (by simp)
 have hb03:=Hb01.out.trans (hb3.mono Hb01.out.size)
 clear a0 a1 a2 al b0 b1 b2 bl
 obtain ⟨a0,a1,a2,al⟩:=cells3 hz03
 obtain ⟨b0,b1,b2,bl⟩:=cells3 hz13
 obtain ⟨Hz03,Hz13,Hb03⟩:=hid3 hz03 hz13 hb03
 clear hz03 hz13 hb03
 clear hb3
 go_wp2_with fail
 refine (H3.out _ Hb03.out).mono ?_
 rintro e w4 ⟨rfl,hb4⟩
 have hb04:=Hb03.out.trans (hb4.mono Hb03.out.size)
 have Hb04:=Lib.hid hb04
 clear hb04
 clear hb4
 go_wp2
 go_ret
 exact ⟨rfl,Hb04.out⟩
theorem parseZ_len (t : Bs) : (parseZ t).1.length ≤ 6000 ∧ (parseZ t).2.1.length ≤ 6000 ∧ (parseZ t).2.2.length ≤ 6000:=by
 unfold parseZ
 split
 ·next h =>
  have hl : t.length ≤ 6000:=by
   refine Classical.byContradiction fun e => ?_
   unfold parseE at h
   rw [if_pos (by omega)] at h
   exact absurd h (by decide)
  have:=(parseX_in t).1
  omega
 ·simp
set_option maxRecDepth 100000 in
set_option maxHeartbeats 8000000 in
theorem textParses_ok {w : World} {t : Bs} (hLv : LaidV w) (htl : t.length ≤ 9223372036854775807) :
  Calls Tryz.prog 3 #[str t] w fun e w' => e = .returned (.bool true) ∧ Below w.heap.size w w':=by
 have H1:=Lib.hid (parsep_any (t:=t) hLv htl)
 have hs:=parse_same t
 have hts:=parseZ_len t
 have H2:=Lib.hid (fun V (hb : Below w.heap.size w V) => rparse_any (w:=V) (t:=t) (hLv.below hb) htl)
 rw [← hs.1,← hs.2] at H2
 have H3:=Lib.hid (fun V (hb : Below w.heap.size w V) => guard_any (hLv.below hb))
 generalize parseE t = pe at *
 generalize parseZ t = pz at *
 obtain ⟨gs,rows,bs⟩:=pz
 unfold str at *
 obtain ⟨HLv,Hs,Hts⟩:=hid3 hLv hs hts
 clear hLv hs hts
 go_enter Tryz.func3,Tryz.ntmps3
 go_wp2_with fail
 refine H1.out.mono ?_
 rintro e w1 ⟨A1,c1,A2,c2,A3,c3,rfl,hL1,hL2,hL3,hb1⟩
 obtain ⟨wa,hwa,hba,hza,hsa⟩:=box1 w1 (.cells #[.slice A1 gs.length c1,.slice A2 rows.length c2,.slice A3 bs.length c3] 26)
 have hb1a:=hb1.trans (hba.mono hb1.size)
 have H4:=Lib.hid (H2.out _ hb1a)
 unfold ParsedPost at H4
 obtain ⟨HL1,HL2,HL3,Hb1,Hb1a,Hba,Hza,Hsa⟩:=hid8 hL1 hL2 hL3 hb1 hb1a hba hza hsa
 clear hL1 hL2 hL3 hb1 hb1a hba hza hsa
 clear H1 H2
 go_wp2_with fail
 clear hwa
 refine H4.out.mono ?_
 rintro e w2 ⟨A4,c4,A5,c5,A6,c6,rfl,hL4,hL5,hL6,hb2⟩
 obtain ⟨wb,hwb,hbb,hzb,hsb⟩:=box1 w2 (.cells #[.slice A4 gs.length c4,.slice A5 rows.length c5,.slice A6 bs.length c6] 26)
 have hb2b:=hb2.trans (hbb.mono hb2.size)
 have hb1b:=Hb1a.out.trans (hb2b.mono Hb1a.out.size)
 have H5:=Lib.hid (H3.out _ hb1b)
 obtain ⟨HL4,HL5,HL6,Hb2,Hb2b,Hb1b,Hbb,Hzb,Hsb⟩:=hid9 hL4 hL5 hL6 hb2 hb2b hb1b hbb hzb hsb
 clear hL4 hL5 hL6 hb2 hb2b hb1b hbb hzb hsb
 clear H4 H3
 go_wp2_with fail
 clear hwb
 refine H5.out.mono ?_
 rintro e w3 ⟨E1,e1,E2,e2,E3,e3,rfl,hb3⟩
 obtain ⟨wc,hwc,hbc,hzc,hsc⟩:=box1 w3 (.cells #[.slice E1 0 e1,.slice E2 0 e2,.slice E3 0 e3] 26)
 have hb3c:=hb3.trans (hbc.mono hb3.size)
 have hza2:=(Mod.ofBelow hb3c).keep ((Mod.ofBelow Hb2b.out).keep Hza.out (by simp)) (by simp)
 have hzb2:=(Mod.ofBelow hb3c).keep Hzb.out (by simp)
 have hb1c:=Hba.out.trans ((Hb2b.out.trans (hb3c.mono Hb2b.out.size)).mono Hba.out.size)
 have hb2c:=Hbb.out.trans (hb3c.mono Hbb.out.size)
 have hb0c:=Hb1b.out.trans (hb3c.mono Hb1b.out.size)
 have HSm:=Lib.hid (same_lies (w:=wc) (c1:=c1) (c2:=c2) (c3:=c3) (c4:=c4) (c5:=c5) (c6:=c6) (Nat.le_trans Hts.out.1 (by decide)) (Nat.le_trans Hts.out.2.1 (by decide)) (Nat.le_trans Hts.out.2.2 (by decide))
  ((HL1.out.below hb1c).mono hb1c.size) ((HL2.out.below hb1c).mono hb1c.size) ((HL3.out.below hb1c).mono hb1c.size) ((HL4.out.below hb2c).mono hb2c.size) ((HL5.out.below hb2c).mono hb2c.size) ((HL6.out.below hb2c).mono hb2c.size))
 obtain ⟨a0,a1,a2,al⟩:=cells3 hza2
 obtain ⟨b0,b1,b2,bl⟩:=cells3 hzb2
 obtain ⟨Hb3,Hbc,Hzc,Hsc,Hb3c,Hza2,Hzb2,Hb1c,Hb2c,Hb0c⟩:=hid10 hb3 hbc hzc hsc hb3c hza2 hzb2 hb1c hb2c hb0c
 clear hb3 hbc hzc hsc hb3c hza2 hzb2 hb1c hb2c hb0c
 clear H5
 go_wp2_with fail
 clear hwc
 refine HSm.out.mono ?_
 rintro e w4 ⟨rfl,hb4⟩
 have hb04:=Hb0c.out.trans (hb4.mono Hb0c.out.size)
 have Hb04:=Lib.hid hb04
 clear hb04
 clear hb4 HSm
 go_wp2
 go_ret
 exact ⟨rfl,Hb04.out⟩
set_option maxRecDepth 100000 in
theorem textParses_law {H : Type} {enc : TypeId × Value → H} (W : World) (base : Nat) (args : Array Value) (ds : List (DataW H)) (ps : List MemPlace) (hLv : LaidV W)
  (hval : ∀ (j : Nat) t v,Tryz.f3.params[j]? = some t → args[j]? = some v → Value.okWide Tryz.prog W .any base t v)
  (hA : DataW.TrodAll enc Tryz.prog W 0 (fun _ => true) true Tryz.f3.params.toList args.toList ds ps) (_hlt : ∀ p ∈ ps,p.block < W.heap.size)
  (_hsz : ∀ (j : Nat) t d,Tryz.f3.params.toList[j]? = some t → ds[j]? = some d → ∀ m ∈ d.weights Tryz.prog t,m ≤ reachBytes) :
  Calls Tryz.prog 3 args W fun e W' => e = .returned (.bool true) ∧ Below W.heap.size W W':=by
 rw [Tryz.params3] at hA hval
 obtain ⟨v0,d0,rfl,rfl,h0⟩:=trodAll_one hA
 obtain ⟨s,rfl,-,-,hs⟩:=Go.ChangeMaps.open_string Tryz.underlying9 (hval 0 9 v0 rfl rfl) h0
 have e : (Value.string s) = str s.data.toList:=by
  obtain ⟨d⟩:=s
  unfold str
  rw [Array.toArray_toList]
 rw [e]
 refine textParses_ok hLv ?_
 have h1 : s.data.toList.length = s.size:=Array.length_toList
 unfold maxLen at hs
 omega
theorem textParses_met (os : Os) (args : Array Value) : laidMetH Tryz.prog Rows.textParsesRow.laid ((World.laidAll Tryz.prog os Rows.textParsesRow.laid).forCall (fun _ _ => 0) ⟨#[],args,[]⟩).memory:=by
 rw [MakeChecks.laidMetH_plain _ _ _ (by kernel_rfl)]
 exact laidMet_laidAll _ (by kernel_rfl) (by kernel_rfl)
set_option maxRecDepth 100000 in
theorem textParses_lifted (os : Os) (started : os.Started) (H : Type) (enc : TypeId × Value → H) :
  ReturnsInHanded {} Tryz.checked os 3 .any (fun w args => (Rows.textParsesSpec.pre enc Tryz.prog Tryz.f3 [] false w args ∧ laidMetH Tryz.prog Rows.textParsesRow.laid w) ∧ sizedMet enc Tryz.prog Tryz.f3 (OpenSpec.ofChange Rows.textParsesSpec) false w args) (Rows.textParsesSpec.post enc Tryz.prog Tryz.f3 false true false false):=by
 refine (law_lifted_laid (C:=Tryz.checked) (tb:=4) started own_ laid_ (by kernel_rfl) Tryz.func3 ?_ rfl rfl (by kernel_rfl) (fun ds h => ?_)
  (ChangeSpec.witness_shaped (enc:=enc) (C:=Tryz.checked) (os:=os) (X:=fun w _ => laidMetH Tryz.prog Rows.textParsesRow.laid w) false (World.laidAll Tryz.prog os Rows.textParsesRow.laid) #[.string ⟨#[]⟩] 8 (World.laidAll_os _ _ _)
   (World.shaped_of_ZipB (by kernel_rfl) (by kernel_rfl)) (by kernel_rfl) (by kernel_rfl) (by kernel_rfl) (textParses_met os _)) ?_)
 ·intro t ht
  have : t = 9:=by simpa [Tryz.params3] using ht
  rcases this with rfl
  all_goals exact ⟨by kernel_rfl,of_decide_eq_true (by kernel_rfl)⟩
 ·match ds,h with
  | [d0],_ => rfl
 ·intro W base args ds ps hsh hX hval hA hlt hsz
  exact textParses_law W base args ds ps (laidV_of hsh hX) hval hA hlt hsz
set_option maxHeartbeats 4000000 in
theorem textParses_closed : joinedFacts Tryz.prog 3 Tryz.f3 Rows.textParsesSpec Rows.textParsesRow = true:=by
 unfold joinedFacts
 repeat' (with_reducible refine and_intro ?_ ?_)
 ·as_aux_lemma => kernel_rfl
 ·exact laid_
 ·exact mapsRowed_
 ·as_aux_lemma => kernel_rfl
 ·as_aux_lemma => kernel_rfl
 ·as_aux_lemma => kernel_rfl
 ·exact stops_
 ·as_aux_lemma => kernel_rfl
 ·exact stopKnobs_
 ·as_aux_lemma => kernel_rfl
 ·as_aux_lemma => kernel_rfl
 ·as_aux_lemma => kernel_rfl
 ·as_aux_lemma => kernel_rfl
 ·as_aux_lemma => kernel_rfl
 ·as_aux_lemma => kernel_rfl
 ·as_aux_lemma => kernel_rfl
 ·as_aux_lemma => kernel_rfl
 ·as_aux_lemma => kernel_rfl
 ·as_aux_lemma => kernel_rfl
 ·as_aux_lemma => kernel_rfl
 ·as_aux_lemma => kernel_rfl
 ·as_aux_lemma => kernel_rfl
 ·exact plainKeys_
 ·as_aux_lemma => kernel_rfl
 ·exact stopsHeard_
 ·exact mayEnter_
 ·exact liftsFinal_
 ·exact make_
 ·as_aux_lemma => kernel_rfl
 ·as_aux_lemma => kernel_rfl
 ·as_aux_lemma => kernel_rfl
 ·as_aux_lemma => kernel_rfl
theorem textParses_row : Rows.TextParsesSaid :=
 OpenClaim.holds_of_wide 3 Tryz.f3 rfl rfl rfl rfl rfl rfl rfl ⟨rfl,rfl,rfl,rfl,rfl⟩ rfl rfl rfl rfl rfl (by as_aux_lemma => kernel_rfl) Tryz.func3 textParses_closed
  (of_decide_eq_true (by as_aux_lemma => kernel_rfl)) (by unfold Func.isWrapper;first | (rw [if_pos (by decide +kernel)];kernel_rfl) | (rw [if_neg (by decide +kernel)];exact ⟨rfl,rfl⟩))
  (fun os started H enc _ => textParses_lifted os started H enc)
theorem textParses_holds : Rows.TextParsesCardSaid :=
 holds_tied_goes .later [.data, .data, .data, .data, .sentinel, .sentinel, .pinned] true (true, "995bd8b944e6a6797312e76673ee82fb1da58cb361c378b6a2bc076fd4766e87") true false
  textParses_row (by kernel_rfl) textParses_row_tie rfl ⟨rfl,rfl⟩ (by kernel_rfl) rfl
  (fun f fn hf hfn => by
   obtain rfl : f = 3 := Option.some.inj ((show Tryz.prog.funcNamed "vivarium/vivariumlaw.TextParses" = some 3 by kernel_rfl).symm.trans hf) |>.symm
   obtain rfl : fn = Tryz.f3:=(Option.some.inj (Tryz.func3.symm.trans hfn)).symm
   exact ⟨by kernel_rfl,fun j t ht => by
    rw [Tryz.params3] at ht
    have hm : t ∈ [9]:=by simpa using Array.mem_of_getElem? ht
    have hall : ([9].all fun u => !Tryz.prog.wantsStandIn u) = true:=by kernel_rfl
    exact (show Tryz.prog.wantsStandIn t = false by simpa using List.all_eq_true.1 hall t hm)⟩)
  (by kernel_rfl)
#print axioms textParses_holds
end Go.Proofs.YtoheblfpjinmnaaGreatDoor
