import Derived.Test.YtoheblfpjinmnaaGreatDoorTextParsesJ29
set_option linter.unusedVariables false
set_option linter.unusedSimpArgs false
/- A part of the proof that TextParses returns true. -/
namespace Go.Proofs.YtoheblfpjinmnaaGreatDoor
open Go Go.RowKit Go.Shelf
attribute [local go_sem] AllFrom.cons_eq AllFrom.nil_eq putF_nil putF_cons wantedL_none wantedL_some OpGoalT OpGoalV OpGoalQ OpGoalA OpGoalK YieldsR preF_nil preF_cons ByteArray.mk_append_mk
set_option maxRecDepth 100000 in
set_option maxHeartbeats 80000000 in
theorem arm0 : fr.G0:=by
 intro w u htl w0 hul Hb0 HLv Hs0 Hz0 HL0 Hsf HLen hli hw y14z y15z w1 W2 xs hxs HpR hxn Hxl HRJ HpR2 Hw1 y26z u6 u7 u8 y30z y31z y32z y33z y34z y35z y36z y37z y38z y39z y40z u21 u22 u44 u45 u46 u47 u48 u49 u50 u51 u52 u53 y53z y54z y55z y56z y57z y58z y59z y60z y61z y62z y63z y64z y65z y66z y67z y68z y69z y70z y71z y72z y73z y74z y75z y76z y77z y78z y79z y80z y81z y82z y83z y84z y85z y86z y87z y88z y89z y90z y91z y92z y93z y94z y95z y96z y97z y98z y99z y100z y101z y102z y103z y104z y105z y106z y107z y108z y109z y110z y111z y112z y113z y114z y115z y116z y117z y118z y119z y120z y121z y122z y123z y124z y125z y126z y127z y128z y129z y130z y131z y132z y133z y134z y135z u137 u138 u139 u140 u141 u142 u143 u144 u145 u146 u147 u148 u149 u150 u151 u152 u153 u154 u155 u156 u157 u158 u159 u160 u161 u162 u163 u164 u165 u166 u167 u168 u169 u170 u171 u172 u173 u174 u175 u176 u177 u178 u179 u180 u181 u182 u183 u184 u185 u186 u187 u188 u189 u190 u191 u192 u193 u194 u195 u196 u197 u198 u199 u200 u201 u202 u203 u204 u205 u206 u207 u208 u209 u210 u211 u212 u213 u214 u215 u216 u217 u218 u219 u220 u221 u222 u223 u224 u225 u226 u227 u228 u229 u230 u231 u232 u233 u234 u235 u236 u237 u238 u239 u240 u241 u242 u243 u244 u245 u246 u247 u248 u249 u250 u251 u252 u253 u254 u255 u256 u257 u258 u259 u260 u261 u262 u263 u264 u265 u266 u267 u268 u269 u270 u271 k st hk hlt v1 v2 v3 x wd ws hwn hk6 Hnil Hxlen Hxn Hws Hwl y288z y289z y290z W3 Aw hLw hn1 hn1' wo HP Hln HB HBw HR y302z hcut1 isR Hlin Hline Hb3 Hbk3 HLa HLw HP3 Hisr HB03 y314z y315z wr u3 u9 u11 u12 u13 u14 u15 u16 u17 u18 u19 u20 u54 u55 u56 u57 u58 u59 u60 u61 u62 u63 u64 u65 u66 u67 u68 u69 u70 u71 u72 u73 u74 u75 u76 u77 u78 u79 u80 u81 u82 u83 u84 u85 u86 u87 u88 u89 u90 u91 u92 u93 u94 u95 u96 u97 u98 u99 u100 u101 u102 u103 u104 u105 u106 u107 u108 u109 u110 u111 u112 u113 u114 u115 u116 u117 u118 u119 u120 u121 u122 u123 u124 u125 u126 u127 u128 u129 u130 u131 u132 u133 u134 u135 u136 j n hj hwd hnl hKO hown hB5 hlt2
 obtain ⟨aw,rfl,haw,hcw⟩:=(HLw.out.below hB5).str_ hlt2
 rw [List.drop_eq_getElem_cons hlt2,wordsR_cons] at hwd
 have hy6:=Hwl.out _ (List.mem_cons_of_mem _ (List.getElem_mem hlt2))
 generalize ws[j] = y at *
 obtain ⟨A9,c9,rfl,hc9,-⟩:=row_lies hown
 have hB50:=HB03.out.trans (hB5.mono HB03.out.size)
 have HC:=Lib.hid (cutT_any y [61] (HL0.out.below hB50) (by omega))
 have hpl:=cut_len y
 generalize (Lib.cut y [61]).1 = p at *
 generalize (Lib.cut y [61]).2.1 = q at *
 generalize (Lib.cut y [61]).2.2 = bb at *
 unfold str at hcw HC
 have hn6 : n.length ≤ 12000:=by omega
 obtain ⟨Hwd,Hy6,HB5,Hown,HKO,Hpl,HB50,Hc9⟩:=hid8 hwd hy6 hB5 hown hKO hpl hB50 hc9
 clear hwd hy6 hB5 hown hKO hpl hB50 hc9
 go_wp2_with fail
 refine HC.out.mono ?_
 rintro e V1 ⟨rfl,hb1⟩
 have hB01:=HB50.out.trans (hb1.mono HB50.out.size)
 have hB31:=HB5.out.trans (hb1.mono HB5.out.size)
 have hbkV:=(Mod.ofBelow hB31).keep Hbk3.out (by simp)
 have hv1:=row_mod Hown.out (Mod.ofBelow hb1) (by simp)
 have e0:=blk_cell hbkV 0
 simp only [mC,eA,eZ] at e0
 have el:=blk_lt hbkV
 unfold str at e0
 clear hcw HC haw
 obtain ⟨Hb1,HB01,HB31,HbkV,Hv1⟩:=hid5 hb1 hB01 hB31 hbkV hv1
 clear hb1 hB01 hB31 hbkV hv1
 by_cases hrow : wd = wRow
 ·have hisT : isR = true:=by rw [← Hisr.out,hrow];rfl
  subst hrow
  have HisT:=Lib.hid hisT
  clear hisT
  by_cases h2 : 2 ≤ n.length
  ·have hge : (2 : Int) ≤ (n.length : Int):=by omega
   cases bb with
   | true =>
    have hev:=(HKO.out HisT.out h2).1
    have hev1 : ((n.length : Int) % 2 == 0) = true:=by simp;omega
    have hev2 : (Int.tmod (n.length : Int) 2 == 0) = true:=by rw [Int.tmod_eq_emod_of_nonneg (by omega)];simp;omega
    have hwdN:=Hwd.out
    rw [if_pos ⟨rfl,by unfold wantsP;rw [HisT.out];simp;omega⟩] at hwdN
    have HN1:=Lib.hid (rnumber_any p (by have:=Hpl.out;have:=Hy6.out;omega) V1)
    unfold str at HN1
    have HwdN:=Lib.hid hwdN
    clear hwdN
    go_wp2_with fail
    refine HN1.out.mono ?_
    rintro e V2 ⟨m1,b1,rfl,hnum1,hsm1,hb2⟩
    have HN2:=Lib.hid (rnumber_any q (by have:=Hpl.out;have:=Hy6.out;omega) V2)
    unfold str at HN2
    clear HN1 e0 el hev1 hev2
    obtain ⟨Hb2,Hnum1,Hsm1⟩:=hid3 hb2 hnum1 hsm1
    clear hb2 hnum1 hsm1
    go_wp2_with fail
    refine HN2.out.mono ?_
    rintro e V3 ⟨m2,b2,rfl,hnum2,hsm2,hb3'⟩
    have hb13:=Hb2.out.trans (hb3'.mono Hb2.out.size)
    have hB2:=HB01.out.trans (hb13.mono HB01.out.size)
    have hB32:=HB31.out.trans (hb13.mono HB31.out.size)
    clear HN2
    cases b1 with
    | false =>
     have hwn : wordsR isR [] ws = none:=by rw [HwdN.out,Hnum1.out];rfl
     obtain ⟨HB2,HB32,Hb3',Hb13,Hnum2,Hsm2,Hwn⟩:=hid7 hB2 hB32 hb3' hb13 hnum2 hsm2 hwn
     clear hB2 hB32 hb3' hb13 hnum2 hsm2 hwn
     have hE9:=parseRE_none HLen.out (HpR2.out.trans (by rw [Hlin.out,Hwn.out,lineW];rfl))
     have hzx:=(Mod.ofBelow HB2.out).keep Hz0.out (by simp)
     have hbx:=Hb0.out.trans ((HB2.out).mono Hb0.out.size)
     obtain ⟨HE9,Hzx,Hbx⟩:=hid3 hE9 hzx hbx
     clear hE9 hzx hbx
     have f0:=blk_free Hzx.out 0;have f1:=blk_free Hzx.out 1;have f2:=blk_free Hzx.out 2
     go_wp2_with fail
     refine (bad_any _).mono ?_
     rintro e wb ⟨rfl,hbb⟩
     have hzb:=(Mod.ofBelow hbb).keep Hzx.out (by simp)
     have hbw:=Hbx.out.trans (hbb.mono Hbx.out.size)
     obtain ⟨o0,o1,o2,ol⟩:=cells3 hzb
     have f0:=blk_free hzb 0;have f1:=blk_free hzb 1;have f2:=blk_free hzb 2
     have e0:=blk_same hzb 0 (.slice none 0 0) rfl;have e1:=blk_same hzb 1 (.slice none 0 0) rfl;have e2:=blk_same hzb 2 (.slice none 0 0) rfl
     obtain ⟨Hbb,Hzb,Hbw,HX0,HX1,HX2⟩:=hid6 hbb hzb hbw e0 e1 e2
     clear hbb hzb hbw e0 e1 e2
     go_wp2
     rw [HX0.out,HX1.out,HX2.out]
     refine bodyPost_ret (v:=.tuple #[.agg #[.slice none 0 0,.slice none 0 0,.slice none 0 0],.int .i64 9]) (by unfold results;try go_simp) rfl ?_
     rw [HE9.out,parseRZ_bad HE9.out]
     exact parsed_nil rfl Hbw.out
    | true =>
     cases b2 with
     | false =>
      have hwn : wordsR isR [] ws = none:=by rw [HwdN.out,Hnum1.out,hnum2];rfl
      obtain ⟨HB2,HB32,Hb3',Hb13,Hnum2,Hsm2,Hwn⟩:=hid7 hB2 hB32 hb3' hb13 hnum2 hsm2 hwn
      clear hB2 hB32 hb3' hb13 hnum2 hsm2 hwn
      have hE9:=parseRE_none HLen.out (HpR2.out.trans (by rw [Hlin.out,Hwn.out,lineW];rfl))
      have hzx:=(Mod.ofBelow HB2.out).keep Hz0.out (by simp)
      have hbx:=Hb0.out.trans ((HB2.out).mono Hb0.out.size)
      obtain ⟨HE9,Hzx,Hbx⟩:=hid3 hE9 hzx hbx
      clear hE9 hzx hbx
      have f0:=blk_free Hzx.out 0;have f1:=blk_free Hzx.out 1;have f2:=blk_free Hzx.out 2
      go_wp2_with fail
      refine (bad_any _).mono ?_
      rintro e wb ⟨rfl,hbb⟩
      have hzb:=(Mod.ofBelow hbb).keep Hzx.out (by simp)
      have hbw:=Hbx.out.trans (hbb.mono Hbx.out.size)
      obtain ⟨o0,o1,o2,ol⟩:=cells3 hzb
      have f0:=blk_free hzb 0;have f1:=blk_free hzb 1;have f2:=blk_free hzb 2
      have e0:=blk_same hzb 0 (.slice none 0 0) rfl;have e1:=blk_same hzb 1 (.slice none 0 0) rfl;have e2:=blk_same hzb 2 (.slice none 0 0) rfl
      obtain ⟨Hbb,Hzb,Hbw,HX0,HX1,HX2⟩:=hid6 hbb hzb hbw e0 e1 e2
      clear hbb hzb hbw e0 e1 e2
      go_wp2
      rw [HX0.out,HX1.out,HX2.out]
      refine bodyPost_ret (v:=.tuple #[.agg #[.slice none 0 0,.slice none 0 0,.slice none 0 0],.int .i64 9]) (by unfold results;try go_simp) rfl ?_
      rw [HE9.out,parseRZ_bad HE9.out]
      exact parsed_nil rfl Hbw.out
     | true =>
      have HO:=Lib.hid (outside_any m1 0 7 V3)
      by_cases hk7 : 0 ≤ m1 ∧ m1 ≤ 7
      ·have hout : outsideB m1 0 7 = false:=by unfold outsideB;simp;omega
       rw [hout] at HO
       have hv2:=row_mod Hv1.out (Mod.ofBelow hb13) (by simp)
       have hstp : wordsR isR [] ws = wordsR isR (n ++ [m1,m2]) (ws.drop (j + 1)):=by rw [HwdN.out,Hnum1.out,hnum2];simp only [if_true];rw [if_pos hk7]
       have hKO2 : KeyOk isR (n ++ [m1,m2]):=keyOk_pair HKO.out h2 hk7
       have hBs:=hB32.size
       obtain ⟨HB2,HB32,Hb3',Hb13,Hnum2,Hsm2,Hv2,Hstp,HKO2,Hk7,Hout⟩:=hid11 hB2 hB32 hb3' hb13 hnum2 hsm2 hv2 hstp hKO2 hk7 hout
       clear hB2 hB32 hb3' hb13 hnum2 hsm2 hv2 hstp hKO2 hk7 hout
       go_wp2_with fail
       refine HO.out.mono ?_
       rintro e V4 ⟨rfl,hw4⟩
       obtain rfl : V3 = V4:=hw4
       go_wp2_with (at_builtin;refine app_int2 rfl _ _ rfl W3.heap.size _ n m1 m2 ⟨V3.heap.size,0,none⟩ 2 rfl (Hv2.out.alloc _) rfl (by simp) (by rw [Addr.add_mid];simp) (by omega) (by simp;omega) ?_;intro v' w9 hown3 hb9)
       have hB39:=(HB32.out.alloc HB32.out.size _).trans hb9
       obtain ⟨HB39,Hown3,Hb9⟩:=hid3 hB39 hown3 hb9
       clear hB39 hown3 hb9
       go_roundw
       case rel => exact ⟨j + 1,n ++ [m1,m2],by omega,by go_num,Hstp.out,by rw [List.length_append];simp;omega,HKO2.out,Hown3.out,HB39.out⟩
       case measure => simp [Go.RowKit.intOf];omega
      ·have hout : outsideB m1 0 7 = true:=by unfold outsideB;simp;omega
       rw [hout] at HO
       have hwn : wordsR isR [] ws = none:=by rw [HwdN.out,Hnum1.out,hnum2];simp only [if_true];rw [if_neg hk7]
       obtain ⟨HB2,HB32,Hb3',Hb13,Hnum2,Hsm2,Hwn,Hk7,Hout⟩:=hid9 hB2 hB32 hb3' hb13 hnum2 hsm2 hwn hk7 hout
       clear hB2 hB32 hb3' hb13 hnum2 hsm2 hwn hk7 hout
       go_wp2_with fail
       refine HO.out.mono ?_
       rintro e V4 ⟨rfl,hw4⟩
       obtain rfl : V3 = V4:=hw4
       have hE9:=parseRE_none HLen.out (HpR2.out.trans (by rw [Hlin.out,Hwn.out,lineW];rfl))
       have hzx:=(Mod.ofBelow HB2.out).keep Hz0.out (by simp)
       have hbx:=Hb0.out.trans ((HB2.out).mono Hb0.out.size)
       obtain ⟨HE9,Hzx,Hbx⟩:=hid3 hE9 hzx hbx
       clear hE9 hzx hbx
       have f0:=blk_free Hzx.out 0;have f1:=blk_free Hzx.out 1;have f2:=blk_free Hzx.out 2
       go_wp2_with fail
       refine (bad_any _).mono ?_
       rintro e wb ⟨rfl,hbb⟩
       have hzb:=(Mod.ofBelow hbb).keep Hzx.out (by simp)
       have hbw:=Hbx.out.trans (hbb.mono Hbx.out.size)
       obtain ⟨o0,o1,o2,ol⟩:=cells3 hzb
       have f0:=blk_free hzb 0;have f1:=blk_free hzb 1;have f2:=blk_free hzb 2
       have e0:=blk_same hzb 0 (.slice none 0 0) rfl;have e1:=blk_same hzb 1 (.slice none 0 0) rfl;have e2:=blk_same hzb 2 (.slice none 0 0) rfl
       obtain ⟨Hbb,Hzb,Hbw,HX0,HX1,HX2⟩:=hid6 hbb hzb hbw e0 e1 e2
       clear hbb hzb hbw e0 e1 e2
       go_wp2
       rw [HX0.out,HX1.out,HX2.out]
       refine bodyPost_ret (v:=.tuple #[.agg #[.slice none 0 0,.slice none 0 0,.slice none 0 0],.int .i64 9]) (by unfold results;try go_simp) rfl ?_
       rw [HE9.out,parseRZ_bad HE9.out]
       exact parsed_nil rfl Hbw.out
   | false =>
    have hwdN:=Hwd.out
    rw [if_neg (fun e => absurd e.1 (by decide))] at hwdN
    have HwdN:=Lib.hid hwdN
    clear hwdN
    have HN:=Lib.hid (rnumber_any y (by have:=Hy6.out;omega) V1)
    unfold str at HN
    go_wp2_with fail
    refine HN.out.mono ?_
    rintro e V2 ⟨m,b,rfl,hnum,hsm,hb2⟩
    have hB2:=HB01.out.trans (hb2.mono HB01.out.size)
    have hB32:=HB31.out.trans (hb2.mono HB31.out.size)
    have hbkV2:=(Mod.ofBelow hb2).keep HbkV.out (by simp)
    clear e0 el HN
    have e0:=blk_cell hbkV2 0
    simp only [mC,eA,eZ] at e0
    have el:=blk_lt hbkV2
    unfold str at e0
    have HbkV2:=Lib.hid hbkV2
    clear hbkV2
    cases b with
    | false =>
     have hwn : wordsR isR [] ws = none:=by rw [HwdN.out,hnum];rfl
     obtain ⟨HB2,HB32,Hb2,Hnum,Hsm,Hwn⟩:=hid6 hB2 hB32 hb2 hnum hsm hwn
     clear hB2 hB32 hb2 hnum hsm hwn
     have hE9:=parseRE_none HLen.out (HpR2.out.trans (by rw [Hlin.out,Hwn.out,lineW];rfl))
     have hzx:=(Mod.ofBelow HB2.out).keep Hz0.out (by simp)
     have hbx:=Hb0.out.trans ((HB2.out).mono Hb0.out.size)
     obtain ⟨HE9,Hzx,Hbx⟩:=hid3 hE9 hzx hbx
     clear hE9 hzx hbx
     have f0:=blk_free Hzx.out 0;have f1:=blk_free Hzx.out 1;have f2:=blk_free Hzx.out 2
     go_wp2_with fail
     refine (bad_any _).mono ?_
     rintro e wb ⟨rfl,hbb⟩
     have hzb:=(Mod.ofBelow hbb).keep Hzx.out (by simp)
     have hbw:=Hbx.out.trans (hbb.mono Hbx.out.size)
     obtain ⟨o0,o1,o2,ol⟩:=cells3 hzb
     have f0:=blk_free hzb 0;have f1:=blk_free hzb 1;have f2:=blk_free hzb 2
     have e0:=blk_same hzb 0 (.slice none 0 0) rfl;have e1:=blk_same hzb 1 (.slice none 0 0) rfl;have e2:=blk_same hzb 2 (.slice none 0 0) rfl
     obtain ⟨Hbb,Hzb,Hbw,HX0,HX1,HX2⟩:=hid6 hbb hzb hbw e0 e1 e2
     clear hbb hzb hbw e0 e1 e2
     go_wp2
     rw [HX0.out,HX1.out,HX2.out]
     refine bodyPost_ret (v:=.tuple #[.agg #[.slice none 0 0,.slice none 0 0,.slice none 0 0],.int .i64 9]) (by unfold results;try go_simp) rfl ?_
     rw [HE9.out,parseRZ_bad HE9.out]
     exact parsed_nil rfl Hbw.out
    | true =>
     have hwn2 : wordsR isR [] ws = none:=by rw [HwdN.out,hnum];simp only [if_true];rw [if_pos ⟨HisT.out,by omega⟩]
     obtain ⟨HB2,HB32,Hb2,Hnum,Hsm,Hwn2⟩:=hid6 hB2 hB32 hb2 hnum hsm hwn2
     clear hB2 hB32 hb2 hnum hsm hwn2
     have hE9:=parseRE_none HLen.out (HpR2.out.trans (by rw [Hlin.out,Hwn2.out,lineW];rfl))
     have hzx:=(Mod.ofBelow HB2.out).keep Hz0.out (by simp)
     have hbx:=Hb0.out.trans ((HB2.out).mono Hb0.out.size)
     obtain ⟨HE9,Hzx,Hbx⟩:=hid3 hE9 hzx hbx
     clear hE9 hzx hbx
     have f0:=blk_free Hzx.out 0;have f1:=blk_free Hzx.out 1;have f2:=blk_free Hzx.out 2
     go_wp2_with fail
     refine (bad_any _).mono ?_
     rintro e wb ⟨rfl,hbb⟩
     have hzb:=(Mod.ofBelow hbb).keep Hzx.out (by simp)
     have hbw:=Hbx.out.trans (hbb.mono Hbx.out.size)
     obtain ⟨o0,o1,o2,ol⟩:=cells3 hzb
     have f0:=blk_free hzb 0;have f1:=blk_free hzb 1;have f2:=blk_free hzb 2
     have e0:=blk_same hzb 0 (.slice none 0 0) rfl;have e1:=blk_same hzb 1 (.slice none 0 0) rfl;have e2:=blk_same hzb 2 (.slice none 0 0) rfl
     obtain ⟨Hbb,Hzb,Hbw,HX0,HX1,HX2⟩:=hid6 hbb hzb hbw e0 e1 e2
     clear hbb hzb hbw e0 e1 e2
     go_wp2
     rw [HX0.out,HX1.out,HX2.out]
     refine bodyPost_ret (v:=.tuple #[.agg #[.slice none 0 0,.slice none 0 0,.slice none 0 0],.int .i64 9]) (by unfold results;try go_simp) rfl ?_
     rw [HE9.out,parseRZ_bad HE9.out]
     exact parsed_nil rfl Hbw.out
  ·have hlt : ¬ (2 : Int) ≤ (n.length : Int):=by omega
   cases bb with
   | true =>
    have hwdN:=Hwd.out
    rw [if_neg (fun e => absurd e.2 (by unfold wantsP;rw [HisT.out];simp;omega))] at hwdN
    have HwdN:=Lib.hid hwdN
    clear hwdN
    have HN:=Lib.hid (rnumber_any y (by have:=Hy6.out;omega) V1)
    unfold str at HN
    go_wp2_with fail
    refine HN.out.mono ?_
    rintro e V2 ⟨m,b,rfl,hnum,hsm,hb2⟩
    have hB2:=HB01.out.trans (hb2.mono HB01.out.size)
    have hB32:=HB31.out.trans (hb2.mono HB31.out.size)
    have hbkV2:=(Mod.ofBelow hb2).keep HbkV.out (by simp)
    clear e0 el HN
    have e0:=blk_cell hbkV2 0
    simp only [mC,eA,eZ] at e0
    have el:=blk_lt hbkV2
    unfold str at e0
    have HbkV2:=Lib.hid hbkV2
    clear hbkV2
    cases b with
    | false =>
     have hwn : wordsR isR [] ws = none:=by rw [HwdN.out,hnum];rfl
     obtain ⟨HB2,HB32,Hb2,Hnum,Hsm,Hwn⟩:=hid6 hB2 hB32 hb2 hnum hsm hwn
     clear hB2 hB32 hb2 hnum hsm hwn
     have hE9:=parseRE_none HLen.out (HpR2.out.trans (by rw [Hlin.out,Hwn.out,lineW];rfl))
     have hzx:=(Mod.ofBelow HB2.out).keep Hz0.out (by simp)
     have hbx:=Hb0.out.trans ((HB2.out).mono Hb0.out.size)
     obtain ⟨HE9,Hzx,Hbx⟩:=hid3 hE9 hzx hbx
     clear hE9 hzx hbx
     have f0:=blk_free Hzx.out 0;have f1:=blk_free Hzx.out 1;have f2:=blk_free Hzx.out 2
     go_wp2_with fail
     refine (bad_any _).mono ?_
     rintro e wb ⟨rfl,hbb⟩
     have hzb:=(Mod.ofBelow hbb).keep Hzx.out (by simp)
     have hbw:=Hbx.out.trans (hbb.mono Hbx.out.size)
     obtain ⟨o0,o1,o2,ol⟩:=cells3 hzb
     have f0:=blk_free hzb 0;have f1:=blk_free hzb 1;have f2:=blk_free hzb 2
     have e0:=blk_same hzb 0 (.slice none 0 0) rfl;have e1:=blk_same hzb 1 (.slice none 0 0) rfl;have e2:=blk_same hzb 2 (.slice none 0 0) rfl
     obtain ⟨Hbb,Hzb,Hbw,HX0,HX1,HX2⟩:=hid6 hbb hzb hbw e0 e1 e2
     clear hbb hzb hbw e0 e1 e2
     go_wp2
     rw [HX0.out,HX1.out,HX2.out]
     refine bodyPost_ret (v:=.tuple #[.agg #[.slice none 0 0,.slice none 0 0,.slice none 0 0],.int .i64 9]) (by unfold results;try go_simp) rfl ?_
     rw [HE9.out,parseRZ_bad HE9.out]
     exact parsed_nil rfl Hbw.out
    | true =>
     have hv2:=row_mod Hv1.out (Mod.ofBelow hb2) (by simp)
     have hstp : wordsR isR [] ws = wordsR isR (n ++ [m]) (ws.drop (j + 1)):=by rw [HwdN.out,hnum];simp only [if_true];rw [if_neg (fun e => absurd e.2 (by omega))]
     have hKO2 : KeyOk isR (n ++ [m]):=fun _ h => by rw [List.length_append] at h ⊢;simp at h ⊢;exact ⟨by omega,fun i h1 _ h3 => by omega⟩
     obtain ⟨HB2,HB32,Hb2,Hnum,Hsm,Hv2,Hstp,HKO2⟩:=hid8 hB2 hB32 hb2 hnum hsm hv2 hstp hKO2
     clear hB2 hB32 hb2 hnum hsm hv2 hstp hKO2
     go_wp2_with (at_builtin;refine app_int rfl _ _ rfl W3.heap.size _ n m ⟨V2.heap.size,0,none⟩ 1 rfl (Hv2.out.alloc _) rfl (by simp) (by omega) (by have:=HB32.out.size;simp;omega) ?_;intro v' w9 hown3 hb9)
     have hB39:=(HB32.out.alloc HB32.out.size _).trans hb9
     obtain ⟨HB39,Hown3,Hb9⟩:=hid3 hB39 hown3 hb9
     clear hB39 hown3 hb9
     go_roundw
     case rel => exact ⟨j + 1,n ++ [m],by omega,by go_num,Hstp.out,by rw [List.length_append];simp;omega,HKO2.out,Hown3.out,HB39.out⟩
     case measure => simp [Go.RowKit.intOf];omega
   | false =>
    have hwdN:=Hwd.out
    rw [if_neg (fun e => absurd e.1 (by decide))] at hwdN
    have HwdN:=Lib.hid hwdN
    clear hwdN
    have HN:=Lib.hid (rnumber_any y (by have:=Hy6.out;omega) V1)
    unfold str at HN
    go_wp2_with fail
    refine HN.out.mono ?_
    rintro e V2 ⟨m,b,rfl,hnum,hsm,hb2⟩
    have hB2:=HB01.out.trans (hb2.mono HB01.out.size)
    have hB32:=HB31.out.trans (hb2.mono HB31.out.size)
    have hbkV2:=(Mod.ofBelow hb2).keep HbkV.out (by simp)
    clear e0 el HN
    have e0:=blk_cell hbkV2 0
    simp only [mC,eA,eZ] at e0
    have el:=blk_lt hbkV2
    unfold str at e0
    have HbkV2:=Lib.hid hbkV2
    clear hbkV2
    cases b with
    | false =>
     have hwn : wordsR isR [] ws = none:=by rw [HwdN.out,hnum];rfl
     obtain ⟨HB2,HB32,Hb2,Hnum,Hsm,Hwn⟩:=hid6 hB2 hB32 hb2 hnum hsm hwn
     clear hB2 hB32 hb2 hnum hsm hwn
     have hE9:=parseRE_none HLen.out (HpR2.out.trans (by rw [Hlin.out,Hwn.out,lineW];rfl))
     have hzx:=(Mod.ofBelow HB2.out).keep Hz0.out (by simp)
     have hbx:=Hb0.out.trans ((HB2.out).mono Hb0.out.size)
     obtain ⟨HE9,Hzx,Hbx⟩:=hid3 hE9 hzx hbx
     clear hE9 hzx hbx
     have f0:=blk_free Hzx.out 0;have f1:=blk_free Hzx.out 1;have f2:=blk_free Hzx.out 2
     go_wp2_with fail
     refine (bad_any _).mono ?_
     rintro e wb ⟨rfl,hbb⟩
     have hzb:=(Mod.ofBelow hbb).keep Hzx.out (by simp)
     have hbw:=Hbx.out.trans (hbb.mono Hbx.out.size)
     obtain ⟨o0,o1,o2,ol⟩:=cells3 hzb
     have f0:=blk_free hzb 0;have f1:=blk_free hzb 1;have f2:=blk_free hzb 2
     have e0:=blk_same hzb 0 (.slice none 0 0) rfl;have e1:=blk_same hzb 1 (.slice none 0 0) rfl;have e2:=blk_same hzb 2 (.slice none 0 0) rfl
     obtain ⟨Hbb,Hzb,Hbw,HX0,HX1,HX2⟩:=hid6 hbb hzb hbw e0 e1 e2
     clear hbb hzb hbw e0 e1 e2
     go_wp2
     rw [HX0.out,HX1.out,HX2.out]
     refine bodyPost_ret (v:=.tuple #[.agg #[.slice none 0 0,.slice none 0 0,.slice none 0 0],.int .i64 9]) (by unfold results;try go_simp) rfl ?_
     rw [HE9.out,parseRZ_bad HE9.out]
     exact parsed_nil rfl Hbw.out
    | true =>
     have hv2:=row_mod Hv1.out (Mod.ofBelow hb2) (by simp)
     have hstp : wordsR isR [] ws = wordsR isR (n ++ [m]) (ws.drop (j + 1)):=by rw [HwdN.out,hnum];simp only [if_true];rw [if_neg (fun e => absurd e.2 (by omega))]
     have hKO2 : KeyOk isR (n ++ [m]):=fun _ h => by rw [List.length_append] at h ⊢;simp at h ⊢;exact ⟨by omega,fun i h1 _ h3 => by omega⟩
     obtain ⟨HB2,HB32,Hb2,Hnum,Hsm,Hv2,Hstp,HKO2⟩:=hid8 hB2 hB32 hb2 hnum hsm hv2 hstp hKO2
     clear hB2 hB32 hb2 hnum hsm hv2 hstp hKO2
     go_wp2_with (at_builtin;refine app_int rfl _ _ rfl W3.heap.size _ n m ⟨V2.heap.size,0,none⟩ 1 rfl (Hv2.out.alloc _) rfl (by simp) (by omega) (by have:=HB32.out.size;simp;omega) ?_;intro v' w9 hown3 hb9)
     have hB39:=(HB32.out.alloc HB32.out.size _).trans hb9
     obtain ⟨HB39,Hown3,Hb9⟩:=hid3 hB39 hown3 hb9
     clear hB39 hown3 hb9
     go_roundw
     case rel => exact ⟨j + 1,n ++ [m],by omega,by go_num,Hstp.out,by rw [List.length_append];simp;omega,HKO2.out,Hown3.out,HB39.out⟩
     case measure => simp [Go.RowKit.intOf];omega
 ·have hisF : isR = false:=by rw [← Hisr.out];simpa using hrow
  have hwdF : (wd == [114,111,119]) = false:=by simpa [wRow] using hrow
  have HisF:=Lib.hid hisF
  clear hisF
  clear hrow
  cases bb with
  | true =>
   have hwdN:=Hwd.out
   rw [if_neg (fun e => absurd e.2 (by unfold wantsP;rw [HisF.out];simp))] at hwdN
   have HwdN:=Lib.hid hwdN
   clear hwdN
   have HN:=Lib.hid (rnumber_any y (by have:=Hy6.out;omega) V1)
   unfold str at HN
   go_wp2_with fail
   refine HN.out.mono ?_
   rintro e V2 ⟨m,b,rfl,hnum,hsm,hb2⟩
   have hB2:=HB01.out.trans (hb2.mono HB01.out.size)
   have hB32:=HB31.out.trans (hb2.mono HB31.out.size)
   have hbkV2:=(Mod.ofBelow hb2).keep HbkV.out (by simp)
   clear e0 el HN
   have e0:=blk_cell hbkV2 0
   simp only [mC,eA,eZ] at e0
   have el:=blk_lt hbkV2
   unfold str at e0
   have HbkV2:=Lib.hid hbkV2
   clear hbkV2
   cases b with
   | false =>
    have hwn : wordsR isR [] ws = none:=by rw [HwdN.out,hnum];rfl
    obtain ⟨HB2,HB32,Hb2,Hnum,Hsm,Hwn⟩:=hid6 hB2 hB32 hb2 hnum hsm hwn
    clear hB2 hB32 hb2 hnum hsm hwn
    have hE9:=parseRE_none HLen.out (HpR2.out.trans (by rw [Hlin.out,Hwn.out,lineW];rfl))
    have hzx:=(Mod.ofBelow HB2.out).keep Hz0.out (by simp)
    have hbx:=Hb0.out.trans ((HB2.out).mono Hb0.out.size)
    obtain ⟨HE9,Hzx,Hbx⟩:=hid3 hE9 hzx hbx
    clear hE9 hzx hbx
    have f0:=blk_free Hzx.out 0;have f1:=blk_free Hzx.out 1;have f2:=blk_free Hzx.out 2
    go_wp2_with fail
    refine (bad_any _).mono ?_
    rintro e wb ⟨rfl,hbb⟩
    have hzb:=(Mod.ofBelow hbb).keep Hzx.out (by simp)
    have hbw:=Hbx.out.trans (hbb.mono Hbx.out.size)
    obtain ⟨o0,o1,o2,ol⟩:=cells3 hzb
    have f0:=blk_free hzb 0;have f1:=blk_free hzb 1;have f2:=blk_free hzb 2
    have e0:=blk_same hzb 0 (.slice none 0 0) rfl;have e1:=blk_same hzb 1 (.slice none 0 0) rfl;have e2:=blk_same hzb 2 (.slice none 0 0) rfl
    obtain ⟨Hbb,Hzb,Hbw,HX0,HX1,HX2⟩:=hid6 hbb hzb hbw e0 e1 e2
    clear hbb hzb hbw e0 e1 e2
    go_wp2
    rw [HX0.out,HX1.out,HX2.out]
    refine bodyPost_ret (v:=.tuple #[.agg #[.slice none 0 0,.slice none 0 0,.slice none 0 0],.int .i64 9]) (by unfold results;try go_simp) rfl ?_
    rw [HE9.out,parseRZ_bad HE9.out]
    exact parsed_nil rfl Hbw.out
   | true =>
    have hv2:=row_mod Hv1.out (Mod.ofBelow hb2) (by simp)
    have hstp : wordsR isR [] ws = wordsR isR (n ++ [m]) (ws.drop (j + 1)):=by rw [HwdN.out,hnum];simp only [if_true];rw [if_neg (fun e => absurd e.1 (by rw [HisF.out];decide))]
    have hKO2 : KeyOk isR (n ++ [m]):=fun h => absurd h (by rw [HisF.out];decide)
    obtain ⟨HB2,HB32,Hb2,Hnum,Hsm,Hv2,Hstp,HKO2⟩:=hid8 hB2 hB32 hb2 hnum hsm hv2 hstp hKO2
    clear hB2 hB32 hb2 hnum hsm hv2 hstp hKO2
    go_wp2_with (at_builtin;refine app_int rfl _ _ rfl W3.heap.size _ n m ⟨V2.heap.size,0,none⟩ 1 rfl (Hv2.out.alloc _) rfl (by simp) (by omega) (by have:=HB32.out.size;simp;omega) ?_;intro v' w9 hown3 hb9)
    have hB39:=(HB32.out.alloc HB32.out.size _).trans hb9
    obtain ⟨HB39,Hown3,Hb9⟩:=hid3 hB39 hown3 hb9
    clear hB39 hown3 hb9
    go_roundw
    case rel => exact ⟨j + 1,n ++ [m],by omega,by go_num,Hstp.out,by rw [List.length_append];simp;omega,HKO2.out,Hown3.out,HB39.out⟩
    case measure => simp [Go.RowKit.intOf];omega
  | false =>
   have hwdN:=Hwd.out
   rw [if_neg (fun e => absurd e.1 (by decide))] at hwdN
   have HwdN:=Lib.hid hwdN
   clear hwdN
   have HN:=Lib.hid (rnumber_any y (by have:=Hy6.out;omega) V1)
   unfold str at HN
   go_wp2_with fail
   refine HN.out.mono ?_
   rintro e V2 ⟨m,b,rfl,hnum,hsm,hb2⟩
   have hB2:=HB01.out.trans (hb2.mono HB01.out.size)
   have hB32:=HB31.out.trans (hb2.mono HB31.out.size)
   have hbkV2:=(Mod.ofBelow hb2).keep HbkV.out (by simp)
   clear e0 el HN
   have e0:=blk_cell hbkV2 0
   simp only [mC,eA,eZ] at e0
   have el:=blk_lt hbkV2
   unfold str at e0
   have HbkV2:=Lib.hid hbkV2
   clear hbkV2
   cases b with
   | false =>
    have hwn : wordsR isR [] ws = none:=by rw [HwdN.out,hnum];rfl
    obtain ⟨HB2,HB32,Hb2,Hnum,Hsm,Hwn⟩:=hid6 hB2 hB32 hb2 hnum hsm hwn
    clear hB2 hB32 hb2 hnum hsm hwn
    have hE9:=parseRE_none HLen.out (HpR2.out.trans (by rw [Hlin.out,Hwn.out,lineW];rfl))
    have hzx:=(Mod.ofBelow HB2.out).keep Hz0.out (by simp)
    have hbx:=Hb0.out.trans ((HB2.out).mono Hb0.out.size)
    obtain ⟨HE9,Hzx,Hbx⟩:=hid3 hE9 hzx hbx
    clear hE9 hzx hbx
    have f0:=blk_free Hzx.out 0;have f1:=blk_free Hzx.out 1;have f2:=blk_free Hzx.out 2
    go_wp2_with fail
    refine (bad_any _).mono ?_
    rintro e wb ⟨rfl,hbb⟩
    have hzb:=(Mod.ofBelow hbb).keep Hzx.out (by simp)
    have hbw:=Hbx.out.trans (hbb.mono Hbx.out.size)
    obtain ⟨o0,o1,o2,ol⟩:=cells3 hzb
    have f0:=blk_free hzb 0;have f1:=blk_free hzb 1;have f2:=blk_free hzb 2
    have e0:=blk_same hzb 0 (.slice none 0 0) rfl;have e1:=blk_same hzb 1 (.slice none 0 0) rfl;have e2:=blk_same hzb 2 (.slice none 0 0) rfl
    obtain ⟨Hbb,Hzb,Hbw,HX0,HX1,HX2⟩:=hid6 hbb hzb hbw e0 e1 e2
    clear hbb hzb hbw e0 e1 e2
    go_wp2
    rw [HX0.out,HX1.out,HX2.out]
    refine bodyPost_ret (v:=.tuple #[.agg #[.slice none 0 0,.slice none 0 0,.slice none 0 0],.int .i64 9]) (by unfold results;try go_simp) rfl ?_
    rw [HE9.out,parseRZ_bad HE9.out]
    exact parsed_nil rfl Hbw.out
   | true =>
    have hv2:=row_mod Hv1.out (Mod.ofBelow hb2) (by simp)
    have hstp : wordsR isR [] ws = wordsR isR (n ++ [m]) (ws.drop (j + 1)):=by rw [HwdN.out,hnum];simp only [if_true];rw [if_neg (fun e => absurd e.1 (by rw [HisF.out];decide))]
    have hKO2 : KeyOk isR (n ++ [m]):=fun h => absurd h (by rw [HisF.out];decide)
    obtain ⟨HB2,HB32,Hb2,Hnum,Hsm,Hv2,Hstp,HKO2⟩:=hid8 hB2 hB32 hb2 hnum hsm hv2 hstp hKO2
    clear hB2 hB32 hb2 hnum hsm hv2 hstp hKO2
    go_wp2_with (at_builtin;refine app_int rfl _ _ rfl W3.heap.size _ n m ⟨V2.heap.size,0,none⟩ 1 rfl (Hv2.out.alloc _) rfl (by simp) (by omega) (by have:=HB32.out.size;simp;omega) ?_;intro v' w9 hown3 hb9)
    have hB39:=(HB32.out.alloc HB32.out.size _).trans hb9
    obtain ⟨HB39,Hown3,Hb9⟩:=hid3 hB39 hown3 hb9
    clear hB39 hown3 hb9
    go_roundw
    case rel => exact ⟨j + 1,n ++ [m],by omega,by go_num,Hstp.out,by rw [List.length_append];simp;omega,HKO2.out,Hown3.out,HB39.out⟩
    case measure => simp [Go.RowKit.intOf];omega
end Go.Proofs.YtoheblfpjinmnaaGreatDoor
