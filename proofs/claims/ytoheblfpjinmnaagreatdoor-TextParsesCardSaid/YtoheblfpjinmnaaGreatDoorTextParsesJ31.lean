import Derived.Test.YtoheblfpjinmnaaGreatDoorTextParsesJ29
set_option linter.unusedVariables false
set_option linter.unusedSimpArgs false
/- A part of the proof that TextParses returns true. -/
namespace Go.Proofs.YtoheblfpjinmnaaGreatDoor
open Go Go.RowKit Go.Shelf
attribute [local go_sem] AllFrom.cons_eq AllFrom.nil_eq putF_nil putF_cons wantedL_none wantedL_some OpGoalT OpGoalV OpGoalQ OpGoalA OpGoalK YieldsR preF_nil preF_cons ByteArray.mk_append_mk
structure FrS (C : Prop) where
 (G0 : Prop)
 f : Gap G0 → C
set_option maxRecDepth 100000 in
set_option maxHeartbeats 80000000 in
noncomputable def frS : FrS fr.G1:=by
 apply FrS.mk
 case f =>
  intro B0 w u htl w0 hul Hb0 HLv Hs0 Hz0 HL0 Hsf HLen hli hw y14z y15z w1 W2 xs hxs HpR hxn Hxl HRJ HpR2 Hw1 y26z u6 u7 u8 y30z y31z y32z y33z y34z y35z y36z y37z y38z y39z y40z u21 u22 u44 u45 u46 u47 u48 u49 u50 u51 u52 u53 y53z y54z y55z y56z y57z y58z y59z y60z y61z y62z y63z y64z y65z y66z y67z y68z y69z y70z y71z y72z y73z y74z y75z y76z y77z y78z y79z y80z y81z y82z y83z y84z y85z y86z y87z y88z y89z y90z y91z y92z y93z y94z y95z y96z y97z y98z y99z y100z y101z y102z y103z y104z y105z y106z y107z y108z y109z y110z y111z y112z y113z y114z y115z y116z y117z y118z y119z y120z y121z y122z y123z y124z y125z y126z y127z y128z y129z y130z y131z y132z y133z y134z y135z u137 u138 u139 u140 u141 u142 u143 u144 u145 u146 u147 u148 u149 u150 u151 u152 u153 u154 u155 u156 u157 u158 u159 u160 u161 u162 u163 u164 u165 u166 u167 u168 u169 u170 u171 u172 u173 u174 u175 u176 u177 u178 u179 u180 u181 u182 u183 u184 u185 u186 u187 u188 u189 u190 u191 u192 u193 u194 u195 u196 u197 u198 u199 u200 u201 u202 u203 u204 u205 u206 u207 u208 u209 u210 u211 u212 u213 u214 u215 u216 u217 u218 u219 u220 u221 u222 u223 u224 u225 u226 u227 u228 u229 u230 u231 u232 u233 u234 u235 u236 u237 u238 u239 u240 u241 u242 u243 u244 u245 u246 u247 u248 u249 u250 u251 u252 u253 u254 u255 u256 u257 u258 u259 u260 u261 u262 u263 u264 u265 u266 u267 u268 u269 u270 u271 k st hk hlt v1 v2 v3 x wd ws hwn hk6 Hnil Hxlen Hxn Hws Hwl y288z y289z y290z W3 Aw hLw hn1 hn1' wo HP Hln HB HBw HR y302z hcut1 isR Hlin Hline Hb3 Hbk3 HLa HLw HP3 Hisr HB03 y314z y315z wr u3 u9 u11 u12 u13 u14 u15 u16 u17 u18 u19 u20 u54 u55 u56 u57 u58 u59 u60 u61 u62 u63 u64 u65 u66 u67 u68 u69 u70 u71 u72 u73 u74 u75 u76 u77 u78 u79 u80 u81 u82 u83 u84 u85 u86 u87 u88 u89 u90 u91 u92 u93 u94 u95 u96 u97 u98 u99 u100 u101 u102 u103 u104 u105 u106 u107 u108 u109 u110 u111 u112 u113 u114 u115 u116 u117 u118 u119 u120 u121 u122 u123 u124 u125 u126 u127 u128 u129 u130 u131 u132 u133 u134 u135 u136 j n hj hwd hnl hKO hown hB5 hlt2
  obtain rfl : j = ws.length:=by omega
  rw [List.drop_length,wordsR] at hwd
  have hlin2:=Hlin.out
  rw [hwd] at hlin2
  obtain ⟨A9,c9,rfl,hc9,hL9⟩:=row_lies hown
  have hP9:=HP3.out.new hB5
  have hB09:=HB03.out.trans (hB5.mono HB03.out.size)
  have hbk9:=(Mod.ofBelow hB5).keep Hbk3.out (by simp)
  have hln9 : wr.heap[w1.heap.size]? = some (.cells (xs.map str).toArray 9 (0,0)):=(Mod.ofBelow hB5).keep ((Mod.ofBelow Hb3.out).keep Hln.out (by simp)) (by simp)
  have e0:=blk_cell hbk9 0
  simp only [mC,eA,eZ] at e0
  have el:=blk_lt hbk9
  unfold str at e0
  have hn9 : n.length ≤ 12000:=by omega
  have hv9b:=row_base hown (B':=w0.heap.size) (fun g hg => by have:=own_ge hown g hg;have:=HB03.out.size;omega)
  have hc9' : w.heap.size ∉ (Value.slice A9 n.length c9).ownBlock.toList:=fun e => by have:=own_ge hown _ (Option.mem_toList.1 e);have:=HB03.out.size;have:=blk_lt Hz0.out;omega
  have hw9:=hB09.size
  obtain ⟨Hwd,Hlin2,Hown,HB5,HP9,HB09,Hbk9,Hln9,Hv9b,Hc9,HL9,HC9,HKO,Hn9⟩:=hid14 hwd hlin2 hown hB5 hP9 hB09 hbk9 hln9 hv9b hc9' hL9 hc9 hKO hn9
  clear hwd hlin2 hown hB5 hP9 hB09 hbk9 hln9 hv9b hc9' hL9 hc9 hKO hn9
  by_cases hk0 : k = 0
  ·subst hk0
   by_cases hg : wd = wGens
   ·subst hg
    have hlw : lineW true st (some wGens) (some n) = some (n,st.2):=by rw [lineW_some,if_pos ⟨rfl,rfl⟩]
    have hq:=HP9.out.box
    obtain ⟨o0,o1,o2,ol⟩:=cells3 hq
    have f0:=blk_free hq 0;have f1:=blk_free hq 1;have f2:=blk_free hq 2
    obtain ⟨Hlw,Hq⟩:=hid2 hlw hq
    clear hlw hq
    go_wp2
    have hnew:=HP9.out.set0 (gs:=n) Hv9b.out Hc9.out
    have hRJ2 : RpJ w w0 w1.heap.size xs (0 + 1) (n,st.2) (wr.setCell ⟨w0.heap.size,0,none⟩ (.slice A9 n.length c9)):=⟨⟨_,_,_,hnew,Hnil.out⟩,by rw [Below.heap_setCell _ _ _ _ (by have:=Hw1.out;show w1.heap.size ≠ w0.heap.size;omega)];exact Hln9.out,by have:=Hn9.out;simp;omega,by have:=HR.out.l2;simp;omega,by have:=HR.out.l3;simp;omega⟩
    obtain ⟨Hnew,HRJ2⟩:=hid2 hnew hRJ2
    clear hnew hRJ2
    go_roundw
    case rel => exact ⟨0 + 1,(n,st.2),by omega,by go_num,by rw [Hlin2.out];simp only [decide_true];rw [Hlw.out];rfl,HRJ2.out⟩
    case measure => simp [Go.RowKit.intOf];omega
   ·have hgF : (wd == [103,101,110,115]) = false:=by simpa [wGens] using hg
    have hno : lineW (decide (0 = 0)) st (some wd) (some n) = none:=lineW_zero hg
    have Hno:=Lib.hid hno
    clear hno
    clear hg
    have hE9:=parseRE_none HLen.out (HpR2.out.trans (by rw [Hlin2.out,Hno.out];rfl))
    have hzx:=(Mod.ofBelow HB09.out).keep Hz0.out (by simp)
    have hbx:=Hb0.out.trans (HB09.out.mono Hb0.out.size)
    obtain ⟨HE9,Hzx,Hbx⟩:=hid3 hE9 hzx hbx
    clear hE9 hzx hbx
    have f0:=blk_free Hzx.out 0;have f1:=blk_free Hzx.out 1;have f2:=blk_free Hzx.out 2
    go_wp2_with fail
    refine (bad_any _).mono ?_
    rintro e wb ⟨rfl,hbb⟩
    have hzb:=(Mod.ofBelow hbb).keep Hzx.out (by simp)
    have hbw:=Hbx.out.trans (hbb.mono Hbx.out.size)
    obtain ⟨o0,o1,o2,ol⟩:=cells3 hzb
    have f0:=blk_free hzb 0;have f1:=blk_free hzb 1;have f2:=blk_free hzb 2
    have e0:=blk_same hzb 0 (.slice none 0 0) rfl;have e1:=blk_same hzb 1 (.slice none 0 0) rfl;have e2:=blk_same hzb 2 (.slice none 0 0) rfl
    obtain ⟨Hbb,Hzb,Hbw,HX0,HX1,HX2⟩:=hid6 hbb hzb hbw e0 e1 e2
    clear hbb hzb hbw e0 e1 e2
    go_wp2
    rw [HX0.out,HX1.out,HX2.out]
    refine bodyPost_ret (v:=.tuple #[.agg #[.slice none 0 0,.slice none 0 0,.slice none 0 0],.int .i64 9]) (by unfold results;try go_simp) rfl ?_
    rw [HE9.out,parseRZ_bad HE9.out]
    exact parsed_nil rfl Hbw.out
  ·have hki : ((k : Int) == 0) = false:=by simpa using hk0
   have hkp : (0 : Int) < (k : Int):=by omega
   have hdk : decide (k = 0) = false:=by simpa using hk0
   by_cases hr : wd = wRow
   case neg =>
    have hrF : (wd == [114,111,119]) = false:=by simpa [wRow] using hr
    by_cases hb : wd = wBond
    ·subst hb
     by_cases h4 : n.length = 4
     ·have hlw : lineW false st (some wBond) (some n) = some (st.1,st.2.1,st.2.2 ++ [((n.getD 0 0,n.getD 1 0),(n.getD 2 0,n.getD 3 0))]):=by
       rw [lineW_some,if_neg (fun e => absurd e.1 (by decide)),if_neg (fun e => absurd e.2.1 (by decide)),if_pos ⟨rfl,rfl,h4⟩]
      obtain ⟨gA,hgA,hgl,hgb,hcs⟩:=row_open Hown.out (by omega)
      obtain ⟨m0,m1,m2,m3,hn4⟩ : ∃ z0 z1 z2 z3,n = [z0,z1,z2,z3]:=by
       match n,h4 with
       | [z0,z1,z2,z3],_ => exact ⟨_,_,_,_,rfl⟩
      subst hn4
      have a0:=hcs 0 _ rfl
      have a1:=hcs 1 _ rfl
      have a2:=hcs 2 _ rfl
      have a3:=hcs 3 _ rfl
      simp only [gZ,gS] at hlw
      subst hgA
      have hq:=HP9.out.box
      obtain ⟨o0,o1,o2,ol⟩:=cells3 hq
      have hqf:=blk_free hq 2
      obtain ⟨Hcs,Hlw,Hgb,Hq⟩:=hid4 hcs hlw hgb hq
      clear hcs hlw hgb hq
      clear hr h4 hrF
      go_wp2_with fail
      refine wp_planA ((wr.alloc (.cells #[.int .i64 m0,.int .i64 m1,.int .i64 m2,.int .i64 m3] 55)).drew) 17 18 [2,5,9,12] [some 251,some 252,some 253,some 254,some 255,some 256,some 257,some 258,some 259,some 260,some 261,some 262,some 263,some 264,some 265,some 266,some 267,some 268,some 269,some 270,none] [[],[0],[],[2],[2,3],[],[5],[5,6],[2,3,4,5,6,7],[],[9],[9,10],[],[12],[12,13],[9,10,11,12,13,14],[2,3,4,5,6,7,8,9,10,11,12,13,14,15],[2,3,4,5,6,7,8,9,10,11,12,13,14,15,16],[0,1,2,3,4,5,6,7,8,9,10,11,12,13,14,15,16,17],[0,1,2,3,4,5,6,7,8,9,10,11,12,13,14,15,16,17,18],[0,1,2,3,4,5,6,7,8,9,10,11,12,13,14,15,16,17,18,19]] [0,1,2,3,4,5,6,7,8,9,10,11,12,13,14,15,16,17] mixed rfl (by kernel_rfl) (by decide) (by decide) (by decide) rfl ?_
      iterate 18 apply Exists.intro
      refine ⟨rfl,?_,?_⟩
      ·simp only [tS,List.take_zero,AllFrom.cons_eq,AllFrom.nil_eq,OpGoalA]
       refine ⟨?_,?_,?_,?_,?_,?_,?_,?_,?_,?_,?_,?_,?_,?_,?_,?_,?_,?_,trivial⟩
       all_goals (intro σ hp;(try simp only [gZ,gS,mC,mN,preF_cons,preF_nil,isV,and_true] at hp);(first | (have hq : True:=hp;clear hq hp) | skip))
       all_goals (go_simp;first | exact ⟨⟨rfl,rfl⟩,⟨rfl,rfl⟩⟩ | exact ⟨rfl,rfl⟩)
      intro σ hp
      simp only [gZ,gS,mC,mN,preF_cons,preF_nil,isV,and_true] at hp
      simp only [dS,List.drop_zero]
      go_simp
      clear hp
      generalize hW4 : (wr.alloc (.cells #[.int .i64 m0,.int .i64 m1,.int .i64 m2,.int .i64 m3] 55)).drew = W4
      have hb4' : Below wr.heap.size wr W4:=by rw [← hW4];exact ((Below.refl _ wr).alloc (Nat.le_refl _) _).drew
      have hbk4 : W4.heap[wr.heap.size]? = some (.cells #[.int .i64 m0,.int .i64 m1,.int .i64 m2,.int .i64 m3] 55 (0,0)):=by rw [← hW4];exact heap_alloc_new wr _
      clear hW4
      have hP4:=HP9.out.new hb4'
      have hst6 : st.2.2.length ≤ 6001:=by have:=HR.out.l3;omega
      refine app_bd rfl (.tmp 252) (.tmp 268) rfl w0.heap.size v3 st.2.2 ((m0,m1),(m2,m3)) ⟨wr.heap.size,0,none⟩ 1 (by go_simp) hP4.r3 (by go_simp) (fun j u hu => by
       rw [Addr.add_mid,Nat.zero_add]
       exact (blk_cell hbk4 j).trans (by rw [List.getElem?_toArray];exact hu)) (by omega) hP4.below.size ?_
      intro v' W5 hr5 hg5 hv5'
      obtain ⟨A6,c6,rfl,_⟩:=row_slice hr5
      obtain ⟨k1,k2,k3⟩:=hP4.fin2 hg5 hr5 hv5' (by have:=hb4'.size;have:=blk_lt Hz0.out;have:=HB09.out.size;omega) (by have:=blk_lt Hz0.out;omega)
      have hq5:=((Mod.refl v3.ownBlock.toList W4).grown hg5 (fun k hk => .inl (by simp [hk]))).keep hP4.box (fun e => hP4.ne3 _ (Option.mem_toList.1 e) rfl)
      have q2:=blk_cell hq5 2
      simp only [eA,eZ,eS] at q2
      have f2:=blk_free hq5 2
      have ql5:=blk_lt hq5
      have hln5 : (W5.setCell ⟨w0.heap.size,2,none⟩ (.slice A6 (st.2.2 ++ [((m0,m1),(m2,m3))]).length c6)).heap[w1.heap.size]? = some (.cells (xs.map str).toArray 9 (0,0)):=by
       rw [Below.heap_setCell _ _ _ _ (by have:=Hw1.out;show w1.heap.size ≠ w0.heap.size;omega)]
       exact ((Mod.refl v3.ownBlock.toList W4).grown hg5 (fun k hk => .inl (by simp [hk]))).keep ((Mod.ofBelow hb4').keep Hln9.out (by simp)) (fun e => own_ne_box hP4.r3 ((Mod.ofBelow hb4').keep Hln9.out (by simp)) (by decide) (Option.mem_toList.1 e).symm)
      have hfin : RpJ w w0 w1.heap.size xs (k + 1) (st.1,st.2.1,st.2.2 ++ [((m0,m1),(m2,m3))]) (W5.setCell ⟨w0.heap.size,2,none⟩ (.slice A6 (st.2.2 ++ [((m0,m1),(m2,m3))]).length c6)):=⟨⟨_,_,_,k3,fun h => by simp at h⟩,hln5,HR.out.l1,by have:=HR.out.l2;show st.2.1.length ≤ _;omega,by have:=HR.out.l3;simp;omega⟩
      simp only [List.length_append,List.length_cons,List.length_nil,Nat.zero_add] at hfin
      clear a0 a1 a2 a3 e0 el o0 o1 o2 ol hqf
      obtain ⟨Hfin,K1,K2,K3,Hr5,Hg5,Hv5',HP4,Hq5,Hln5,Hbk4,Hb4'⟩:=hid12 hfin k1 k2 k3 hr5 hg5 hv5' hP4 hq5 hln5 hbk4 hb4'
      clear hfin k1 k2 k3 hr5 hg5 hv5' hP4 hq5 hln5 hbk4 hb4'
      go_wp2
      refine ⟨rfl,?_⟩
      apply_assumption
      go_wp2
      go_roundw
      case rel => exact ⟨k + 1,_,by omega,by go_num,by rw [Hlin2.out,hdk,Hlw.out];rfl,Hfin.out⟩
      case measure => simp [Go.RowKit.intOf];omega
     ·have h4F : ((n.length : Int) == 4) = false:=by simpa using (by omega : ¬ (n.length : Int) = 4)
      have hno : lineW (decide (k = 0)) st (some wBond) (some n) = none:=by rw [hdk];exact lineW_bond_not h4
      obtain ⟨Hno,Hdk⟩:=hid2 hno hdk
      clear hno hdk
      clear hr
      have hE9:=parseRE_none HLen.out (HpR2.out.trans (by rw [Hlin2.out,Hno.out];rfl))
      have hzx:=(Mod.ofBelow HB09.out).keep Hz0.out (by simp)
      have hbx:=Hb0.out.trans (HB09.out.mono Hb0.out.size)
      obtain ⟨HE9,Hzx,Hbx⟩:=hid3 hE9 hzx hbx
      clear hE9 hzx hbx
      have f0:=blk_free Hzx.out 0;have f1:=blk_free Hzx.out 1;have f2:=blk_free Hzx.out 2
      go_wp2_with fail
      refine (bad_any _).mono ?_
      rintro e wb ⟨rfl,hbb⟩
      have hzb:=(Mod.ofBelow hbb).keep Hzx.out (by simp)
      have hbw:=Hbx.out.trans (hbb.mono Hbx.out.size)
      obtain ⟨o0,o1,o2,ol⟩:=cells3 hzb
      have f0:=blk_free hzb 0;have f1:=blk_free hzb 1;have f2:=blk_free hzb 2
      have e0:=blk_same hzb 0 (.slice none 0 0) rfl;have e1:=blk_same hzb 1 (.slice none 0 0) rfl;have e2:=blk_same hzb 2 (.slice none 0 0) rfl
      obtain ⟨Hbb,Hzb,Hbw,HX0,HX1,HX2⟩:=hid6 hbb hzb hbw e0 e1 e2
      clear hbb hzb hbw e0 e1 e2
      go_wp2
      rw [HX0.out,HX1.out,HX2.out]
      refine bodyPost_ret (v:=.tuple #[.agg #[.slice none 0 0,.slice none 0 0,.slice none 0 0],.int .i64 9]) (by unfold results;try go_simp) rfl ?_
      rw [HE9.out,parseRZ_bad HE9.out]
      exact parsed_nil rfl Hbw.out
    ·have hbF : (wd == [98,111,110,100]) = false:=by simpa [wBond] using hb
     have hno : lineW (decide (k = 0)) st (some wd) (some n) = none:=by rw [hdk];exact lineW_other hr hb
     obtain ⟨Hno,Hdk⟩:=hid2 hno hdk
     clear hno hdk
     clear hr hb
     have hE9:=parseRE_none HLen.out (HpR2.out.trans (by rw [Hlin2.out,Hno.out];rfl))
     have hzx:=(Mod.ofBelow HB09.out).keep Hz0.out (by simp)
     have hbx:=Hb0.out.trans (HB09.out.mono Hb0.out.size)
     obtain ⟨HE9,Hzx,Hbx⟩:=hid3 hE9 hzx hbx
     clear hE9 hzx hbx
     have f0:=blk_free Hzx.out 0;have f1:=blk_free Hzx.out 1;have f2:=blk_free Hzx.out 2
     go_wp2_with fail
     refine (bad_any _).mono ?_
     rintro e wb ⟨rfl,hbb⟩
     have hzb:=(Mod.ofBelow hbb).keep Hzx.out (by simp)
     have hbw:=Hbx.out.trans (hbb.mono Hbx.out.size)
     obtain ⟨o0,o1,o2,ol⟩:=cells3 hzb
     have f0:=blk_free hzb 0;have f1:=blk_free hzb 1;have f2:=blk_free hzb 2
     have e0:=blk_same hzb 0 (.slice none 0 0) rfl;have e1:=blk_same hzb 1 (.slice none 0 0) rfl;have e2:=blk_same hzb 2 (.slice none 0 0) rfl
     obtain ⟨Hbb,Hzb,Hbw,HX0,HX1,HX2⟩:=hid6 hbb hzb hbw e0 e1 e2
     clear hbb hzb hbw e0 e1 e2
     go_wp2
     rw [HX0.out,HX1.out,HX2.out]
     refine bodyPost_ret (v:=.tuple #[.agg #[.slice none 0 0,.slice none 0 0,.slice none 0 0],.int .i64 9]) (by unfold results;try go_simp) rfl ?_
     rw [HE9.out,parseRZ_bad HE9.out]
     exact parsed_nil rfl Hbw.out
   case pos =>
    subst hr
    by_cases h2 : 2 ≤ n.length
    case neg =>
     have hge : ¬ (2 : Int) ≤ (n.length : Int):=by omega
     have hno : lineW (decide (k = 0)) st (some wRow) (some n) = none:=by rw [hdk];exact lineW_row_short h2
     obtain ⟨Hno,Hdk⟩:=hid2 hno hdk
     clear hno hdk
     have hE9:=parseRE_none HLen.out (HpR2.out.trans (by rw [Hlin2.out,Hno.out];rfl))
     have hzx:=(Mod.ofBelow HB09.out).keep Hz0.out (by simp)
     have hbx:=Hb0.out.trans (HB09.out.mono Hb0.out.size)
     obtain ⟨HE9,Hzx,Hbx⟩:=hid3 hE9 hzx hbx
     clear hE9 hzx hbx
     have f0:=blk_free Hzx.out 0;have f1:=blk_free Hzx.out 1;have f2:=blk_free Hzx.out 2
     go_wp2_with fail
     refine (bad_any _).mono ?_
     rintro e wb ⟨rfl,hbb⟩
     have hzb:=(Mod.ofBelow hbb).keep Hzx.out (by simp)
     have hbw:=Hbx.out.trans (hbb.mono Hbx.out.size)
     obtain ⟨o0,o1,o2,ol⟩:=cells3 hzb
     have f0:=blk_free hzb 0;have f1:=blk_free hzb 1;have f2:=blk_free hzb 2
     have e0:=blk_same hzb 0 (.slice none 0 0) rfl;have e1:=blk_same hzb 1 (.slice none 0 0) rfl;have e2:=blk_same hzb 2 (.slice none 0 0) rfl
     obtain ⟨Hbb,Hzb,Hbw,HX0,HX1,HX2⟩:=hid6 hbb hzb hbw e0 e1 e2
     clear hbb hzb hbw e0 e1 e2
     go_wp2
     rw [HX0.out,HX1.out,HX2.out]
     refine bodyPost_ret (v:=.tuple #[.agg #[.slice none 0 0,.slice none 0 0,.slice none 0 0],.int .i64 9]) (by unfold results;try go_simp) rfl ?_
     rw [HE9.out,parseRZ_bad HE9.out]
     exact parsed_nil rfl Hbw.out
    case pos =>
     have hge : (2 : Int) ≤ (n.length : Int):=by omega
     by_cases hbs : st.2.2 = []
     case neg =>
      have hno : lineW (decide (k = 0)) st (some wRow) (some n) = none:=by rw [hdk];exact lineW_row_bonds hbs
      obtain ⟨g3,c3,cur3,hv3,-⟩:=row_some HP9.out.r3 (by cases hc : st.2.2 with | nil => exact absurd hc hbs | cons _ _ => simp)
      subst hv3
      have hq:=HP9.out.box
      obtain ⟨o0,o1,o2,ol⟩:=cells3 hq
      obtain ⟨Hno,Hq,Hdk⟩:=hid3 hno hq hdk
      clear hno hq hdk
      clear hbs
      have heq : ∀ W,(binOp .eql 24 (.slice (some ⟨g3,0,none⟩) st.2.2.length c3) (.slice none 0 0)).run Tryz.prog W = .ok (.bool false) W:=fun W => run_eql_slice_nil W _ _ _ _ _ Tryz.underlying24
      have hE9:=parseRE_none HLen.out (HpR2.out.trans (by rw [Hlin2.out,Hno.out];rfl))
      have hzx:=(Mod.ofBelow HB09.out).keep Hz0.out (by simp)
      have hbx:=Hb0.out.trans (HB09.out.mono Hb0.out.size)
      obtain ⟨HE9,Hzx,Hbx⟩:=hid3 hE9 hzx hbx
      clear hE9 hzx hbx
      have f0:=blk_free Hzx.out 0;have f1:=blk_free Hzx.out 1;have f2:=blk_free Hzx.out 2
      go_wp2_with fail
      refine (bad_any _).mono ?_
      rintro e wb ⟨rfl,hbb⟩
      have hzb:=(Mod.ofBelow hbb).keep Hzx.out (by simp)
      have hbw:=Hbx.out.trans (hbb.mono Hbx.out.size)
      obtain ⟨o0,o1,o2,ol⟩:=cells3 hzb
      have f0:=blk_free hzb 0;have f1:=blk_free hzb 1;have f2:=blk_free hzb 2
      have e0:=blk_same hzb 0 (.slice none 0 0) rfl;have e1:=blk_same hzb 1 (.slice none 0 0) rfl;have e2:=blk_same hzb 2 (.slice none 0 0) rfl
      obtain ⟨Hbb,Hzb,Hbw,HX0,HX1,HX2⟩:=hid6 hbb hzb hbw e0 e1 e2
      clear hbb hzb hbw e0 e1 e2
      go_wp2
      rw [HX0.out,HX1.out,HX2.out]
      refine bodyPost_ret (v:=.tuple #[.agg #[.slice none 0 0,.slice none 0 0,.slice none 0 0],.int .i64 9]) (by unfold results;try go_simp) rfl ?_
      rw [HE9.out,parseRZ_bad HE9.out]
      exact parsed_nil rfl Hbw.out
     case pos =>
      revert w u htl w0 hul Hb0 HLv Hs0 Hz0 HL0 Hsf HLen hli hw y14z y15z w1 W2 xs hxs HpR hxn Hxl HRJ HpR2 Hw1 y26z u6 u7 u8 y30z y31z y32z y33z y34z y35z y36z y37z y38z y39z y40z u21 u22 u44 u45 u46 u47 u48 u49 u50 u51 u52 u53 y53z y54z y55z y56z y57z y58z y59z y60z y61z y62z y63z y64z y65z y66z y67z y68z y69z y70z y71z y72z y73z y74z y75z y76z y77z y78z y79z y80z y81z y82z y83z y84z y85z y86z y87z y88z y89z y90z y91z y92z y93z y94z y95z y96z y97z y98z y99z y100z y101z y102z y103z y104z y105z y106z y107z y108z y109z y110z y111z y112z y113z y114z y115z y116z y117z y118z y119z y120z y121z y122z y123z y124z y125z y126z y127z y128z y129z y130z y131z y132z y133z y134z y135z u137 u138 u139 u140 u141 u142 u143 u144 u145 u146 u147 u148 u149 u150 u151 u152 u153 u154 u155 u156 u157 u158 u159 u160 u161 u162 u163 u164 u165 u166 u167 u168 u169 u170 u171 u172 u173 u174 u175 u176 u177 u178 u179 u180 u181 u182 u183 u184 u185 u186 u187 u188 u189 u190 u191 u192 u193 u194 u195 u196 u197 u198 u199 u200 u201 u202 u203 u204 u205 u206 u207 u208 u209 u210 u211 u212 u213 u214 u215 u216 u217 u218 u219 u220 u221 u222 u223 u224 u225 u226 u227 u228 u229 u230 u231 u232 u233 u234 u235 u236 u237 u238 u239 u240 u241 u242 u243 u244 u245 u246 u247 u248 u249 u250 u251 u252 u253 u254 u255 u256 u257 u258 u259 u260 u261 u262 u263 u264 u265 u266 u267 u268 u269 u270 u271 k st hk hlt v1 v2 v3 x ws hwn hk6 Hnil Hxlen Hxn y288z y289z y290z W3 Aw hn1 hn1' wo HP Hln HB HBw HR hcut1 isR Hb3 HLw HP3 HB03 y314z y315z wr u3 u11 u12 u13 u14 u15 u16 u17 u18 u19 u20 u54 u55 u56 u57 u58 u59 u60 u61 u62 u63 u64 u65 u66 u67 u68 u69 u70 u71 u72 u73 u74 u75 u76 u77 u78 u79 u80 u81 u82 u83 u84 u85 u86 u87 u88 u89 u90 u91 u92 u93 u94 u95 u96 u97 u98 u99 u100 u101 u102 u103 u104 u105 u106 u107 u108 u109 u110 u111 u112 u113 u114 u115 u116 u117 u118 u119 u120 u121 u122 u123 u124 u125 u126 u127 u128 u129 u130 u131 u132 u133 u134 u135 u136 n hj hnl hlt2 A9 c9 el hw9 Hwd Hown HB5 HP9 HB09 Hln9 Hv9b Hc9 HL9 HC9 HKO Hn9 hk0 hki hkp hdk Hws Hwl hLw y302z Hlin Hline Hbk3 HLa Hisr e0 Hlin2 Hbk9 h2 hge hbs
      exact B0.out
end Go.Proofs.YtoheblfpjinmnaaGreatDoor
