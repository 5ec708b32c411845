import Derived.Test.YtoheblfpjinmnaaGreatDoorTextParsesJ31
import Derived.Test.YtoheblfpjinmnaaGreatDoorTextParsesJ30
set_option linter.unusedVariables false
set_option linter.unusedSimpArgs false
/- A part of the proof that TextParses returns true. -/
namespace Go.Proofs.YtoheblfpjinmnaaGreatDoor
open Go Go.RowKit Go.Shelf
attribute [local go_sem] AllFrom.cons_eq AllFrom.nil_eq putF_nil putF_cons wantedL_none wantedL_some OpGoalT OpGoalV OpGoalQ OpGoalA OpGoalK YieldsR preF_nil preF_cons ByteArray.mk_append_mk
set_option maxRecDepth 100000 in
set_option maxHeartbeats 80000000 in
theorem armS0 : frS.G0:=by
 intro w u htl w0 hul Hb0 HLv Hs0 Hz0 HL0 Hsf HLen hli hw y14z y15z w1 W2 xs hxs HpR hxn Hxl HRJ HpR2 Hw1 y26z u6 u7 u8 y30z y31z y32z y33z y34z y35z y36z y37z y38z y39z y40z u21 u22 u44 u45 u46 u47 u48 u49 u50 u51 u52 u53 y53z y54z y55z y56z y57z y58z y59z y60z y61z y62z y63z y64z y65z y66z y67z y68z y69z y70z y71z y72z y73z y74z y75z y76z y77z y78z y79z y80z y81z y82z y83z y84z y85z y86z y87z y88z y89z y90z y91z y92z y93z y94z y95z y96z y97z y98z y99z y100z y101z y102z y103z y104z y105z y106z y107z y108z y109z y110z y111z y112z y113z y114z y115z y116z y117z y118z y119z y120z y121z y122z y123z y124z y125z y126z y127z y128z y129z y130z y131z y132z y133z y134z y135z u137 u138 u139 u140 u141 u142 u143 u144 u145 u146 u147 u148 u149 u150 u151 u152 u153 u154 u155 u156 u157 u158 u159 u160 u161 u162 u163 u164 u165 u166 u167 u168 u169 u170 u171 u172 u173 u174 u175 u176 u177 u178 u179 u180 u181 u182 u183 u184 u185 u186 u187 u188 u189 u190 u191 u192 u193 u194 u195 u196 u197 u198 u199 u200 u201 u202 u203 u204 u205 u206 u207 u208 u209 u210 u211 u212 u213 u214 u215 u216 u217 u218 u219 u220 u221 u222 u223 u224 u225 u226 u227 u228 u229 u230 u231 u232 u233 u234 u235 u236 u237 u238 u239 u240 u241 u242 u243 u244 u245 u246 u247 u248 u249 u250 u251 u252 u253 u254 u255 u256 u257 u258 u259 u260 u261 u262 u263 u264 u265 u266 u267 u268 u269 u270 u271 k st hk hlt v1 v2 v3 x ws hwn hk6 Hnil Hxlen Hxn y288z y289z y290z W3 Aw hn1 hn1' wo HP Hln HB HBw HR hcut1 isR Hb3 HLw HP3 HB03 y314z y315z wr u3 u11 u12 u13 u14 u15 u16 u17 u18 u19 u20 u54 u55 u56 u57 u58 u59 u60 u61 u62 u63 u64 u65 u66 u67 u68 u69 u70 u71 u72 u73 u74 u75 u76 u77 u78 u79 u80 u81 u82 u83 u84 u85 u86 u87 u88 u89 u90 u91 u92 u93 u94 u95 u96 u97 u98 u99 u100 u101 u102 u103 u104 u105 u106 u107 u108 u109 u110 u111 u112 u113 u114 u115 u116 u117 u118 u119 u120 u121 u122 u123 u124 u125 u126 u127 u128 u129 u130 u131 u132 u133 u134 u135 u136 n hj hnl hlt2 A9 c9 el hw9 Hwd Hown HB5 HP9 HB09 Hln9 Hv9b Hc9 HL9 HC9 HKO Hn9 hk0 hki hkp hdk Hws Hwl hLw y302z Hlin Hline Hbk3 HLa Hisr e0 Hlin2 Hbk9 h2 hge hbs
 have hlw:=lineW_row (st:=st) h2 hbs
 have hKO2:=HKO.out (by rw [← Hisr.out];rfl) h2
 have hv3:=Hnil.out hbs
 subst hv3
 obtain ⟨n0,hn0⟩ : ∃ z,n[0]? = some z:=⟨_,List.getElem?_eq_getElem (by omega)⟩
 obtain ⟨n1,hn1⟩ : ∃ z,n[1]? = some z:=⟨_,List.getElem?_eq_getElem (by omega)⟩
 rw [List.getD_eq_getElem?_getD,List.getD_eq_getElem?_getD,hn0,hn1] at hlw
 have hlw : lineW false st (some wRow) (some n) = (rowK (zeroRw (n0,n1)) (n.drop 2)).map fun r => (st.1,st.2.1 ++ [r],st.2.2):=hlw
 obtain ⟨gA,hgA,hgl,hgb,hcs⟩:=row_open Hown.out (by omega)
 subst hgA
 have a0:=hcs 0 (.int .i64 n0) (by unfold ints;rw [List.getElem?_map,hn0];rfl)
 have a1:=hcs 1 (.int .i64 n1) (by unfold ints;rw [List.getElem?_map,hn1];rfl)
 have hl0 : 0 < n.length:=by omega
 have hl1 : 1 < n.length:=by omega
 have hl1' : (1 : Int) < (n.length : Int):=by omega
 have heq : ∀ W,(binOp .eql 24 (.slice none 0 0) (.slice none 0 0)).run Tryz.prog W = .ok (.bool true) W:=fun W => run_eql_slice_nil W _ _ none 0 0 Tryz.underlying24
 have hq:=HP9.out.box
 obtain ⟨o0,o1,o2,ol⟩:=cells3 hq
 obtain ⟨Hcs,Hlw,Hgb,Hq,HKO2,Hn0,Hn1⟩:=hid7 hcs hlw hgb hq hKO2 hn0 hn1
 clear hcs hlw hgb hq hKO2 hn0 hn1
 clear hbs
 go_wp2_with fail
 clear heq
 refine wp_planA ((wr.alloc (.cells #[.int .i64 0,.int .i64 0,.int .i64 0,.int .i64 0,.int .i64 0,.int .i64 0,.int .i64 0,.int .i64 0,.int .i64 0,.int .i64 0,.int .i64 0] 51)).drew) 8 9 [0,3] [some 171,some 172,some 173,some 174,some 175,some 176,some 177,some 178,some 21,none] [[],[0],[0,1],[],[3],[3,4],[0,1,2,3,4,5],[0,1,2,3,4,5,6],[],[0,1,2,3,4,5,6,7,8]] [0,1,2,3,4,5,6,7,8] mixed rfl (by kernel_rfl) (by decide) (by decide) (by decide) rfl ?_
 iterate 9 apply Exists.intro
 refine ⟨rfl,?_,?_⟩
 ·simp only [tS,List.take_zero,AllFrom.cons_eq,AllFrom.nil_eq,OpGoalA]
  refine ⟨?_,?_,?_,?_,?_,?_,?_,?_,?_,trivial⟩
  all_goals (intro σ hp;(try simp only [gZ,gS,mC,mN,preF_cons,preF_nil,isV,and_true] at hp);(first | (have hq : True:=hp;clear hq hp) | skip))
  all_goals (go_simp;first | exact ⟨⟨rfl,rfl⟩,⟨rfl,rfl⟩⟩ | exact ⟨rfl,rfl⟩)
 intro σ hp
 simp only [gZ,gS,mC,mN,preF_cons,preF_nil,isV,and_true] at hp
 simp only [dS,List.drop_zero]
 go_simp
 clear hp
 refine wpList_store_new rfl 51 (.tmp 21) (.tmp 178) rfl wr.drew (List.replicate 11 (.int .i64 0)) (rwC (zeroRw (n0,n1))) 51 (by go_simp) (by go_simp;rfl) rfl (by kernel_rfl) (rwC_one _) ?_
 generalize hW4 : (wr.drew.alloc (.cells (rwC (zeroRw (n0,n1))).toArray 51)) = W4
 have hb4' : Below wr.heap.size wr W4:=by rw [← hW4];exact ((Below.refl _ wr).drew).alloc (Nat.le_refl _) _
 have hbk4 : W4.heap[wr.heap.size]? = some (.cells (rwC (zeroRw (n0,n1))).toArray 51 (0,0)):=by rw [← hW4];exact heap_alloc_new wr.drew _
 clear hW4
 have hP4:=HP9.out.new hb4'
 have hown4:=row_mod Hown.out (Mod.ofBelow hb4') (by simp)
 have hln4:=(Mod.ofBelow hb4').keep Hln9.out (by simp)
 have hJ4 : RowJ wr.heap.size (zeroRw (n0,n1)) W4:=⟨hbk4,by simp [zeroRw],by simp [zeroRw]⟩
 obtain ⟨wi,hwi⟩ : ∃ wi,wi = wr:=⟨_,rfl⟩
 subst hwi
 clear a0 a1 o0 o1 o2 ol e0 el
 obtain ⟨HP4,Hown4,Hln4,HJ4,Hb4',Hbk4⟩:=hid6 hP4 hown4 hln4 hJ4 hb4' hbk4
 clear hP4 hown4 hln4 hJ4 hb4' hbk4
 go_wp2
 refine ⟨rfl,?_⟩
 apply_assumption
 go_wp2
 go_loopw [22] (fun i wv => ∃ (j : Nat) (r : Rw),2 ≤ j ∧ j ≤ n.length ∧ j % 2 = 0 ∧ i = .int .i64 j ∧ rowK (zeroRw (n0,n1)) (n.drop 2) = rowK r (n.drop j) ∧ Mod [wi.heap.size] W4 wv ∧ RowJ wi.heap.size r wv) (fun i wr => n.length - (Go.RowKit.intOf i).toNat)
 case atStart => exact ⟨2,zeroRw (n0,n1),by omega,by omega,rfl,rfl,rfl,Mod.refl _ _,HJ4.out⟩
 case round =>
  obtain ⟨j,r,hj2,hjn,hje,rfl,hrk,hM,hJ⟩:=hrel
  have hB5 : Below wi.heap.size wi wr:=Hb4'.out.trans (hM.toBelow (by simp) Hb4'.out.size)
  have hB05:=HB09.out.trans (hB5.mono HB09.out.size)
  have hown5:=row_mod Hown4.out hM (fun y hy e => by have:=row_lt Hown.out y hy;simp at e;omega)
  have hrl:=blk_lt hJ.blk
  by_cases hlt3 : j < n.length
  ·have hj1 : j + 1 < n.length:=by have:=HKO2.out.1;omega
   have hkey:=HKO2.out.2 j hj2 hje hlt3
   rw [rowK_two hj1] at hrk
   obtain ⟨z0,hz0'⟩ : ∃ z,n[j]? = some z:=⟨_,List.getElem?_eq_getElem hlt3⟩
   obtain ⟨z1,hz1'⟩ : ∃ z,n[j + 1]? = some z:=⟨_,List.getElem?_eq_getElem hj1⟩
   have hd0 : n.getD j 0 = z0:=by rw [List.getD_eq_getElem?_getD,hz0'];rfl
   have hd1 : n.getD (j + 1) 0 = z1:=by rw [List.getD_eq_getElem?_getD,hz1'];rfl
   rw [hd0,hd1] at hrk
   rw [hd0] at hkey
   obtain ⟨kk,rfl⟩:=Int.eq_ofNat_of_zero_le hkey.1
   have hk8 : kk < 8:=by omega
   rw [Int.toNat_natCast] at hrk
   have hi0 : (ints n)[j]? = some (.int .i64 (kk : Int)):=by unfold ints;rw [List.getElem?_map,hz0'];rfl
   have hi1 : (ints n)[j + 1]? = some (.int .i64 z1):=by unfold ints;rw [List.getElem?_map,hz1'];rfl
   have b0:=row_cell hown5 hi0
   have HH:=Lib.hid (hasKind_any r.2.1 kk (by omega))
   have HW:=Lib.hid (powK_any kk hk8)
   have k2 : wr.cell? ⟨wi.heap.size,2,none⟩ = some (.int .i64 r.2.1):=blk_cell hJ.blk 2
   have hgl5 : gA < wr.heap.size:=row_lt hown5 gA rfl
   have hji : (j : Int) < (n.length : Int):=by omega
   have hji1 : (j : Int) + 1 < (n.length : Int):=by omega
   clear hd0 hd1 hz0' hz1'
   obtain ⟨Hi0,Hi1⟩:=hid2 hi0 hi1
   clear hi0 hi1
   cases hhk : hasK r.2.1 kk with
   | true =>
    rw [if_pos (.inl hhk)] at hrk
    have hno : lineW (decide (k = 0)) st (some wRow) (some n) = none:=by rw [hdk,Hlw.out,hrk];rfl
    rw [hhk] at HH
    obtain ⟨HB5,HB05,Hown5,Hrk,HM,HJ,Hhk,Hno,Hdk,Hkey⟩:=hid10 hB5 hB05 hown5 hrk hM hJ hhk hno hdk hkey
    clear hB5 hB05 hown5 hrk hM hJ hhk hno hdk hkey
    go_wp2_with fail
    refine wp_planR 19 [3,4] [some 185,some 186,some 187,some 188,some 189,some 190,some 191,some 192,some 193,some 194,some 195,some 196,some 197,some 198,some 199,some 200,some 201,some 202,some 203] [[],[0],[0,1],[],[],[3,4],[3,4,5],[0,1,2,3,4,5,6],[0,1,2,3,4,5,6,7],[0,1,2,3,4,5,6,7,8],[0,1,2,3,4,5,6,7,8,9],[0,1,2,3,4,5,6,7,8,9,10],[0,1,2,3,4,5,6,7,8],[0,1,2,3,4,5,6,7,8],[0,1,2,3,4,5,6,7,8,12,13],[0,1,2,3,4,5,6,7,8,12,13,14],[0,1,2,3,4,5,6,7,8,12,13,14,15],[0,1,2,3,4,5,6,7,8,9,10,11,12,13,14,15,16],[0,1,2,3,4,5,6,7,8,9,10,11,12,13,14,15,16,17]] [0,1,2,3,4,5,6,7,8,9,10,11,12,13,14,15,16,17,18] mixed rfl (by kernel_rfl) (by decide) (by decide) rfl ?_
    iterate 19 apply Exists.intro
    refine ⟨rfl,?_,?_⟩
    ·simp only [tS,List.take_zero,AllFrom.cons_eq,AllFrom.nil_eq,OpGoalQ]
     refine ⟨?_,?_,?_,?_,?_,?_,?_,?_,?_,?_,?_,?_,?_,?_,?_,?_,?_,?_,?_,trivial⟩
     all_goals (intro σ hp;(try simp only [gZ,gS,mC,mN,preF_cons,preF_nil,isV,and_true] at hp);(first | (have hq : True:=hp;clear hq hp) | skip))
     iterate 7 · (go_simp;exact ⟨rfl,rfl⟩)
     ·(go_simp;refine (HH.out _).mono ?_;rintro e w4 ⟨rfl,rfl⟩;exact ⟨_,rfl,rfl,rfl⟩)
     iterate 8 · (go_simp;exact ⟨rfl,rfl⟩)
     ·(go_simp;first | exact ⟨rfl,rfl⟩ | (refine (HW.out _).mono ?_;rintro e w4 ⟨rfl,rfl⟩;exact ⟨_,rfl,rfl,rfl⟩))
     iterate 2 · (go_simp;exact ⟨rfl,rfl⟩)
    intro σ hp
    simp only [gZ,gS,mC,mN,preF_cons,preF_nil,isV,and_true] at hp
    simp only [dS,List.drop_zero]
    go_simp
    clear hp
    generalize hWD : wr.drew = V1
    have hBD:=Below.drew (Below.refl wr.heap.size wr)
    rw [hWD] at hBD
    have hB09:=HB05.out.trans (hBD.mono HB05.out.size)
    have hE9:=parseRE_none HLen.out (HpR2.out.trans (by rw [Hlin2.out,Hno.out];rfl))
    have hzx:=(Mod.ofBelow hB09).keep Hz0.out (by simp)
    have hbx:=Hb0.out.trans (hB09.mono Hb0.out.size)
    clear hWD
    obtain ⟨HE9,Hzx,Hbx,HBx,HBD⟩:=hid5 hE9 hzx hbx hB09 hBD
    clear hE9 hzx hbx hB09 hBD
    refine ⟨rfl,?_⟩
    apply_assumption
    have f0:=blk_free Hzx.out 0;have f1:=blk_free Hzx.out 1;have f2:=blk_free Hzx.out 2
    go_wp2_with fail
    refine (bad_any _).mono ?_
    rintro e wb ⟨rfl,hbb⟩
    have hzb:=(Mod.ofBelow hbb).keep Hzx.out (by simp)
    have hbw:=Hbx.out.trans (hbb.mono Hbx.out.size)
    obtain ⟨o0,o1,o2,ol⟩:=cells3 hzb
    have f0:=blk_free hzb 0;have f1:=blk_free hzb 1;have f2:=blk_free hzb 2
    have e0:=blk_same hzb 0 (.slice none 0 0) rfl;have e1:=blk_same hzb 1 (.slice none 0 0) rfl;have e2:=blk_same hzb 2 (.slice none 0 0) rfl
    obtain ⟨Hbb,Hzb,Hbw,HX0,HX1,HX2⟩:=hid6 hbb hzb hbw e0 e1 e2
    clear hbb hzb hbw e0 e1 e2
    go_wp2
    rw [HX0.out,HX1.out,HX2.out]
    refine bodyPost_ret (v:=.tuple #[.agg #[.slice none 0 0,.slice none 0 0,.slice none 0 0],.int .i64 9]) (by unfold results;try go_simp) rfl ?_
    rw [HE9.out,parseRZ_bad HE9.out]
    exact parsed_nil rfl Hbw.out
   | false =>
    rw [hhk] at HH
    by_cases hpk : pw kk ≤ r.2.1
    ·rw [if_pos (.inr hpk)] at hrk
     have hno : lineW (decide (k = 0)) st (some wRow) (some n) = none:=by rw [hdk,Hlw.out,hrk];rfl
     obtain ⟨HB5,HB05,Hown5,Hrk,HM,HJ,Hhk,Hno,Hdk,Hkey⟩:=hid10 hB5 hB05 hown5 hrk hM hJ hhk hno hdk hkey
     clear hB5 hB05 hown5 hrk hM hJ hhk hno hdk hkey
     go_wp2_with fail
     refine wp_planR 19 [3,4] [some 185,some 186,some 187,some 188,some 189,some 190,some 191,some 192,some 193,some 194,some 195,some 196,some 197,some 198,some 199,some 200,some 201,some 202,some 203] [[],[0],[0,1],[],[],[3,4],[3,4,5],[0,1,2,3,4,5,6],[0,1,2,3,4,5,6,7],[0,1,2,3,4,5,6,7,8],[0,1,2,3,4,5,6,7,8,9],[0,1,2,3,4,5,6,7,8,9,10],[0,1,2,3,4,5,6,7,8],[0,1,2,3,4,5,6,7,8],[0,1,2,3,4,5,6,7,8,12,13],[0,1,2,3,4,5,6,7,8,12,13,14],[0,1,2,3,4,5,6,7,8,12,13,14,15],[0,1,2,3,4,5,6,7,8,9,10,11,12,13,14,15,16],[0,1,2,3,4,5,6,7,8,9,10,11,12,13,14,15,16,17]] [0,1,2,3,4,5,6,7,8,9,10,11,12,13,14,15,16,17,18] mixed rfl (by kernel_rfl) (by decide) (by decide) rfl ?_
     iterate 19 apply Exists.intro
     refine ⟨rfl,?_,?_⟩
     ·simp only [tS,List.take_zero,AllFrom.cons_eq,AllFrom.nil_eq,OpGoalQ]
      refine ⟨?_,?_,?_,?_,?_,?_,?_,?_,?_,?_,?_,?_,?_,?_,?_,?_,?_,?_,?_,trivial⟩
      all_goals (intro σ hp;(try simp only [gZ,gS,mC,mN,preF_cons,preF_nil,isV,and_true] at hp);(first | (have hq : True:=hp;clear hq hp) | skip))
      iterate 7 · (go_simp;exact ⟨rfl,rfl⟩)
      ·(go_simp;refine (HH.out _).mono ?_;rintro e w4 ⟨rfl,rfl⟩;exact ⟨_,rfl,rfl,rfl⟩)
      iterate 8 · (go_simp;exact ⟨rfl,rfl⟩)
      ·(go_simp;first | exact ⟨rfl,rfl⟩ | (refine (HW.out _).mono ?_;rintro e w4 ⟨rfl,rfl⟩;exact ⟨_,rfl,rfl,rfl⟩))
      iterate 2 · (go_simp;exact ⟨rfl,rfl⟩)
     intro σ hp
     simp only [gZ,gS,mC,mN,preF_cons,preF_nil,isV,and_true] at hp
     simp only [dS,List.drop_zero]
     go_simp
     clear hp
     generalize hWD : wr.drew = V1
     have hBD:=Below.drew (Below.refl wr.heap.size wr)
     rw [hWD] at hBD
     have hB09:=HB05.out.trans (hBD.mono HB05.out.size)
     have hE9:=parseRE_none HLen.out (HpR2.out.trans (by rw [Hlin2.out,Hno.out];rfl))
     have hzx:=(Mod.ofBelow hB09).keep Hz0.out (by simp)
     have hbx:=Hb0.out.trans (hB09.mono Hb0.out.size)
     clear hWD
     obtain ⟨HE9,Hzx,Hbx,HBx,HBD⟩:=hid5 hE9 hzx hbx hB09 hBD
     clear hE9 hzx hbx hB09 hBD
     refine ⟨rfl,?_⟩
     apply_assumption
     have f0:=blk_free Hzx.out 0;have f1:=blk_free Hzx.out 1;have f2:=blk_free Hzx.out 2
     go_wp2_with fail
     refine (bad_any _).mono ?_
     rintro e wb ⟨rfl,hbb⟩
     have hzb:=(Mod.ofBelow hbb).keep Hzx.out (by simp)
     have hbw:=Hbx.out.trans (hbb.mono Hbx.out.size)
     obtain ⟨o0,o1,o2,ol⟩:=cells3 hzb
     have f0:=blk_free hzb 0;have f1:=blk_free hzb 1;have f2:=blk_free hzb 2
     have e0:=blk_same hzb 0 (.slice none 0 0) rfl;have e1:=blk_same hzb 1 (.slice none 0 0) rfl;have e2:=blk_same hzb 2 (.slice none 0 0) rfl
     obtain ⟨Hbb,Hzb,Hbw,HX0,HX1,HX2⟩:=hid6 hbb hzb hbw e0 e1 e2
     clear hbb hzb hbw e0 e1 e2
     go_wp2
     rw [HX0.out,HX1.out,HX2.out]
     refine bodyPost_ret (v:=.tuple #[.agg #[.slice none 0 0,.slice none 0 0,.slice none 0 0],.int .i64 9]) (by unfold results;try go_simp) rfl ?_
     rw [HE9.out,parseRZ_bad HE9.out]
     exact parsed_nil rfl Hbw.out
    ·rw [if_neg (by rw [hhk];simp [hpk])] at hrk
     have hwr:=wrapM (r.2.1 + pw kk) (by have:=pw_nat8 hk8;have:=hJ.k0;omega) (by have:=pw_nat8 hk8;have:=hJ.k1;omega)
     have hpk' : putK r.2.1 kk = r.2.1 + pw kk:=by unfold putK;rw [hhk];rfl
     have hRc:=rowSet_cells r kk hk8 (r.2.1 + pw kk) z1
     have hk0' : 0 ≤ r.2.1 + pw kk ∧ r.2.1 + pw kk < 256:=by have:=pw_nat8 hk8;have:=hJ.k0;omega
     obtain ⟨HB5,HB05,Hown5,Hrk,HM,HJ,Hhk,Hkey,Hpk',HRc,Hk0'⟩:=hid11 hB5 hB05 hown5 hrk hM hJ hhk hkey hpk' hRc hk0'
     clear hB5 hB05 hown5 hrk hM hJ hhk hkey hpk' hRc hk0'
     go_wp2_with fail
     refine wp_planR 19 [3,4] [some 185,some 186,some 187,some 188,some 189,some 190,some 191,some 192,some 193,some 194,some 195,some 196,some 197,some 198,some 199,some 200,some 201,some 202,some 203] [[],[0],[0,1],[],[],[3,4],[3,4,5],[0,1,2,3,4,5,6],[0,1,2,3,4,5,6,7],[0,1,2,3,4,5,6,7,8],[0,1,2,3,4,5,6,7,8,9],[0,1,2,3,4,5,6,7,8,9,10],[0,1,2,3,4,5,6,7,8],[0,1,2,3,4,5,6,7,8],[0,1,2,3,4,5,6,7,8,12,13],[0,1,2,3,4,5,6,7,8,12,13,14],[0,1,2,3,4,5,6,7,8,12,13,14,15],[0,1,2,3,4,5,6,7,8,9,10,11,12,13,14,15,16],[0,1,2,3,4,5,6,7,8,9,10,11,12,13,14,15,16,17]] [0,1,2,3,4,5,6,7,8,9,10,11,12,13,14,15,16,17,18] mixed rfl (by kernel_rfl) (by decide) (by decide) rfl ?_
     iterate 19 apply Exists.intro
     refine ⟨rfl,?_,?_⟩
     ·simp only [tS,List.take_zero,AllFrom.cons_eq,AllFrom.nil_eq,OpGoalQ]
      refine ⟨?_,?_,?_,?_,?_,?_,?_,?_,?_,?_,?_,?_,?_,?_,?_,?_,?_,?_,?_,trivial⟩
      all_goals (intro σ hp;(try simp only [gZ,gS,mC,mN,preF_cons,preF_nil,isV,and_true] at hp);(first | (have hq : True:=hp;clear hq hp) | skip))
      iterate 7 · (go_simp;exact ⟨rfl,rfl⟩)
      ·(go_simp;refine (HH.out _).mono ?_;rintro e w4 ⟨rfl,rfl⟩;exact ⟨_,rfl,rfl,rfl⟩)
      iterate 8 · (go_simp;exact ⟨rfl,rfl⟩)
      ·(go_simp;first | exact ⟨rfl,rfl⟩ | (refine (HW.out _).mono ?_;rintro e w4 ⟨rfl,rfl⟩;exact ⟨_,rfl,rfl,rfl⟩))
      iterate 2 · (go_simp;exact ⟨rfl,rfl⟩)
     intro σ hp
     simp only [gZ,gS,mC,mN,preF_cons,preF_nil,isV,and_true] at hp
     simp only [dS,List.drop_zero]
     go_simp
     clear hp
     generalize hWD : wr.drew = V1
     have hBD:=Below.drew (Below.refl wr.heap.size wr)
     rw [hWD] at hBD
     clear hWD
     have hJ1 : RowJ wi.heap.size r V1:=⟨(Mod.ofBelow hBD).keep HJ.out.blk (by simp),HJ.out.k0,HJ.out.k1⟩
     have hown1:=row_mod Hown5.out (Mod.ofBelow hBD) (by simp)
     have hM1 : Mod [wi.heap.size] W4 V1:=HM.out.andBelow hBD
     clear b0 k2 hgl5 hrl HH
     have b0:=row_cell hown1 Hi0.out
     have k2 : V1.cell? ⟨wi.heap.size,2,none⟩ = some (.int .i64 r.2.1):=blk_cell hJ1.blk 2
     have f2:=blk_free hJ1.blk 2
     have hgl1 : gA < V1.heap.size:=row_lt hown1 gA rfl
     have hrl1:=blk_lt hJ1.blk
     obtain ⟨HBD,HJ1,Hown1,HM1⟩:=hid4 hBD hJ1 hown1 hM1
     clear hBD hJ1 hown1 hM1
     refine ⟨rfl,?_⟩
     apply_assumption
     go_wp2_with fail
     refine wp_planR 11 [3,4] [some 208,some 209,some 210,some 211,some 212,some 213,some 214,some 215,some 216,some 217,some 218,none] [[],[0],[0,1],[],[],[3,4],[3,4,5],[3,4,5,6],[0,1,2,3,4,5,6,7],[0,1,2,3,4,5,6,7,8],[0,1,2,3,4,5,6,7,8,9],[0,1,2,3,4,5,6,7,8,9,10]] [0,1,2,3,4,5,6,7,8,9,10] mixed rfl (by kernel_rfl) (by decide) (by decide) rfl ?_
     iterate 11 apply Exists.intro
     refine ⟨rfl,?_,?_⟩
     ·simp only [tS,List.take_zero,AllFrom.cons_eq,AllFrom.nil_eq,OpGoalQ]
      refine ⟨?_,?_,?_,?_,?_,?_,?_,?_,?_,?_,?_,trivial⟩
      all_goals (intro σ hp;(try simp only [gZ,gS,mC,mN,preF_cons,preF_nil,isV,and_true] at hp);(first | (have hq : True:=hp;clear hq hp) | skip))
      iterate 7 · (go_simp;exact ⟨rfl,rfl⟩)
      ·(go_simp;refine (HW.out _).mono ?_;rintro e w4 ⟨rfl,rfl⟩;exact ⟨_,rfl,rfl,rfl⟩)
      iterate 3 · (go_simp;exact ⟨rfl,rfl⟩)
     intro σ hp
     simp only [gZ,gS,mC,mN,preF_cons,preF_nil,isV,and_true] at hp
     simp only [dS,List.drop_zero]
     go_simp
     clear hp
     go_wp2
     generalize hV4 : (V1.setCell ⟨wi.heap.size,2,none⟩ (.int .i64 (r.2.1 + pw kk))).drew = V4
     have hm4 : Mod [wi.heap.size] V1 V4:=by rw [← hV4];exact ((Mod.refl _ V1).setCell (.inl (by simp)) _).drew
     have hbk5 : V4.heap[wi.heap.size]? = some (.cells ((rwC r).toArray.setIfInBounds 2 (.int .i64 (r.2.1 + pw kk))) 51 (0,0)):=by rw [← hV4];exact blk_set (w:=V1) HJ1.out.blk 2 _
     clear hV4
     have hown6:=row_mod Hown1.out hm4 (fun y hy e => by simp [Value.ownBlock] at hy e;omega)
     clear b0 k2 f2 hgl1 hrl1 HW hwr
     have b0:=row_cell hown6 Hi0.out
     have b1:=row_cell hown6 Hi1.out
     have hgl6 : gA < V4.heap.size:=row_lt hown6 gA rfl
     have hrl4:=blk_lt hbk5
     have fj:=blk_free hbk5 (3 + kk)
     obtain ⟨uj,hcj⟩ : ∃ u,V4.cell? ⟨wi.heap.size,3 + kk,none⟩ = some u:=by
      rw [blk_cell hbk5 (3 + kk)]
      exact ⟨_,Array.getElem?_eq_getElem (by rw [Array.size_setIfInBounds,List.size_toArray,rwC_len];omega)⟩
     have hki : (kk : Int) < 8:=by omega
     have hwj:=wrapM ((j : Int) + 1) (by omega) (by have:=Hn9.out;omega)
     have hjt : ((j : Int) + 1).toNat = j + 1:=by omega
     have hj10 : (0 : Int) ≤ (j : Int) + 1:=by omega
     obtain ⟨Hm4,Hbk5,Hown6⟩:=hid3 hm4 hbk5 hown6
     clear hm4 hbk5 hown6
     refine ⟨rfl,?_⟩
     apply_assumption
     go_wp2_with fail
     refine wp_planR 12 [0,1,4,5] [some 219,some 220,some 221,some 222,some 223,some 224,some 225,some 226,some 227,some 228,some 229,some 230,none] [[],[],[0,1],[0,1,2],[],[],[5],[4,5,6],[4,5,6,7],[],[9],[0,1,2,3,4,5,6,7,8,9,10],[0,1,2,3,4,5,6,7,8,9,10,11]] [0,1,2,3,4,5,6,7,8,9,10,11] mixed rfl (by kernel_rfl) (by decide) (by decide) rfl ?_
     iterate 12 apply Exists.intro
     refine ⟨rfl,?_,?_⟩
     ·simp only [tS,List.take_zero,AllFrom.cons_eq,AllFrom.nil_eq,OpGoalQ]
      refine ⟨?_,?_,?_,?_,?_,?_,?_,?_,?_,?_,?_,?_,trivial⟩
      all_goals (intro σ hp;(try simp only [gZ,gS,mC,mN,preF_cons,preF_nil,isV,and_true] at hp);(first | (have hq : True:=hp;clear hq hp) | skip))
      all_goals (go_simp;exact ⟨rfl,rfl⟩)
     intro σ hp
     simp only [gZ,gS,mC,mN,preF_cons,preF_nil,isV,and_true] at hp
     simp only [dS,List.drop_zero]
     go_simp
     clear hp
     go_wp2
     generalize hV5 : (V4.setCell ⟨wi.heap.size,3 + kk,none⟩ (.int .i64 z1)).drew = V5
     have hm5 : Mod [wi.heap.size] V4 V5:=by rw [← hV5];exact ((Mod.refl _ V4).setCell (.inl (by simp)) _).drew
     have hbk6 : V5.heap[wi.heap.size]? = some (.cells (rwC (putR r kk z1)).toArray 51 (0,0)):=by
      rw [← hV5]
      exact (blk_set (w:=V4) Hbk5.out (3 + kk) _).trans (by rw [HRc.out];unfold putR;rw [Hpk'.out])
     clear hV5
     have hMr:=(HM1.out.step Hm4.out).step hm5
     have hJr : RowJ wi.heap.size (putR r kk z1) V5:=⟨hbk6,by show 0 ≤ putK r.2.1 kk;rw [Hpk'.out];exact Hk0'.out.1,by show putK r.2.1 kk < 256;rw [Hpk'.out];exact Hk0'.out.2⟩
     obtain ⟨Hm5,Hbk6,HMr,HJr⟩:=hid4 hm5 hbk6 hMr hJr
     clear hm5 hbk6 hMr hJr
     refine ⟨rfl,?_⟩
     apply_assumption
     go_wp2
     go_roundw
     case rel => exact ⟨j + 2,putR r kk z1,by omega,by omega,by omega,by go_num,Hrk.out,HMr.out,HJr.out⟩
     case measure => simp [Go.RowKit.intOf];omega
  ·obtain rfl : j = n.length:=by omega
   have hjn' : ¬ (n.length : Int) < (n.length : Int):=by omega
   rw [List.drop_length,rowK] at hrk
   have hno : lineW (decide (k = 0)) st (some wRow) (some n) = some (st.1,st.2.1 ++ [r],st.2.2):=by rw [hdk,Hlw.out,hrk];rfl
   have hP5:=HP4.out.mod hM (by have:=blk_lt HP9.out.box;simp;omega) (fun y hy e => by have:=row_lt HP9.out.r1 y hy;simp at e;omega) (fun y hy e => by have:=row_lt HP9.out.r2 y hy;simp at e;omega) (fun y hy e => by simp [Value.ownBlock] at hy) (fun y hy => by simp at hy;have:=blk_lt HP9.out.box;omega)
   have hln5:=hM.keep Hln4.out (by have:=blk_lt Hln9.out;simp;omega)
   have hq5:=hP5.box
   have q1:=blk_cell hq5 1
   simp only [eA,eZ,eS] at q1
   have ql5:=blk_lt hq5
   obtain ⟨HM,HJ,HP5,Hq5,Hln5,HB5,HB05,Hown5,Hrk,Hno,Hdk⟩:=hid11 hM hJ hP5 hq5 hln5 hB5 hB05 hown5 hrk hno hdk
   clear hM hJ hP5 hq5 hln5 hB5 hB05 hown5 hrk hno hdk
   go_wp2_with (
    refine wpList_load_flat rfl 51 (.tmp 21) rfl ⟨wi.heap.size,0,none⟩ (by go_simp) (rwC r) _ Tryz.underlying51 rfl (by kernel_rfl) (fun j u hu => by rw [Addr.add_mid,Nat.zero_add];exact (blk_cell HJ.out.blk j).trans (by rw [List.getElem?_toArray];exact hu)) ?_
    refine wpList_build1 rfl 23 51 (.tmp 233) rfl (rwC r) (by go_simp) Tryz.underlying23 inf_Row (rwC_len r) (by omega) (by omega) ?_
    have hbk6:=heap_alloc_new wr (.cells (rwC r).toArray 51)
    have hb6 : Below wr.heap.size wr (wr.alloc (.cells (rwC r).toArray 51)):=(Below.refl _ wr).alloc (Nat.le_refl _) _
    generalize hW6 : wr.alloc (.cells (rwC r).toArray 51) = W6 at *
    clear hW6
    have hP6:=HP5.out.new hb6
    have hst6 : st.2.1.length ≤ 6001:=by have:=HR.out.l2;omega
    refine app_rw rfl (.tmp 232) (.tmp 234) rfl w0.heap.size v2 st.2.1 r ⟨wr.heap.size,0,none⟩ 1 (by go_simp) hP6.r2 (by go_simp) (fun j u hu => by
     rw [Addr.add_mid,Nat.zero_add]
     exact (blk_cell hbk6 j).trans (by rw [List.getElem?_toArray];exact hu)) (by omega) hP6.below.size ?_
    intro v' W7 hr7 hg7 hv7
    obtain ⟨A6,c6,rfl,_⟩:=row_slice hr7
    obtain ⟨k1,k2,k3⟩:=hP6.fin1 hg7 hr7 hv7 (by have:=hb6.size;have:=blk_lt Hz0.out;have:=HB05.out.size;omega) (by have:=blk_lt Hz0.out;omega)
    have hq7:=((Mod.refl v2.ownBlock.toList W6).grown hg7 (fun k hk => .inl (by simp [hk]))).keep hP6.box (fun e => hP6.ne2 _ (Option.mem_toList.1 e) rfl)
    clear q1 ql5
    have q1:=blk_cell hq7 1
    simp only [eA,eZ,eS] at q1
    have f1:=blk_free hq7 1
    have ql7:=blk_lt hq7
    have hln7 : (W7.setCell ⟨w0.heap.size,1,none⟩ (.slice A6 (st.2.1 ++ [r]).length c6)).heap[w1.heap.size]? = some (.cells (xs.map str).toArray 9 (0,0)):=by
     rw [Below.heap_setCell _ _ _ _ (by have:=Hw1.out;show w1.heap.size ≠ w0.heap.size;omega)]
     exact ((Mod.refl v2.ownBlock.toList W6).grown hg7 (fun k hk => .inl (by simp [hk]))).keep ((Mod.ofBelow hb6).keep Hln5.out (by simp)) (fun e => own_ne_box hP6.r2 ((Mod.ofBelow hb6).keep Hln5.out (by simp)) (by decide) (Option.mem_toList.1 e).symm)
    have hfin : RpJ w w0 w1.heap.size xs (k + 1) (st.1,st.2.1 ++ [r],st.2.2) (W7.setCell ⟨w0.heap.size,1,none⟩ (.slice A6 (st.2.1 ++ [r]).length c6)):=⟨⟨_,_,_,k3,fun _ => rfl⟩,hln7,HR.out.l1,by have:=HR.out.l2;simp;omega,by have:=HR.out.l3;show st.2.2.length ≤ _;omega⟩
    simp only [List.length_append,List.length_cons,List.length_nil,Nat.zero_add] at hfin
    obtain ⟨Hfin,K1,K2,K3,Hr7,Hg7,Hv7,HP6,Hq7,Hln7,Hbk6,Hb6⟩:=hid12 hfin k1 k2 k3 hr7 hg7 hv7 hP6 hq7 hln7 hbk6 hb6
    clear hfin k1 k2 k3 hr7 hg7 hv7 hP6 hq7 hln7 hbk6 hb6
    )
   go_roundw
   case rel => exact ⟨k + 1,_,by omega,by go_num,by rw [Hlin2.out,Hno.out];rfl,Hfin.out⟩
   case measure => simp [Go.RowKit.intOf];omega
theorem arm1 : fr.G1:=frS.f ⟨armS0⟩
set_option maxRecDepth 100000 in
set_option maxHeartbeats 80000000 in
theorem rparse_any {w : World} {t : Bs} (hLv : LaidV w) (htl : t.length ≤ 9223372036854775807) : Calls Tryz.prog 5 #[str t] w (ParsedPost (parseRZ t) (parseRE t) w):=by
 obtain ⟨w0,hw0,hb0,hz0,hs0⟩:=box1 w (.cells #[.slice none 0 0,.slice none 0 0,.slice none 0 0] 26)
 have f0:=blk_free hz0 0;have f1:=blk_free hz0 1;have f2:=blk_free hz0 2
 obtain ⟨o0,o1,o2,ol⟩:=cells3 hz0
 by_cases hlen : 6000 < t.length
 ·have hE : parseRE t = 2:=by unfold parseRE;rw [if_pos hlen]
  have hli : (6000 : Int) < (t.length : Int):=by omega
  have htb : ¬ (9223372036854775807 : Int) < (t.length : Int):=by omega
  have e0:=blk_same hz0 0 (.slice none 0 0) rfl;have e1:=blk_same hz0 1 (.slice none 0 0) rfl;have e2:=blk_same hz0 2 (.slice none 0 0) rfl
  rw [hE,parseRZ_bad hE]
  obtain ⟨Hb0,HLv,HE,Hs0,Hz0,HX0,HX1,HX2⟩:=hid8 hb0 hLv hE hs0 hz0 e0 e1 e2
  clear hb0 hLv hE hs0 hz0 e0 e1 e2
  go_enter Tryz.func5,Tryz.ntmps5
  unfold str at *
  go_wp2
  rw [HX0.out,HX1.out,HX2.out]
  refine bodyPost_ret (v:=.tuple #[.agg #[.slice none 0 0,.slice none 0 0,.slice none 0 0],.int .i64 2]) (by unfold results;try go_simp) rfl ?_
  exact parsed_nil rfl Hb0.out
 ·have hL0:=hLv.below hb0
  have hli : ¬ (6000 : Int) < (t.length : Int):=by omega
  have HSf:=Lib.hid (fun V => hasSuf_any t [10] V htl)
  by_cases hsf : Lib.hasSuffix t [10] = true
  ·obtain ⟨u,rfl⟩ : ∃ u,t = u ++ [10]:=suf_ten hsf
   exact fr.f ⟨arm0⟩ ⟨arm1⟩ w u hLv htl hlen
  ·have hsf' : Lib.hasSuffix t [10] = false:=by simpa using hsf
   have hn : parseR t = none:=by unfold parseR;rw [if_neg hsf]
   have hE9:=parseRE_none hlen hn
   rw [hsf'] at HSf
   obtain ⟨Hb0,HLv,HE9,Hs0,Hz0,Hn,HL0⟩:=hid7 hb0 hLv hE9 hs0 hz0 hn hL0
   clear hb0 hLv hE9 hs0 hz0 hn hL0
   clear hsf hsf'
   go_enter Tryz.func5,Tryz.ntmps5
   unfold str at *
   go_wp2_with fail
   refine (HSf.out _).mono ?_
   rintro e w1 ⟨rfl,hw⟩
   obtain rfl : w0 = w1:=hw.symm
   clear hw0
   have f0:=blk_free Hz0.out 0;have f1:=blk_free Hz0.out 1;have f2:=blk_free Hz0.out 2
   go_wp2_with fail
   refine (bad_any _).mono ?_
   rintro e wb ⟨rfl,hbb⟩
   have hzb:=(Mod.ofBelow hbb).keep Hz0.out (by simp)
   have hbw:=Hb0.out.trans (hbb.mono Hb0.out.size)
   obtain ⟨o0,o1,o2,ol⟩:=cells3 hzb
   have f0:=blk_free hzb 0;have f1:=blk_free hzb 1;have f2:=blk_free hzb 2
   have e0:=blk_same hzb 0 (.slice none 0 0) rfl;have e1:=blk_same hzb 1 (.slice none 0 0) rfl;have e2:=blk_same hzb 2 (.slice none 0 0) rfl
   obtain ⟨Hbb,Hzb,Hbw,HX0,HX1,HX2⟩:=hid6 hbb hzb hbw e0 e1 e2
   clear hbb hzb hbw e0 e1 e2
   go_wp2
   rw [HX0.out,HX1.out,HX2.out]
   refine bodyPost_ret (v:=.tuple #[.agg #[.slice none 0 0,.slice none 0 0,.slice none 0 0],.int .i64 9]) (by unfold results;try go_simp) rfl ?_
   rw [HE9.out,parseRZ_bad HE9.out]
   exact parsed_nil rfl Hbw.out
end Go.Proofs.YtoheblfpjinmnaaGreatDoor
