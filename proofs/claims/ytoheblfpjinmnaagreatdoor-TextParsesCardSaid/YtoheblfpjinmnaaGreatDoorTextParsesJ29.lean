import Derived.Test.YtoheblfpjinmnaaGreatDoorTextParsesJ28
set_option linter.unusedVariables false
set_option linter.unusedSimpArgs false
/- A part of the proof that TextParses returns true. -/
namespace Go.Proofs.YtoheblfpjinmnaaGreatDoor
open Go Go.RowKit Go.Shelf
attribute [local go_sem] AllFrom.cons_eq AllFrom.nil_eq putF_nil putF_cons wantedL_none wantedL_some OpGoalT OpGoalV OpGoalQ OpGoalA OpGoalK YieldsR preF_nil preF_cons ByteArray.mk_append_mk
theorem bad_any (w : World) : Calls Tryz.prog 10 #[] w fun e w' => e = .returned (.tuple #[.agg #[.slice none 0 0,.slice none 0 0,.slice none 0 0],.int .i64 9]) ∧ Below w.heap.size w w':=by
 obtain ⟨w0,hw0,hb0,hz0,hs0⟩:=box1 w (.cells #[.slice none 0 0,.slice none 0 0,.slice none 0 0] 26)
 obtain ⟨o0,o1,o2,ol⟩:=cells3 hz0
 have f0:=blk_free hz0 0;have f1:=blk_free hz0 1;have f2:=blk_free hz0 2
 have e0:=blk_same hz0 0 (.slice none 0 0) rfl;have e1:=blk_same hz0 1 (.slice none 0 0) rfl;have e2:=blk_same hz0 2 (.slice none 0 0) rfl
 obtain ⟨Hb0,Hs0,Hz0,HX0,HX1,HX2⟩:=hid6 hb0 hs0 hz0 e0 e1 e2
 clear hb0 hs0 hz0 e0 e1 e2
 go_enter Tryz.func10,Tryz.ntmps10
 go_wp2
 rw [HX0.out,HX1.out,HX2.out]
 refine bodyPost_ret (v:=.tuple #[.agg #[.slice none 0 0,.slice none 0 0,.slice none 0 0],.int .i64 9]) (by unfold results;try go_simp) rfl ?_
 exact ⟨rfl,Hb0.out⟩
theorem parseRZ_bad {t : Bs} {n : Int} (h : parseRE t = n) (hn : n ≠ 0:=by decide) : parseRZ t = ([],[],[]):=by unfold parseRZ;rw [if_neg (by rw [h];exact hn)]
theorem parseRE_none {t : Bs} (ht : ¬ 6000 < t.length) (h : parseR t = none) : parseRE t = 9:=by unfold parseRE;rw [if_neg ht,h]
theorem parseRE_some {t : Bs} {s : St3} (ht : ¬ 6000 < t.length) (h : parseR t = some s) : parseRE t = if printE s.1 s.2.1 s.2.2 = 0 then 0 else 9:=by unfold parseRE;rw [if_neg ht,h]
theorem wordsR_cons (b : Bool) (n : List Int) (y : Bs) (ys : List Bs) : wordsR b n (y :: ys) =
  if (Lib.cut y [61]).2.2 = true ∧ wantsP b n = true then
   match numR (Lib.cut y [61]).1,numR (Lib.cut y [61]).2.1 with
   | some k,some v => if 0 ≤ k ∧ k ≤ 7 then wordsR b (n ++ [k,v]) ys else none
   | _,_ => none
  else match numR y with
   | some k => if b = true ∧ 2 ≤ n.length then none else wordsR b (n ++ [k]) ys
   | none => none:=by rw [wordsR];rfl
def KeyOk (b : Bool) (n : List Int) : Prop:=b = true → 2 ≤ n.length → n.length % 2 = 0 ∧ ∀ j,2 ≤ j → j % 2 = 0 → j < n.length → 0 ≤ n.getD j 0 ∧ n.getD j 0 ≤ 7
theorem keyOk_pair {b : Bool} {n : List Int} {k v : Int} (h : KeyOk b n) (h2 : 2 ≤ n.length) (hk : 0 ≤ k ∧ k ≤ 7) : KeyOk b (n ++ [k,v]):=fun hb hl => by
 obtain ⟨h1,h3⟩:=h hb h2
 rw [List.length_append]
 simp only [List.length_cons,List.length_nil]
 refine ⟨by omega,fun j hj he hlt => ?_⟩
 by_cases hjn : j < n.length
 ·have:=h3 j hj he hjn
  rw [List.getD_eq_getElem?_getD,List.getElem?_append_left hjn,← List.getD_eq_getElem?_getD]
  exact this
 ·have : j = n.length:=by omega
  subst this
  rw [List.getD_eq_getElem?_getD,List.getElem?_append_right (Nat.le_refl _)]
  simpa using hk
theorem app_int2 {w : World} {ops : Array Oper} {rest : List Oper} {o : Oper} {a : Act} {Q : Exit → Act → World → Prop} (hgd : o.guard = none) (s x : Operand)
  (ho : o.op = .call { callee:=.builtin .append,args:=#[s,x],argTypes:=#[22,22] }) (base : Nat) (v : Value) (l : List Int) (y z : Int) (ad : Addr) (c : Nat)
  (hs : a.eval s = v) (hown : w.ownsRow base 3 1 v l.length (ints l)) (hx : a.eval x = .slice (some ad) 2 c) (hc : w.cell? ad = some (.int .i64 y)) (hc2 : w.cell? (ad.add 1) = some (.int .i64 z))
  (hlen : l.length < 8796093022208) (hbase : base ≤ w.heap.size)
  (h : ∀ v' w',w'.ownsRow base 3 1 v' (l ++ [y,z]).length (ints (l ++ [y,z])) → Below base w w' → wpList Tryz.prog ops Q rest (a.put o.dst v') w') : wpList Tryz.prog ops Q (o :: rest) a w:=by
 obtain ⟨i0,hi,hz0,hz1,hz2⟩:=info_parts info_int
 refine wpList_append_own w hgd s x 22 ho base 3 i0 (.int .i64 0) 1 8 Tryz.underlying22 hi hz0 hz1 hz2 rfl (by decide) v l.length (ints l) hs hown ad 2 c [.int .i64 y,.int .i64 z] hx rfl ?_ ?_ (by unfold maxLen;omega) (by omega) hbase ?_
 ·intro j u hu
  match j,hu with
  | 0,hu => simp at hu;subst hu;exact hc
  | 1,hu => simp at hu;subst hu;exact hc2
  | j + 2,hu => simp at hu
 ·intro u hu;simp at hu;rcases hu with rfl | rfl <;> rfl
 ·intro v' w' h1 h2 _
  refine h v' w' (by simpa [ints] using h1) ((Below.refl base w).grown h2 hbase (own_ge hown))
theorem lineW_some (i0 : Bool) (s : St3) (h : Option Bs) (n : List Int) : lineW i0 s h (some n) =
  if i0 = true ∧ h = some wGens then some (n,s.2)
  else if i0 = false ∧ h = some wRow ∧ 2 ≤ n.length ∧ s.2.2 = [] then (rowK (zeroRw (n.getD 0 0,n.getD 1 0)) (n.drop 2)).map fun r => (s.1,s.2.1 ++ [r],s.2.2)
  else if i0 = false ∧ h = some wBond ∧ n.length = 4 then some (s.1,s.2.1,s.2.2 ++ [((n.getD 0 0,n.getD 1 0),(n.getD 2 0,n.getD 3 0))])
  else none:=rfl
theorem lineW_zero {st : St3} {wd : Bs} {n : List Int} (h : wd ≠ wGens) : lineW (decide (0 = 0)) st (some wd) (some n) = none:=by
 rw [lineW_some]
 simp only [decide_true]
 rw [if_neg (fun e => h (Option.some.inj e.2)),if_neg (fun e => absurd e.1 (by decide)),if_neg (fun e => absurd e.1 (by decide))]
theorem lineW_row {st : St3} {n : List Int} (h2 : 2 ≤ n.length) (h : st.2.2 = []) : lineW false st (some wRow) (some n) = (rowK (zeroRw (n.getD 0 0,n.getD 1 0)) (n.drop 2)).map fun r => (st.1,st.2.1 ++ [r],st.2.2):=by
 rw [lineW_some]
 rw [if_neg (fun e => absurd e.1 (by decide)),if_pos ⟨rfl,rfl,h2,h⟩]
theorem rowK_two {r : Rw} {n : List Int} {j : Nat} (h : j + 1 < n.length) : rowK r (n.drop j) = if hasK r.2.1 (n.getD j 0).toNat = true ∨ pw (n.getD j 0).toNat ≤ r.2.1 then none else rowK (putR r (n.getD j 0).toNat (n.getD (j + 1) 0)) (n.drop (j + 2)):=by
 have e0 : n.getD j 0 = n[j]:=by rw [List.getD_eq_getElem?_getD,List.getElem?_eq_getElem (by omega)];rfl
 have e1 : n.getD (j + 1) 0 = n[j + 1]:=by rw [List.getD_eq_getElem?_getD,List.getElem?_eq_getElem h];rfl
 rw [List.drop_eq_getElem_cons (by omega : j < n.length),List.drop_eq_getElem_cons h,rowK,e0,e1]
theorem pw_nat8 {j : Nat} (h : j < 8) : 1 ≤ pw j ∧ pw j ≤ 128:=by
 have : j = 0 ∨ j = 1 ∨ j = 2 ∨ j = 3 ∨ j = 4 ∨ j = 5 ∨ j = 6 ∨ j = 7:=by omega
 rcases this with rfl | rfl | rfl | rfl | rfl | rfl | rfl | rfl <;> decide
theorem lineW_row_bonds {st : St3} {n : List Int} (h : st.2.2 ≠ []) : lineW false st (some wRow) (some n) = none:=by
 rw [lineW_some]
 rw [if_neg (fun e => absurd e.1 (by decide)),if_neg (fun e => h e.2.2.2),if_neg (fun e => absurd e.2.1 (by decide))]
theorem lineW_row_short {st : St3} {n : List Int} (h : ¬ 2 ≤ n.length) : lineW false st (some wRow) (some n) = none:=by
 rw [lineW_some]
 rw [if_neg (fun e => absurd e.1 (by decide)),if_neg (fun e => h e.2.2.1),if_neg (fun e => absurd e.2.1 (by decide))]
theorem lineW_bond_not {st : St3} {n : List Int} (h : n.length ≠ 4) : lineW false st (some wBond) (some n) = none:=by
 rw [lineW_some]
 rw [if_neg (fun e => absurd e.1 (by decide)),if_neg (fun e => absurd e.2.1 (by decide)),if_neg (fun e => h e.2.2)]
theorem lineW_other {st : St3} {wd : Bs} {n : List Int} (hr : wd ≠ wRow) (hb : wd ≠ wBond) : lineW false st (some wd) (some n) = none:=by
 rw [lineW_some]
 rw [if_neg (fun e => absurd e.1 (by decide)),if_neg (fun e => hr (Option.some.inj e.2.1)),if_neg (fun e => hb (Option.some.inj e.2.1))]
structure RpJ (w w0 : World) (lb : Nat) (xs : List Bs) (k : Nat) (st : St3) (W : World) : Prop where
 pa : ∃ v1 v2 v3,PaB w0 w.heap.size st v1 v2 v3 W ∧ (st.2.2 = [] → v3 = .slice none 0 0)
 lines : W.heap[lb]? = some (.cells (xs.map str).toArray 9 (0,0))
 l1 : st.1.length ≤ 20000
 l2 : st.2.1.length ≤ k
 l3 : st.2.2.length ≤ k
theorem splc_len (c : UInt8) : ∀ (l z : Bs),z ∈ spl c l → z.length ≤ l.length
 | [],z,h => by simp [spl] at h;simp [h]
 | b :: l,z,h => by
  have ih:=splc_len c l
  obtain ⟨y,r,e⟩:=spl_ne c l
  rw [e] at ih
  rw [spl] at h
  split at h
  ·rcases List.mem_cons.1 h with rfl | h
   ·simp
   ·rw [e] at h
    have:=ih z h
    simp only [List.length_cons];omega
  ·rw [e] at h
   rcases List.mem_cons.1 h with rfl | h
   ·have:=ih y (by simp)
    simp only [List.headD_cons,List.length_cons];omega
   ·have:=ih z (by simp only [List.tail_cons] at h;simp [h])
    simp only [List.length_cons];omega
theorem splc_count (c : UInt8) : ∀ l : Bs,(spl c l).length ≤ l.length + 1
 | [] => by simp [spl]
 | b :: l => by
  have ih:=splc_count c l
  obtain ⟨y,r,e⟩:=spl_ne c l
  rw [e] at ih
  rw [spl,e]
  split
  ·simp only [List.length_cons] at *;omega
  ·simp only [List.tail_cons,List.length_cons] at *;omega
theorem suf_ten {t : Bs} (h : Lib.hasSuffix t [10] = true) : ∃ u,t = u ++ [10]:=by
 unfold Lib.hasSuffix at h
 obtain ⟨u,hu⟩:=List.isSuffixOf_iff_suffix.1 h
 exact ⟨u,hu.symm⟩
theorem ext_init (u : Bs) (c : UInt8) : (⟨(u ++ [c]).toArray⟩ : ByteArray).extract 0 u.length = ⟨u.toArray⟩:=by
 apply ByteArray.ext
 simp [ByteArray.data_extract]
structure Gap (p : Prop) : Prop where
 out : p
structure Fr (C : Prop) where
 (G0 G1 : Prop)
 f : Gap G0 → Gap G1 → C
set_option maxRecDepth 100000 in
set_option maxHeartbeats 80000000 in
noncomputable def fr : Fr (∀ (w : World) (u : Bs),LaidV w → (u ++ [10]).length ≤ 9223372036854775807 → ¬ 6000 < (u ++ [10]).length → Calls Tryz.prog 5 #[str (u ++ [10])] w (ParsedPost (parseRZ (u ++ [10])) (parseRE (u ++ [10])) w)):=by
 apply Fr.mk
 case f =>
  intro A0 A1 w u hLv htl hlen
  obtain ⟨w0,hw0,hb0,hz0,hs0⟩:=box1 w (.cells #[.slice none 0 0,.slice none 0 0,.slice none 0 0] 26)
  have f0:=blk_free hz0 0;have f1:=blk_free hz0 1;have f2:=blk_free hz0 2
  obtain ⟨o0,o1,o2,ol⟩:=cells3 hz0
  have hL0:=hLv.below hb0
  have hli : ¬ (6000 : Int) < ((u ++ [10]).length : Int):=by omega
  have HSf:=Lib.hid (fun V => hasSuf_any (u ++ [10]) [10] V htl)
  have hsf : Lib.hasSuffix (u ++ [10]) [10] = true:=by unfold Lib.hasSuffix;simp
  have hpR : parseR (u ++ [10]) = linesR true ([],[],[]) (spl 10 u):=by
   unfold parseR
   rw [if_pos hsf]
   simp
  have hul : u.length ≤ 6000:=by simp at hlen;omega
  have hli' : ¬ (6000 : Int) < (u.length : Int) + 1:=by simp at hlen;omega
  rw [hsf] at HSf
  have hext : (⟨(u ++ [10]).toArray⟩ : ByteArray).extract 0 u.length = ⟨u.toArray⟩:=ext_init u 10
  obtain ⟨Hb0,HLv,Hs0,Hz0,HL0,HpR,Hsf,HLen⟩:=hid8 hb0 hLv hs0 hz0 hL0 hpR hsf hlen
  clear hb0 hLv hs0 hz0 hL0 hpR hsf hlen
  go_enter Tryz.func5,Tryz.ntmps5
  unfold str at *
  go_wp2_with fail
  refine (HSf.out _).mono ?_
  rintro e w1 ⟨rfl,hw⟩
  obtain rfl : w0 = w1:=hw.symm
  clear hw0
  go_wp2_with fail
  obtain ⟨w1,hw1,hb1,hz1,hs1⟩:=box1 w0 (.cells #[.slice none 0 0,.slice none 0 0,.slice none 0 0] 26)
  have hJ0 : PaB w0 w.heap.size ([],[],[]) (.slice none 0 0) (.slice none 0 0) (.slice none 0 0) w1:=⟨hz1,⟨rfl,.inl ⟨rfl,rfl⟩⟩,⟨rfl,.inl ⟨rfl,rfl⟩⟩,⟨rfl,.inl ⟨rfl,rfl⟩⟩,by simp [Value.ownBlock],by simp [Value.ownBlock],by simp [Value.ownBlock],hb1⟩
  have HSp:=Lib.hid (split_any u 10 (HL0.out.below hb1) (by omega))
  rw [hw1]
  unfold str at HSp
  refine HSp.out.mono ?_
  rintro e W2 ⟨rfl,hW2⟩
  have hb2 : Below w1.heap.size w1 W2:=by rw [hW2];exact (Below.refl _ w1).alloc (Nat.le_refl _) _
  have hbk2 : W2.heap[w1.heap.size]? = some (.cells ((spl 10 u).map str).toArray 9 (0,0)):=by rw [hW2];exact heap_alloc_new w1 _
  have hJ2:=hJ0.new hb2
  have hxl : ∀ z ∈ spl 10 u,z.length ≤ 6000:=fun z hz => by have:=splc_len 10 u z hz;omega
  have hxn : (spl 10 u).length ≤ 6001:=by have:=splc_count 10 u;omega
  generalize hxs : spl 10 u = xs at *
  have hRJ : RpJ w w0 w1.heap.size xs 0 ([],[],[]) W2:=⟨⟨_,_,_,hJ2,fun _ => rfl⟩,hbk2,by simp,by simp,by simp⟩
  have hw1s : w0.heap.size < w1.heap.size:=by omega
  clear hW2 hw1 HSp HSf hext hb1 hz1 hs1 hJ0 hb2 hbk2 hJ2 o0 o1 o2 ol f0 f1 f2 hli'
  have hpR2:=HpR.out
  obtain ⟨Hxl,HRJ,HpR2,Hw1⟩:=hid4 hxl hRJ hpR2 hw1s
  clear hxl hRJ hpR2 hw1s
  go_wp2
  go_loopw [43] (fun i wr => ∃ (k : Nat) (st : St3),k ≤ xs.length ∧ i = .int .i64 k ∧ linesR true ([],[],[]) xs = linesR (decide (k = 0)) st (xs.drop k) ∧ RpJ w w0 w1.heap.size xs k st wr) (fun i wr => xs.length - (Go.RowKit.intOf i).toNat)
  case atStart => exact ⟨0,_,by omega,rfl,rfl,HRJ.out⟩
  case round =>
   obtain ⟨k,st,hk,rfl,hlin,hR⟩:=hrel
   by_cases hlt : k < xs.length
   case neg =>
    obtain rfl : k = xs.length:=by omega
    rw [List.drop_length,linesR] at hlin
    have hps : parseR (u ++ [10]) = some st:=by rw [HpR2.out,hlin]
    have hE:=parseRE_some HLen.out hps
    obtain ⟨v1,v2,v3,hP,-⟩:=hR.pa
    have hl1:=hR.l1;have hl2:=hR.l2;have hl3:=hR.l3
    obtain ⟨A1,c1,rfl,hc1,hL1⟩:=row_lies hP.r1
    obtain ⟨A2,c2,rfl,hc2,hL2⟩:=row_lies hP.r2
    obtain ⟨A3,c3,rfl,hc3,hL3⟩:=row_lies hP.r3
    have hq:=hP.box
    obtain ⟨o0,o1,o2,ol⟩:=cells3 hq
    have hB:=hP.below
    have hBw:=Hb0.out.trans (hB.mono Hb0.out.size)
    have hzw:=(Mod.ofBelow hB).keep Hz0.out (by simp)
    have HPr:=Lib.hid (rprint_any (c1:=c1) (c2:=c2) (c3:=c3) (w:=wr) (by omega) (by omega) (by omega) hL1 hL2 hL3)
    generalize hpe : printE st.1 st.2.1 st.2.2 = pe at *
    generalize printS st.1 st.2.1 st.2.2 = ps at *
    unfold str at HPr
    obtain ⟨Hlin,Hps,HE,HP,HL1,HL2,HL3,Hq,HB,HBw,Hzw,HR,Hc1,Hc2,Hc3,Hpe⟩:=hid16 hlin hps hE hP hL1 hL2 hL3 hq hB hBw hzw hR hc1 hc2 hc3 hpe
    clear hlin hps hE hP hL1 hL2 hL3 hq hB hBw hzw hR hc1 hc2 hc3 hpe
    go_wp2_with fail
    refine HPr.out.mono ?_
    rintro e wp ⟨rfl,hbp⟩
    have hP2:=HP.out.new hbp
    have hzp:=(Mod.ofBelow hbp).keep Hzw.out (by simp)
    have hbwp:=HBw.out.trans (hbp.mono HBw.out.size)
    clear o0 o1 o2 ol HPr
    have hq2:=hP2.box
    have hE2:=HE.out
    obtain ⟨Hbp,HP2,Hzp,Hbwp⟩:=hid4 hbp hP2 hzp hbwp
    clear hbp hP2 hzp hbwp
    by_cases hpe0 : pe = 0
    ·subst hpe0
     rw [if_pos rfl] at hE2
     have hZ : parseRZ (u ++ [10]) = st:=by unfold parseRZ;rw [if_pos hE2,Hps.out];rfl
     obtain ⟨o0,o1,o2,ol⟩:=cells3 hq2
     obtain ⟨p0,p1,p2,pl⟩:=cells3 Hzp.out
     have g0:=blk_free Hzp.out 0;have g1:=blk_free Hzp.out 1;have g2:=blk_free Hzp.out 2
     rw [hE2,hZ]
     obtain ⟨HE2,HZ,Hq2⟩:=hid3 hE2 hZ hq2
     clear hE2 hZ hq2
     go_wp2_with fail
     refine bodyPost_ret (v:=.tuple #[.agg #[.slice A1 st.1.length c1,.slice A2 st.2.1.length c2,.slice A3 st.2.2.length c3],.int .i64 0]) (by unfold results;try go_simp) rfl ?_
     rw [HE2.out,HZ.out]
     have hMF:=((((Mod.refl [w.heap.size] wp).setCell (p:=⟨w.heap.size,0,none⟩) (.inl (by simp)) (.slice A1 st.1.length c1)).setCell (p:=⟨w.heap.size,1,none⟩) (.inl (by simp)) (.slice A2 st.2.1.length c2)).setCell (p:=⟨w.heap.size,2,none⟩) (.inl (by simp)) (.slice A3 st.2.2.length c3))
     have hd : ∀ {E z n c : Nat} {A : Option Addr} {xs : List Value},wp.ownsRow w0.heap.size E z (.slice A n c) n xs → ∀ k,(Value.slice A n c).ownBlock = some k → k ∉ [w.heap.size]:=fun h k hk e => by
      have:=own_ge h k hk
      have:=blk_lt Hz0.out
      simp at e;omega
     have hL : ∀ {E z n c : Nat} {A : Option Addr} {xs : List Value} {W : World},W.ownsRow w0.heap.size E z (.slice A n c) n xs → Lies W W.heap.size A xs:=fun h => by
      obtain ⟨A',c',e,_,h2⟩:=row_lies h
      cases e;exact h2
     exact ⟨A1,c1,A2,c2,A3,c3,rfl,hL (row_mod HP2.out.r1 hMF (hd HP2.out.r1)),hL (row_mod HP2.out.r2 hMF (hd HP2.out.r2)),hL (row_mod HP2.out.r3 hMF (hd HP2.out.r3)),Hbwp.out.trans (hMF.toBelow (by simp) Hbwp.out.size)⟩
    ·rw [if_neg hpe0] at hE2
     have hx2 : (pe != 0) = true:=by simpa using hpe0
     have hx3 : (pe == 0) = false:=by simpa using hpe0
     have HE9:=Lib.hid hE2
     clear hE2 hq2
     have f0:=blk_free Hzp.out 0;have f1:=blk_free Hzp.out 1;have f2:=blk_free Hzp.out 2
     go_wp2_with fail
     refine (bad_any _).mono ?_
     rintro e wb ⟨rfl,hbb⟩
     have hzb:=(Mod.ofBelow hbb).keep Hzp.out (by simp)
     have hbw:=Hbwp.out.trans (hbb.mono Hbwp.out.size)
     obtain ⟨o0,o1,o2,ol⟩:=cells3 hzb
     have f0:=blk_free hzb 0;have f1:=blk_free hzb 1;have f2:=blk_free hzb 2
     have e0:=blk_same hzb 0 (.slice none 0 0) rfl;have e1:=blk_same hzb 1 (.slice none 0 0) rfl;have e2:=blk_same hzb 2 (.slice none 0 0) rfl
     obtain ⟨Hbb,Hzb,Hbw,HX0,HX1,HX2⟩:=hid6 hbb hzb hbw e0 e1 e2
     clear hbb hzb hbw e0 e1 e2
     go_wp2
     rw [HX0.out,HX1.out,HX2.out]
     refine bodyPost_ret (v:=.tuple #[.agg #[.slice none 0 0,.slice none 0 0,.slice none 0 0],.int .i64 9]) (by unfold results;try go_simp) rfl ?_
     rw [HE9.out,parseRZ_bad HE9.out]
     exact parsed_nil rfl Hbw.out
   case pos =>
    obtain ⟨v1,v2,v3,hP,hnil⟩:=hR.pa
    have hln:=hR.lines
    have e0:=blk_cell hln k
    rw [List.getElem?_toArray,List.getElem?_map,List.getElem?_eq_getElem hlt] at e0
    simp only [Option.map_some] at e0
    have el:=blk_lt hln
    rw [List.drop_eq_getElem_cons hlt,linesR] at hlin
    have hxlen:=Hxl.out _ (List.getElem_mem hlt)
    have hxn:=Hxl.out
    generalize xs[k] = x at *
    have hB:=hP.below
    have hBw:=Hb0.out.trans (hB.mono Hb0.out.size)
    have HS2:=Lib.hid (split_any x 32 (w:=wr) (HL0.out.below hB) (by omega))
    obtain ⟨wd,ws,hws⟩:=spl_ne 32 x
    have hline : lineR (decide (k = 0)) st x = lineW (decide (k = 0)) st (some wd) (wordsR (some wd == some wRow) [] ws):=by unfold lineR;rw [hws];rfl
    have hwl : ∀ z ∈ wd :: ws,z.length ≤ 6000:=fun z hz => by have:=spl_len x z (by rw [hws];exact hz);omega
    have hwn : ws.length ≤ 6000:=by have:=spl_count x;rw [hws] at this;simp at this;omega
    rw [hws] at HS2
    rw [hline] at hlin
    unfold str at e0 HS2
    simp only [List.length_cons] at HS2
    have hk6 : k ≤ 6001:=by omega
    obtain ⟨HP,Hnil,Hln,Hlin,Hxlen,Hxn,HB,HBw,HR,Hws,Hline,Hwl⟩:=hid12 hP hnil hln hlin hxlen hxn hB hBw hR hws hline hwl
    clear hP hnil hln hlin hxlen hxn hB hBw hR hws hline hwl
    go_wp2_with fail
    refine HS2.out.mono ?_
    rintro e W3 ⟨rfl,hW3⟩
    have hb3 : Below wr.heap.size wr W3:=by rw [hW3];exact (Below.refl _ wr).alloc (Nat.le_refl _) _
    have hbk3 : W3.heap[wr.heap.size]? = some (.cells ((wd :: ws).map str).toArray 9 (0,0)):=by rw [hW3];exact heap_alloc_new wr _
    clear hW3 HS2 e0 el
    have hLa : Lies W3 W3.heap.size (some ⟨wr.heap.size,0,none⟩) ((wd :: ws).map str):=fun i v hv => by
     refine ⟨_,rfl,blk_lt hbk3,?_⟩
     rw [Addr.add_mid,Nat.zero_add]
     exact (blk_cell hbk3 i).trans (by rw [List.getElem?_toArray];exact hv)
    obtain ⟨Aw,hcut1,hLw⟩:=strs_tail 1 (c:=(wd :: ws).length) hLa (by simp) (Nat.le_refl _)
    have hcut1 : ∀ W,(Instr.sliceAt 38 (.slice (some ⟨wr.heap.size,0,none⟩) (ws.length + 1) (ws.length + 1)) (some (.int .i64 1)) none none).run Tryz.prog W = .ok (.slice Aw ws.length ws.length) W:=hcut1
    have hLw : Lies W3 W3.heap.size Aw (ws.map str):=hLw
    have hn1 : (1 : Int) ≤ (ws.length : Int) + 1:=by omega
    have hn1' : 1 ≤ ws.length + 1:=by omega
    have hP3:=HP.out.new hb3
    obtain ⟨wo,hwo⟩ : ∃ wo,wo = wr:=⟨_,rfl⟩
    subst hwo
    generalize hisr : (some wd == some wRow) = isR at *
    have hB03:=HB.out.trans (hb3.mono HB.out.size)
    obtain ⟨Hb3,Hbk3,HLa,HLw,HP3,Hisr,HB03⟩:=hid7 hb3 hbk3 hLa hLw hP3 hisr hB03
    clear hb3 hbk3 hLa hLw hP3 hisr hB03
    go_wp2
    go_loopw [9,53] (fun v i wv => ∃ (j : Nat) (n : List Int),j ≤ ws.length ∧ i = .int .i64 j ∧ wordsR isR [] ws = wordsR isR n (ws.drop j) ∧ n.length ≤ 2 * j ∧ KeyOk isR n ∧ wv.ownsRow W3.heap.size 3 1 v n.length (ints n) ∧ Below W3.heap.size W3 wv) (fun v i wv => ws.length - (Go.RowKit.intOf i).toNat)
    case atStart => exact ⟨0,[],by omega,rfl,rfl,by simp,fun _ h => absurd h (by simp),⟨rfl,.inl ⟨rfl,rfl⟩⟩,Below.refl _ _⟩
    case round =>
     obtain ⟨j,n,hj,rfl,hwd,hnl,hKO,hown,hB5⟩:=hrel
     by_cases hlt2 : j < ws.length
     ·rename_i y14z y15z y26z y30z y31z y32z y33z y34z y35z y36z y37z y38z y39z y40z y53z y54z y55z y56z y57z y58z y59z y60z y61z y62z y63z y64z y65z y66z y67z y68z y69z y70z y71z y72z y73z y74z y75z y76z y77z y78z y79z y80z y81z y82z y83z y84z y85z y86z y87z y88z y89z y90z y91z y92z y93z y94z y95z y96z y97z y98z y99z y100z y101z y102z y103z y104z y105z y106z y107z y108z y109z y110z y111z y112z y113z y114z y115z y116z y117z y118z y119z y120z y121z y122z y123z y124z y125z y126z y127z y128z y129z y130z y131z y132z y133z y134z y135z y288z y289z y290z y302z y314z y315z
      revert w u htl w0 hul Hb0 HLv Hs0 Hz0 HL0 Hsf HLen hli hw y14z y15z w1 W2 xs hxs HpR hxn Hxl HRJ HpR2 Hw1 y26z u6 u7 u8 y30z y31z y32z y33z y34z y35z y36z y37z y38z y39z y40z u21 u22 u44 u45 u46 u47 u48 u49 u50 u51 u52 u53 y53z y54z y55z y56z y57z y58z y59z y60z y61z y62z y63z y64z y65z y66z y67z y68z y69z y70z y71z y72z y73z y74z y75z y76z y77z y78z y79z y80z y81z y82z y83z y84z y85z y86z y87z y88z y89z y90z y91z y92z y93z y94z y95z y96z y97z y98z y99z y100z y101z y102z y103z y104z y105z y106z y107z y108z y109z y110z y111z y112z y113z y114z y115z y116z y117z y118z y119z y120z y121z y122z y123z y124z y125z y126z y127z y128z y129z y130z y131z y132z y133z y134z y135z u137 u138 u139 u140 u141 u142 u143 u144 u145 u146 u147 u148 u149 u150 u151 u152 u153 u154 u155 u156 u157 u158 u159 u160 u161 u162 u163 u164 u165 u166 u167 u168 u169 u170 u171 u172 u173 u174 u175 u176 u177 u178 u179 u180 u181 u182 u183 u184 u185 u186 u187 u188 u189 u190 u191 u192 u193 u194 u195 u196 u197 u198 u199 u200 u201 u202 u203 u204 u205 u206 u207 u208 u209 u210 u211 u212 u213 u214 u215 u216 u217 u218 u219 u220 u221 u222 u223 u224 u225 u226 u227 u228 u229 u230 u231 u232 u233 u234 u235 u236 u237 u238 u239 u240 u241 u242 u243 u244 u245 u246 u247 u248 u249 u250 u251 u252 u253 u254 u255 u256 u257 u258 u259 u260 u261 u262 u263 u264 u265 u266 u267 u268 u269 u270 u271 k st hk hlt v1 v2 v3 x wd ws hwn hk6 Hnil Hxlen Hxn Hws Hwl y288z y289z y290z W3 Aw hLw hn1 hn1' wo HP Hln HB HBw HR y302z hcut1 isR Hlin Hline Hb3 Hbk3 HLa HLw HP3 Hisr HB03 y314z y315z wr u3 u9 u11 u12 u13 u14 u15 u16 u17 u18 u19 u20 u54 u55 u56 u57 u58 u59 u60 u61 u62 u63 u64 u65 u66 u67 u68 u69 u70 u71 u72 u73 u74 u75 u76 u77 u78 u79 u80 u81 u82 u83 u84 u85 u86 u87 u88 u89 u90 u91 u92 u93 u94 u95 u96 u97 u98 u99 u100 u101 u102 u103 u104 u105 u106 u107 u108 u109 u110 u111 u112 u113 u114 u115 u116 u117 u118 u119 u120 u121 u122 u123 u124 u125 u126 u127 u128 u129 u130 u131 u132 u133 u134 u135 u136 j n hj hwd hnl hKO hown hB5 hlt2
      exact A0.out
     ·rename_i y14z y15z y26z y30z y31z y32z y33z y34z y35z y36z y37z y38z y39z y40z y53z y54z y55z y56z y57z y58z y59z y60z y61z y62z y63z y64z y65z y66z y67z y68z y69z y70z y71z y72z y73z y74z y75z y76z y77z y78z y79z y80z y81z y82z y83z y84z y85z y86z y87z y88z y89z y90z y91z y92z y93z y94z y95z y96z y97z y98z y99z y100z y101z y102z y103z y104z y105z y106z y107z y108z y109z y110z y111z y112z y113z y114z y115z y116z y117z y118z y119z y120z y121z y122z y123z y124z y125z y126z y127z y128z y129z y130z y131z y132z y133z y134z y135z y288z y289z y290z y302z y314z y315z
      revert w u htl w0 hul Hb0 HLv Hs0 Hz0 HL0 Hsf HLen hli hw y14z y15z w1 W2 xs hxs HpR hxn Hxl HRJ HpR2 Hw1 y26z u6 u7 u8 y30z y31z y32z y33z y34z y35z y36z y37z y38z y39z y40z u21 u22 u44 u45 u46 u47 u48 u49 u50 u51 u52 u53 y53z y54z y55z y56z y57z y58z y59z y60z y61z y62z y63z y64z y65z y66z y67z y68z y69z y70z y71z y72z y73z y74z y75z y76z y77z y78z y79z y80z y81z y82z y83z y84z y85z y86z y87z y88z y89z y90z y91z y92z y93z y94z y95z y96z y97z y98z y99z y100z y101z y102z y103z y104z y105z y106z y107z y108z y109z y110z y111z y112z y113z y114z y115z y116z y117z y118z y119z y120z y121z y122z y123z y124z y125z y126z y127z y128z y129z y130z y131z y132z y133z y134z y135z u137 u138 u139 u140 u141 u142 u143 u144 u145 u146 u147 u148 u149 u150 u151 u152 u153 u154 u155 u156 u157 u158 u159 u160 u161 u162 u163 u164 u165 u166 u167 u168 u169 u170 u171 u172 u173 u174 u175 u176 u177 u178 u179 u180 u181 u182 u183 u184 u185 u186 u187 u188 u189 u190 u191 u192 u193 u194 u195 u196 u197 u198 u199 u200 u201 u202 u203 u204 u205 u206 u207 u208 u209 u210 u211 u212 u213 u214 u215 u216 u217 u218 u219 u220 u221 u222 u223 u224 u225 u226 u227 u228 u229 u230 u231 u232 u233 u234 u235 u236 u237 u238 u239 u240 u241 u242 u243 u244 u245 u246 u247 u248 u249 u250 u251 u252 u253 u254 u255 u256 u257 u258 u259 u260 u261 u262 u263 u264 u265 u266 u267 u268 u269 u270 u271 k st hk hlt v1 v2 v3 x wd ws hwn hk6 Hnil Hxlen Hxn Hws Hwl y288z y289z y290z W3 Aw hLw hn1 hn1' wo HP Hln HB HBw HR y302z hcut1 isR Hlin Hline Hb3 Hbk3 HLa HLw HP3 Hisr HB03 y314z y315z wr u3 u9 u11 u12 u13 u14 u15 u16 u17 u18 u19 u20 u54 u55 u56 u57 u58 u59 u60 u61 u62 u63 u64 u65 u66 u67 u68 u69 u70 u71 u72 u73 u74 u75 u76 u77 u78 u79 u80 u81 u82 u83 u84 u85 u86 u87 u88 u89 u90 u91 u92 u93 u94 u95 u96 u97 u98 u99 u100 u101 u102 u103 u104 u105 u106 u107 u108 u109 u110 u111 u112 u113 u114 u115 u116 u117 u118 u119 u120 u121 u122 u123 u124 u125 u126 u127 u128 u129 u130 u131 u132 u133 u134 u135 u136 j n hj hwd hnl hKO hown hB5 hlt2
      exact A1.out
end Go.Proofs.YtoheblfpjinmnaaGreatDoor
