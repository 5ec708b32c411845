import Derived.Test.YtoheblfpjinmnaaGreatDoorTextParsesJ21
import Derived.Test.YtoheblfpjinmnaaGreatDoorTextParsesJ24
import Derived.Laws.IdiomStrings
set_option linter.unusedVariables false
set_option linter.unusedSimpArgs false
/- A part of the proof that TextParses returns true. -/
namespace Go.Proofs.YtoheblfpjinmnaaGreatDoor
open Go Go.RowKit Go.Shelf
attribute [local go_sem] AllFrom.cons_eq AllFrom.nil_eq putF_nil putF_cons wantedL_none wantedL_some OpGoalT OpGoalV OpGoalQ OpGoalA OpGoalK YieldsR preF_nil preF_cons ByteArray.mk_append_mk
theorem numInR (l : Bs) : InR (num0 l):=num0_bounds l
theorem stepW_in (s : St3) (l : List Bs) (N : Nat) (hl : l.length ≤ N + 1) (h : s.1.length ≤ N ∧ (∀ n ∈ s.1,InR n) ∧ ∀ b ∈ s.2.2,HdR b.1 ∧ HdR b.2) : (stepW s l).1.length ≤ N ∧ (∀ n ∈ (stepW s l).1,InR n) ∧ ∀ b ∈ (stepW s l).2.2,HdR b.1 ∧ HdR b.2:=by
 have hd : ∀ k,k < ((l.drop 1).map num0).length → InR (((l.drop 1).map num0).getD k 0):=fun k hk => by
  rw [List.getD_eq_getElem?_getD,List.getElem?_eq_getElem hk,List.getElem_map];exact numInR _
 unfold stepW
 split
 ·refine ⟨by rw [List.length_map,List.length_drop];omega,fun n hn => ?_,h.2.2⟩
  obtain ⟨x,-,rfl⟩:=List.mem_map.1 hn
  exact numInR x
 ·split
  ·exact h
  ·split
   ·next hb =>
    refine ⟨h.1,h.2.1,fun b hb' => ?_⟩
    rcases List.mem_append.1 hb' with hb' | hb'
    ·exact h.2.2 b hb'
    ·rw [List.mem_singleton] at hb'
     subst hb'
     have hlen : ((l.drop 1).map num0).length = 4:=by rw [List.length_map];exact hb.2
     exact ⟨⟨hd 0 (by omega),hd 1 (by omega)⟩,hd 2 (by omega),hd 3 (by omega)⟩
   ·exact h
theorem steps_in (N : Nat) : ∀ (l : List Bs) (s : St3),(∀ x ∈ l,x.length ≤ N) → (s.1.length ≤ N ∧ (∀ n ∈ s.1,InR n) ∧ ∀ b ∈ s.2.2,HdR b.1 ∧ HdR b.2) → (l.foldl stepX s).1.length ≤ N ∧ (∀ n ∈ (l.foldl stepX s).1,InR n) ∧ ∀ b ∈ (l.foldl stepX s).2.2,HdR b.1 ∧ HdR b.2
 | [],s,_,h => h
 | x :: l,s,hx,h => by
  rw [List.foldl_cons]
  refine steps_in N l _ (fun y hy => hx y (by simp [hy])) ?_
  refine stepW_in s _ N ?_ h
  have h1:=spl_count (Lib.trimSuffix x [10])
  have h2 : (Lib.trimSuffix x [10]).length ≤ x.length:=by unfold Lib.trimSuffix;split <;> (first | (rw [List.length_take];omega) | omega)
  have h3:=hx x (by simp)
  omega
theorem parseX_in (t : Bs) : ((parseX t).1.length ≤ t.length ∧ (parseX t).2.1.length ≤ t.length ∧ (parseX t).2.2.length ≤ t.length) ∧ (∀ n ∈ (parseX t).1,InR n) ∧ ∀ b ∈ (parseX t).2.2,HdR b.1 ∧ HdR b.2:=by
 have h:=steps_in t.length (lns t) ([],[],[]) (fun x hx => by
  obtain ⟨p,q,e⟩:=List.append_of_mem hx
  exact (lns_len e).1) ⟨by simp,by simp,by simp⟩
 have hl:=steps_len (lns t) ([],[],[])
 have hn : (lns t).length ≤ t.length:=by
  cases hc : lns t with
  | nil => simp
  | cons x l =>
   obtain ⟨p,z,e⟩ : ∃ p z,lns t = p ++ [z]:=⟨(lns t).dropLast,(lns t).getLast (by rw [hc];simp),(List.dropLast_concat_getLast _).symm⟩
   have:=(lns_len e).2
   have e2:=congrArg List.length e
   rw [List.length_append] at e2
   rw [← hc]
   simp only [List.length_cons,List.length_nil] at e2
   omega
 refine ⟨⟨h.1,?_,?_⟩,h.2⟩
 ·have:=hl.1;unfold parseX;simp only [List.length_nil] at this;omega
 ·have:=hl.2;unfold parseX;simp only [List.length_nil] at this;omega
def ParsedPost (z : St3) (x : Int) (w : World) (e : Ending) (w' : World) : Prop :=
 ∃ A1 c1 A2 c2 A3 c3,e = .returned (.tuple #[.agg #[.slice A1 z.1.length c1,.slice A2 z.2.1.length c2,.slice A3 z.2.2.length c3],.int .i64 x]) ∧ Lies w' w'.heap.size A1 (ints z.1) ∧ Lies w' w'.heap.size A2 (z.2.1.flatMap rwC) ∧ Lies w' w'.heap.size A3 (z.2.2.flatMap bdC) ∧ Below w.heap.size w w'
theorem parsed_nil {w w' : World} {x : Int} {e : Ending} (he : e = .returned (.tuple #[.agg #[.slice none 0 0,.slice none 0 0,.slice none 0 0],.int .i64 x])) (hb : Below w.heap.size w w') : ParsedPost ([],[],[]) x w e w' :=
 ⟨none,0,none,0,none,0,he,Lies.nil _ _ _,Lies.nil _ _ _,Lies.nil _ _ _,hb⟩
set_option maxRecDepth 20000 in
set_option maxHeartbeats 1000000 in
theorem clip_any (A : Option Addr) (n c : Nat) (hn : n ≤ c) (hc : c ≤ 9223372036854775807) (w : World) : Calls Tryz.prog 9 #[.slice A n c] w fun e w' => ∃ c',e = .returned (.slice A n c') ∧ w' = w:=by
 go_enter Tryz.func9,Tryz.ntmps9
 go_wp2
 go_ret
 exact ⟨n,rfl,rfl⟩
set_option maxRecDepth 100000 in
set_option maxHeartbeats 8000000 in
theorem parsep_any {w : World} {t : Bs} (hLv : LaidV w) (htl : t.length ≤ 9223372036854775807) : Calls Tryz.prog 4 #[str t] w (ParsedPost (parseZ t) (parseE t) w):=by
 have hN:=parseX_in t
 obtain ⟨w0,hw0,hb0,hz0,hs0⟩:=box1 w (.cells #[.slice none 0 0,.slice none 0 0,.slice none 0 0] 26)
 by_cases hlen : 6000 < t.length
 ·have hE : parseE t = 2:=by unfold parseE;rw [if_pos hlen]
  have hZ : parseZ t = ([],[],[]):=by unfold parseZ;rw [hE];rfl
  rw [hE,hZ]
  have hli : (6000 : Int) < (t.length : Int):=by omega
  have htb : ¬ (9223372036854775807 : Int) < (t.length : Int):=by omega
  obtain ⟨o0,o1,o2,ol⟩:=cells3 hz0
  have f0:=blk_free hz0 0;have f1:=blk_free hz0 1;have f2:=blk_free hz0 2
  have e0:=blk_same hz0 0 (.slice none 0 0) rfl;have e1:=blk_same hz0 1 (.slice none 0 0) rfl;have e2:=blk_same hz0 2 (.slice none 0 0) rfl
  obtain ⟨Hb0,HN,HLv,HE,HZ,Hs0,Hz0,HE0,HE1,HE2⟩:=hid10 hb0 hN hLv hE hZ hs0 hz0 e0 e1 e2
  clear hb0 hN hLv hE hZ hs0 hz0 e0 e1 e2
  go_enter Tryz.func4,Tryz.ntmps4
  unfold str at *
  go_wp2
  rw [HE0.out,HE1.out,HE2.out]
  refine bodyPost_ret (v:=.tuple #[.agg #[.slice none 0 0,.slice none 0 0,.slice none 0 0],.int .i64 2]) (by unfold results;try go_simp) rfl ?_
  exact parsed_nil rfl Hb0.out
 ·have hsz:=hb0.size
  have hL0:=hLv.below hb0
  have H1:=Lib.hid (parse_any (t:=t) hL0 (by omega))
  have hli : ¬ (6000 : Int) < (t.length : Int):=by omega
  obtain ⟨o0,o1,o2,ol⟩:=cells3 hz0
  obtain ⟨Hb0,hlv,Hs0,Hz0,HL0⟩:=hid5 hb0 hLv hs0 hz0 hL0
  clear hb0 hLv hs0 hz0 hL0
  go_enter Tryz.func4,Tryz.ntmps4
  unfold str at *
  go_wp2_with fail
  refine H1.out.mono ?_
  rintro e w1 ⟨v1,v2,v3,rfl,hr1,hr2,hr3,hb1⟩
  obtain ⟨A1,c1,rfl,hc1,hL1⟩:=row_lies hr1
  obtain ⟨A2,c2,rfl,hc2,hL2⟩:=row_lies hr2
  obtain ⟨A3,c3,rfl,hc3,hL3⟩:=row_lies hr3
  have hc1m : c1 ≤ 9223372036854775807:=by
   obtain ⟨A,c,e,h1,h2⟩:=row_slice hr1
   cases e;unfold maxLen at h2;omega
  clear hw0 o0 o1 o2 ol
  have hb01:=Hb0.out.trans (hb1.mono Hb0.out.size)
  have hz1:=(Mod.ofBelow hb1).keep Hz0.out (by simp)
  obtain ⟨w2,hw2,hb2,hz2,hs2⟩:=box1 w1 (.cells #[.slice A1 (parseX t).1.length c1,.slice A2 (parseX t).2.1.length c2,.slice A3 (parseX t).2.2.length c3] 26)
  have hb02:=hb01.trans (hb2.mono hb01.size)
  have hz12:=(Mod.ofBelow hb2).keep hz1 (by simp)
  have hP1:=(hL1.below hb2).mono hb2.size;have hP2:=(hL2.below hb2).mono hb2.size;have hP3:=(hL3.below hb2).mono hb2.size
  have H2:=Lib.hid (print_any (c1:=c1) (c2:=c2) (c3:=c3) (hlv.out.below hb02) (by omega) (by omega) (by omega) hP1 hP2 hP3 hN.2.1 hN.2.2)
  have hEd : parseE t = if printE (parseX t).1 (parseX t).2.1 (parseX t).2.2 = 0 ∧ printX (parseX t).1 (parseX t).2.1 (parseX t).2.2 = t then 0 else 9:=by unfold parseE;rw [if_neg (by omega)]
  have hZd : parseZ t = if parseE t = 0 then parseX t else ([],[],[]):=rfl
  have hSd : printE (parseX t).1 (parseX t).2.1 (parseX t).2.2 = 0 → printS (parseX t).1 (parseX t).2.1 (parseX t).2.2 = printX (parseX t).1 (parseX t).2.1 (parseX t).2.2:=fun h => by unfold printS;rw [if_pos h]
  obtain ⟨o0,o1,o2,ol⟩:=cells3 hz12
  have f0:=blk_free hz12 0;have f1:=blk_free hz12 1;have f2:=blk_free hz12 2
  obtain ⟨p0,p1,p2,pl⟩:=cells3 hz2
  have g0:=blk_free hz2 0;have g1:=blk_free hz2 1;have g2:=blk_free hz2 2
  have HC1:=Lib.hid hc1;have Hr1:=Lib.hid hr1;have Hr2:=Lib.hid hr2;have Hr3:=Lib.hid hr3;have HL1:=Lib.hid hL1;have HL2:=Lib.hid hL2;have HL3:=Lib.hid hL3;have Hb1:=Lib.hid hb1;have Hb01:=Lib.hid hb01;have Hz1:=Lib.hid hz1;have Hb2:=Lib.hid hb2;have Hb02:=Lib.hid hb02;have Hz2:=Lib.hid hz2;have Hz12:=Lib.hid hz12;have HP1:=Lib.hid hP1;have HP2:=Lib.hid hP2;have HP3:=Lib.hid hP3;have Hs2:=Lib.hid hs2;have HEd:=Lib.hid hEd;have HZd:=Lib.hid hZd;have HSd:=Lib.hid hSd;have HN:=Lib.hid hN
  clear hc1 hr1 hr2 hr3 hL1 hL2 hL3 hb1 hb01 hz1 hb2 hb02 hz2 hz12 hP1 hP2 hP3 hs2 hEd hZd hSd hN
  go_wp2_with fail
  clear hw2
  unfold str at H2
  refine H2.out.mono ?_
  rintro e w3 ⟨rfl,hb3⟩
  have hb03:=Hb02.out.trans (hb3.mono Hb02.out.size)
  have hz13:=(Mod.ofBelow hb3).keep Hz12.out (by simp)
  have hz23:=(Mod.ofBelow hb3).keep Hz2.out (by simp)
  have hP1:=(HP1.out.below hb3).mono hb3.size;have hP2:=(HP2.out.below hb3).mono hb3.size;have hP3:=(HP3.out.below hb3).mono hb3.size
  clear o0 o1 o2 ol f0 f1 f2 p0 p1 p2 pl g0 g1 g2 H1 H2
  obtain ⟨o0,o1,o2,ol⟩:=cells3 hz13
  have f0:=blk_free hz13 0;have f1:=blk_free hz13 1;have f2:=blk_free hz13 2
  obtain ⟨p0,p1,p2,pl⟩:=cells3 hz23
  have g0:=blk_free hz23 0;have g1:=blk_free hz23 1;have g2:=blk_free hz23 2
  have hE1:=HEd.out;have hZ1:=HZd.out;have hS1:=HSd.out
  generalize printE (parseX t).1 (parseX t).2.1 (parseX t).2.2 = pe at *
  generalize printS (parseX t).1 (parseX t).2.1 (parseX t).2.2 = ps at *
  generalize printX (parseX t).1 (parseX t).2.1 (parseX t).2.2 = px at *
  generalize parseE t = E at *
  generalize parseZ t = Z at *
  generalize parseX t = X at *
  have hlt1:=blk_lt Hz1.out
  have hne1 : w.heap.size ≠ w1.heap.size:=by omega
  have hne2 : w1.heap.size ≠ w.heap.size:=by omega
  have hsz1:=Hb01.out.size;have hsz3:=Hb02.out.size
  have hM13 : Mod [w.heap.size] w1 w3:=(((Mod.refl [w.heap.size] w1).andBelow Hb2.out).andBelow hb3)
  obtain ⟨Hb3,Hb03,Hz13,Hz23,HP1,HP2,HP3,HM13⟩:=hid8 hb3 hb03 hz13 hz23 hP1 hP2 hP3 hM13
  clear hb3 hb03 hz13 hz23 hP1 hP2 hP3 hM13
  by_cases hpe : pe = 0
  ·subst hpe
   obtain rfl:=hS1 rfl
   by_cases hpx : ps = t
   ·subst hpx
    rw [if_pos ⟨rfl,rfl⟩] at hE1
    subst hE1
    rw [if_pos rfl] at hZ1
    subst hZ1
    go_wp2_with fail
    refine (clip_any _ _ _ HC1.out hc1m w3).mono ?_
    rintro e w4 ⟨c',rfl,hw4⟩
    subst hw4
    go_wp2_with fail
    refine bodyPost_ret (v:=.tuple #[.agg #[.slice A1 Z.1.length c',.slice A2 Z.2.1.length c2,.slice A3 Z.2.2.length c3],.int .i64 0]) (by unfold results;try go_simp) rfl ?_
    have hMF:=((((HM13.out.setCell (p:=⟨w1.heap.size,0,none⟩) (.inr (Nat.le_refl _)) (.slice A1 Z.1.length c')).setCell (p:=⟨w.heap.size,0,none⟩) (.inl (by simp)) (.slice A1 Z.1.length c')).setCell (p:=⟨w.heap.size,1,none⟩) (.inl (by simp)) (.slice A2 Z.2.1.length c2)).setCell (p:=⟨w.heap.size,2,none⟩) (.inl (by simp)) (.slice A3 Z.2.2.length c3))
    have hd : ∀ {E z n c : Nat} {A : Option Addr} {xs : List Value},w1.ownsRow w0.heap.size E z (.slice A n c) n xs → ∀ k,(Value.slice A n c).ownBlock = some k → k ∉ [w.heap.size]:=fun h k hk e => by
     have:=own_ge h k hk
     have:=blk_lt Hz0.out
     simp at e;omega
    have hL : ∀ {E z n c : Nat} {A : Option Addr} {xs : List Value} {W : World},W.ownsRow w0.heap.size E z (.slice A n c) n xs → Lies W W.heap.size A xs:=fun h => by
     obtain ⟨A',c',e,_,h2⟩:=row_lies h
     cases e;exact h2
    exact ⟨A1,c',A2,c2,A3,c3,rfl,hL (row_mod Hr1.out hMF (hd Hr1.out)),hL (row_mod Hr2.out hMF (hd Hr2.out)),hL (row_mod Hr3.out hMF (hd Hr3.out)),Hb01.out.trans (hMF.toBelow (by simp) (by omega))⟩
   ·rw [if_neg (fun e => hpx e.2)] at hE1
    subst hE1
    rw [if_neg (by decide)] at hZ1
    subst hZ1
    have hx1 : (ps == t) = false:=by simpa using hpx
    have hx2 : (ps != t) = true:=by simpa using hpx
    have e0:=blk_same Hz13.out 0 (.slice none 0 0) rfl;have e1:=blk_same Hz13.out 1 (.slice none 0 0) rfl;have e2:=blk_same Hz13.out 2 (.slice none 0 0) rfl
    obtain ⟨HE0,HE1,HE2⟩:=hid3 e0 e1 e2
    clear e0 e1 e2
    go_wp2
    rw [HE0.out,HE1.out,HE2.out]
    refine bodyPost_ret (v:=.tuple #[.agg #[.slice none 0 0,.slice none 0 0,.slice none 0 0],.int .i64 9]) (by unfold results;try go_simp) rfl ?_
    exact parsed_nil rfl Hb03.out
  ·rw [if_neg (fun e => hpe e.1)] at hE1
   subst hE1
   rw [if_neg (by decide)] at hZ1
   subst hZ1
   have hx2 : (pe != 0) = true:=by simpa using hpe
   have hx3 : (pe == 0) = false:=by simpa using hpe
   have e0:=blk_same Hz13.out 0 (.slice none 0 0) rfl;have e1:=blk_same Hz13.out 1 (.slice none 0 0) rfl;have e2:=blk_same Hz13.out 2 (.slice none 0 0) rfl
   obtain ⟨HE0,HE1,HE2⟩:=hid3 e0 e1 e2
   clear e0 e1 e2
   go_wp2
   rw [HE0.out,HE1.out,HE2.out]
   refine bodyPost_ret (v:=.tuple #[.agg #[.slice none 0 0,.slice none 0 0,.slice none 0 0],.int .i64 9]) (by unfold results;try go_simp) rfl ?_
   exact parsed_nil rfl Hb03.out
theorem parseE_nil : parseE [] = 9:=by
 rw [(parse_same []).1]
 unfold parseRE
 rw [if_neg (by simp),show parseR [] = none from if_neg (by decide)]
theorem parseZ_nil : parseZ [] = ([],[],[]):=by unfold parseZ;rw [parseE_nil];rfl
theorem guard_any {w : World} (hLv : LaidV w) : Calls Tryz.prog 4 #[.string ⟨#[]⟩] w fun e w' => ∃ A1 c1 A2 c2 A3 c3,e = .returned (.tuple #[.agg #[.slice A1 0 c1,.slice A2 0 c2,.slice A3 0 c3],.int .i64 9]) ∧ Below w.heap.size w w':=by
 refine (parsep_any (t:=[]) hLv (by simp)).mono ?_
 rintro e w' ⟨A1,c1,A2,c2,A3,c3,h,-,-,-,hb⟩
 rw [parseE_nil,parseZ_nil] at h
 exact ⟨A1,c1,A2,c2,A3,c3,h,hb⟩
end Go.Proofs.YtoheblfpjinmnaaGreatDoor
namespace Go.Proofs.YtoheblfpjinmnaaGreatDoor
open Go Go.RowKit
attribute [local go_sem] ByteArray.mk_append_mk
theorem itoa_neg {n : Int} (h : n < 0) : Lib.itoa n = 45 :: Lib.itoa (-n):=by
 unfold Lib.itoa
 rw [if_pos h,if_neg (by omega),show (-n).toNat = n.natAbs by omega]
theorem itoa_digit {n : Nat} (h : n < 10) : Lib.itoa (n : Int) = [UInt8.ofNat (48 + n)]:=by
 unfold Lib.itoa
 rw [if_neg (by omega),show (n : Int).toNat = n from rfl,Lib.decDigits_one h]
theorem itoa_cat {n : Nat} (h : ¬ n < 10) : Lib.itoa (n : Int) = Lib.itoa ((n / 10 : Nat) : Int) ++ Lib.itoa ((n % 10 : Nat) : Int):=by
 rw [itoa_digit (Nat.mod_lt _ (by omega))]
 unfold Lib.itoa
 rw [if_neg (by omega),if_neg (by omega),show ((n : Nat) : Int).toNat = n from rfl,show ((n / 10 : Nat) : Int).toNat = n / 10 from rfl]
 conv => { lhs;rw [Lib.decDigits] }
 rw [dif_neg h]
theorem byte_small {n : Nat} (h : n < 10) : IntKind.u8.wrap (48 + (n : Int)) = ((48 + n : Nat) : Int):=by
 simp [IntKind.wrap,IntKind.bits,IntKind.signed];omega
theorem itoa_small' {n : Int} (h : n.natAbs < 9000000000000000000) : (Lib.itoa n).length ≤ 21:=Lib.itoa_length_le n (by omega) (by omega)
def DigPost (n : Int) (w : World) (e : Ending) (w' : World) : Prop:=e = .returned (.string ⟨(Lib.itoa n).toArray⟩) ∧ Below w.heap.size w w'
set_option maxRecDepth 20000 in
set_option maxHeartbeats 1000000 in
theorem digits_nat : ∀ (k n : Nat),n < k → n < 10000000000 → ∀ w : World,Calls Tryz.prog 39 #[.int .i64 (n : Int)] w (DigPost (n : Int) w)
 | 0,n,h,_,w => by omega
 | k + 1,n,h,hn,w => by
  by_cases h10 : n < 10
  ·have hbs:=byte_small h10
   have hd:=itoa_digit h10
   have hi : (n : Int) < 10:=by omega
   obtain ⟨w1,hw1,hb1,hz1,hs1⟩:=box1 w (.cells #[.int .u8 (48 + (n : Int))] 5)
   have hcv : (convert 72 9 (.slice (some ⟨w.heap.size,0,none⟩) 1 1)).run Tryz.prog w1 = .ok (.string ⟨[UInt8.ofNat (48 + n)].toArray⟩) w1 :=
    run_convert_bytes_back w1 72 9 5 ⟨w.heap.size,0,none⟩ 1 [UInt8.ofNat (48 + n)] Tryz.underlying72 Tryz.underlying5 Tryz.underlying9 (fun j hj => by
     obtain rfl : j = 0:=by simpa using hj
     have h1:=blk_cell hz1 0
     simp only [eA,eZ] at h1
     rw [show ((⟨w.heap.size,0,none⟩ : Addr).add 0) = ⟨w.heap.size,0,none⟩ from rfl,h1]
     simp only [List.getElem_cons_zero,dg_toNat h10]
     rfl)
   unfold DigPost
   rw [hd]
   clear hd
   generalize UInt8.ofNat (48 + n) = ch at *
   obtain ⟨Hb1,Hz1,Hs1⟩:=hid3 hb1 hz1 hs1
   clear hb1 hz1 hs1
   go_enter Tryz.func39,Tryz.ntmps39
   go_wp2
   go_ret
   exact ⟨rfl,Hb1.out⟩
  ·have H1:=Lib.hid (digits_nat k (n / 10) (by omega) (by omega))
   have H2:=Lib.hid (digits_nat k (n % 10) (by omega) (by omega))
   have hc:=itoa_cat h10
   have hq : (n : Int).tdiv 10 = ((n / 10 : Nat) : Int):=by rw [Int.tdiv_eq_ediv_of_nonneg (by omega)];rfl
   have hr : (n : Int).tmod 10 = ((n % 10 : Nat) : Int):=by rw [Int.tmod_eq_emod_of_nonneg (by omega)];rfl
   have hi : ¬ (n : Int) < 10:=by omega
   have hl1:=itoa_small' (n:=((n / 10 : Nat) : Int)) (by omega)
   have hl2:=itoa_small' (n:=((n % 10 : Nat) : Int)) (by omega)
   unfold DigPost at H1 H2 ⊢
   rw [hc]
   have hno : ¬ 9223372036854775807 < (Lib.itoa ((n / 10 : Nat) : Int)).length + (Lib.itoa ((n % 10 : Nat) : Int)).length:=by omega
   have hq1 : ((n / 10 : Nat) : Int) ≤ 1000000000:=by omega
   have hq0 : (0 : Int) ≤ ((n / 10 : Nat) : Int):=by omega
   have hr1 : ((n % 10 : Nat) : Int) ≤ 10:=by omega
   have hr0 : (0 : Int) ≤ ((n % 10 : Nat) : Int):=by omega
   generalize ((n / 10 : Nat) : Int) = q at *
   generalize ((n % 10 : Nat) : Int) = r at *
   obtain ⟨Hc,Hl1,Hl2⟩:=hid3 hc hl1 hl2
   clear hc hl1 hl2
   go_enter Tryz.func39,Tryz.ntmps39
   go_wp2_with fail
   refine (H1.out _).mono ?_
   rintro e w2 ⟨rfl,hb2⟩
   have HB2:=Lib.hid hb2
   clear hb2
   go_wp2_with fail
   refine (H2.out _).mono ?_
   rintro e w3 ⟨rfl,hb3⟩
   have HB3:=Lib.hid (HB2.out.trans (hb3.mono HB2.out.size))
   clear hb3
   go_wp2
   go_ret
   exact ⟨rfl,HB3.out⟩
theorem digits_any {n : Int} (h : SmallI n) (w : World) : Calls Tryz.prog 39 #[.int .i64 n] w (DigPost n w):=by
 unfold SmallI at h
 by_cases h0 : 0 ≤ n
 ·obtain ⟨m,rfl⟩ : ∃ m : Nat,n = (m : Int):=⟨n.toNat,by omega⟩
  exact digits_nat (m + 1) m (by omega) (by omega) w
 ·obtain ⟨m,hm⟩ : ∃ m : Nat,-n = (m : Int):=⟨n.natAbs,by omega⟩
  have H1:=digits_nat (m + 1) m (by omega) (by omega) w
  have he:=itoa_neg (n:=n) (by omega)
  have hl:=itoa_small' (n:=(m : Int)) (by omega)
  rw [hm] at he
  unfold DigPost at H1 ⊢
  rw [he]
  have hlt : n < 0:=by omega
  have hno : ¬ 9223372036854775807 < 1 + (Lib.itoa (m : Int)).length:=by omega
  have Hm:=Lib.hid hm
  have hneg : wrap64 (-n) = (m : Int):=by rw [hm];simp [wrap64];omega
  have H1:=Lib.hid H1
  clear he hl hm h0
  go_enter Tryz.func39,Tryz.ntmps39
  go_wp2_with fail
  rw [Hm.out]
  refine H1.out.mono ?_
  rintro e w2 ⟨rfl,hb2⟩
  have HB2:=Lib.hid hb2
  clear hb2
  go_wp2
  go_ret
  exact ⟨rfl,HB2.out⟩
end Go.Proofs.YtoheblfpjinmnaaGreatDoor
namespace Go.Proofs.YtoheblfpjinmnaaGreatDoor
open Go Go.RowKit Go.Shelf
attribute [local go_sem] AllFrom.cons_eq AllFrom.nil_eq putF_nil putF_cons wantedL_none wantedL_some OpGoalT OpGoalV OpGoalQ OpGoalA OpGoalK YieldsR preF_nil preF_cons ByteArray.mk_append_mk
theorem nDigits_le : ∀ (k u : Nat),u < 10 ^ (k + 1) → Lib.nDigits u ≤ k + 1
 | 0,u,h => by rw [Lib.nDigits_small (by simpa using h)];omega
 | k + 1,u,h => by
  by_cases h1 : u < 10
  ·rw [Lib.nDigits_small h1];omega
  ·rw [Lib.nDigits_big h1]
   have:=nDigits_le k (u / 10) (by rw [Nat.pow_succ] at h;omega)
   omega
theorem decV_lt : ∀ (l : Bs) (acc k : Nat),(∀ c ∈ l,isDg c) → acc < 10 ^ k → decV acc l < 10 ^ (k + l.length)
 | [],acc,k,_,h => by rw [decV_nil];simpa using h
 | c :: r,acc,k,hd,h => by
  rw [decV_cons,List.length_cons,show k + (r.length + 1) = k + 1 + r.length by omega]
  refine decV_lt r _ (k + 1) (fun x hx => hd x (by simp [hx])) ?_
  have:=hd c (by simp)
  unfold isDg at this
  rw [Nat.pow_succ];omega
def digT (s : Bs) : Bs:=if Lib.hasPrefix s [45] = true then s.drop 1 else s
def sgnT (s : Bs) : Int:=if Lib.hasPrefix s [45] = true then -1 else 1
def valT (s : Bs) : Int:=sgnT s * (decV 0 (digT s) : Int)
theorem itoa_digT {n : Int} : digT (Lib.itoa n) = Lib.decDigits n.natAbs ∧ sgnT (Lib.itoa n) = if n < 0 then -1 else 1:=by
 unfold digT sgnT
 by_cases h : n < 0
 ·have e : Lib.itoa n = 45 :: Lib.decDigits n.natAbs:=by unfold Lib.itoa;rw [if_pos h]
  rw [e,if_pos (by simp [Lib.hasPrefix]),if_pos (by simp [Lib.hasPrefix]),if_pos h]
  exact ⟨rfl,rfl⟩
 ·have e : Lib.itoa n = Lib.decDigits n.natAbs:=by unfold Lib.itoa;rw [if_neg h,show n.toNat = n.natAbs by omega]
  obtain ⟨c,r,e2⟩:=decDigits_ne n.natAbs
  have hd:=decDigits_dg _ _ (Nat.lt_succ_self n.natAbs) c (by rw [e2];simp)
  have hc : c ≠ 45:=by rintro rfl;revert hd;decide
  rw [e,e2]
  have hp : ¬ Lib.hasPrefix (c :: r) [45] = true:=by simp [Lib.hasPrefix];exact fun h => hc h.symm
  rw [if_neg hp,if_neg hp,if_neg h]
  exact ⟨rfl,rfl⟩
theorem itoa_val (n : Int) : valT (Lib.itoa n) = n:=by
 unfold valT
 rw [itoa_digT.1,itoa_digT.2,decV_digits _ _ (Nat.lt_succ_self _)]
 split <;> omega
def DigsT (s : Bs) : Prop:=(1 ≤ (digT s).length ∧ (digT s).length ≤ 10) ∧ ∀ c ∈ digT s,isDg c
theorem digs_itoa {n : Int} (h : SmallI n) : DigsT (Lib.itoa n):=by
 unfold DigsT
 rw [itoa_digT.1,Lib.decDigits_length]
 have:=nDigits_le 9 n.natAbs (by unfold SmallI at h;omega)
 exact ⟨⟨Lib.nDigits_pos _,this⟩,decDigits_dg _ _ (Nat.lt_succ_self _)⟩
theorem numR_not {s : Bs} (h : ¬ DigsT s) : numR s = none:=numR_none fun ⟨n,hn,e⟩ => h (e ▸ digs_itoa hn)
theorem valT_small {s : Bs} (h : DigsT s) : SmallI (valT s):=by
 have h1:=decV_lt (digT s) 0 0 h.2 (by simp)
 have h2 : (10 : Nat) ^ (0 + (digT s).length) ≤ 10 ^ 10:=Nat.pow_le_pow_right (by omega) (by have:=h.1.2;omega)
 unfold SmallI valT sgnT
 split <;> omega
theorem numR_val {s : Bs} (h : DigsT s) : numR s = if Lib.itoa (valT s) = s then some (valT s) else none:=by
 by_cases e : Lib.itoa (valT s) = s
 ·rw [if_pos e]
  conv => lhs;rw [← e]
  exact numR_itoa (valT_small h)
 ·rw [if_neg e]
  exact numR_none fun ⟨n,hn,e2⟩ => e (by rw [e2,itoa_val])
def RNum (s : Bs) (w : World) (e : Ending) (w' : World) : Prop :=
 ∃ (n : Int) (b : Bool),e = .returned (.tuple #[.int .i64 n,.bool b]) ∧ numR s = (if b = true then some n else none) ∧ SmallI n ∧ Below w.heap.size w w'
theorem decV_nine {l : Bs} (hd : ∀ c ∈ l,isDg c) (hl : l.length ≤ 9) : decV 0 l < 1000000000:=by
 have h1:=decV_lt l 0 0 hd (by simp)
 have h2 : (10 : Nat) ^ (0 + l.length) ≤ 10 ^ 9:=Nat.pow_le_pow_right (by omega) (by omega)
 have h3 : (10 : Nat) ^ 9 = 1000000000:=by rfl
 rw [h3] at h2
 exact Nat.lt_of_lt_of_le h1 h2
theorem decV_ten {l : Bs} (hd : ∀ c ∈ l,isDg c) (hl : l.length ≤ 10) : decV 0 l < 10000000000:=by
 have h1:=decV_lt l 0 0 hd (by simp)
 have h2 : (10 : Nat) ^ (0 + l.length) ≤ 10 ^ 10:=Nat.pow_le_pow_right (by omega) (by omega)
 have h3 : (10 : Nat) ^ 10 = 10000000000:=by rfl
 rw [h3] at h2
 exact Nat.lt_of_lt_of_le h1 h2
theorem dig_step (V : Nat) (c : UInt8) (h : V < 1000000000) (hc : isDg c) : ((V * 10 + (c.toNat - 48) : Nat) : Int) = 10 * (V : Int) + ((c.toNat : Int) - 48):=by
 unfold isDg at hc
 generalize c.toNat = x at *
 omega
theorem new_cell (w : World) (cs : Array Value) (e : TypeId) (f : Nat × Nat) (j : Nat) : (w.drew.alloc (.cells cs e f)).cell? ⟨w.heap.size,j,none⟩ = cs[j]? :=
 blk_cell (w:=w.drew.alloc (.cells cs e f)) (show (w.heap.push _)[w.heap.size]? = some (.cells cs e f) by simp) j
theorem ext_one (c : UInt8) (l : Bs) : (⟨(c :: l).toArray⟩ : ByteArray).extract 1 (l.length + 1) = ⟨l.toArray⟩:=by
 apply ByteArray.ext
 simp [ByteArray.data_extract]
attribute [local go_sem] ext_one
set_option maxRecDepth 20000 in
set_option maxHeartbeats 4000000 in
theorem rnumber_any (s : Bs) (hs : s.length ≤ 6000) (w1 : World) : Calls Tryz.prog 14 #[str s] w1 (RNum s w1):=by
 have H1:=Lib.hid (hasPre_any s [45])
 by_cases hp : Lib.hasPrefix s [45] = true
 ·rw [hp] at H1
  obtain ⟨l,hl⟩ : ∃ l,s = 45 :: l:=by
   cases s with
   | nil => simp [Lib.hasPrefix] at hp
   | cons c l => exact ⟨l,by simp [Lib.hasPrefix] at hp;rw [hp]⟩
  subst hl
  have hda : digT (45 :: l) = l:=by unfold digT;rw [if_pos hp];rfl
  have hsg : sgnT (45 :: l) = -1:=by unfold sgnT;rw [if_pos hp]
  unfold str at *
  clear hp
  go_enter Tryz.func14,Tryz.ntmps14
  go_wp2_with fail
  refine (H1.out w1).mono ?_
  rintro e w2 ⟨rfl,hw⟩
  obtain rfl : w1 = w2:=hw.symm
  by_cases hlen : 1 ≤ l.length ∧ l.length ≤ 10
  ·have hout : outsideB (l.length : Int) 1 10 = false:=by unfold outsideB;simp;omega
   have hcv : ∃ cap W2,(∀ W,W = w1 → (convert 9 72 (.string ⟨l.toArray⟩)).run Tryz.prog W = .ok (.slice (some ⟨w1.heap.size,0,none⟩) l.length cap) W2) ∧ (∀ j (hj : j < l.length),W2.cell? ⟨w1.heap.size,j,none⟩ = some (.int .u8 (l[j].toNat : Int))) ∧ Below w1.heap.size w1 W2 ∧ w1.heap.size < W2.heap.size:=by
    refine ⟨_,_,fun W e => by subst e;exact run_bytes_of_string W 9 72 5 ⟨l.toArray⟩ Tryz.underlying9 Tryz.underlying72 Tryz.underlying5,fun j hj => ?_,((Below.refl _ w1).drew).alloc (Nat.le_refl _) _,by show _ < (w1.heap.push _).size;simp⟩
    rw [new_cell]
    exact bytesRow_at ⟨l.toArray⟩ _ j (by simpa using hj)
   obtain ⟨cap,W2,hcv,hcell,hb2,hlt2⟩:=hcv
   have hcv:=hcv w1 rfl
   have HO:=Lib.hid (outside_any (l.length : Int) 1 10 w1)
   rw [hout] at HO
   obtain ⟨Hcell,Hb2,Hlen,Hsg,Hda,Hout⟩:=hid6 hcell hb2 hlen hsg hda hout
   clear hcell hb2 hlen hsg hda hout
   go_wp2_with fail
   refine HO.out.mono ?_
   rintro e w' ⟨rfl,hw⟩
   obtain rfl : w1 = w':=hw
   clear hcv HO H1
   go_wp2
   go_loopw [6,20] (fun v i wr => ∃ k : Nat,k ≤ l.length ∧ v = .int .i64 (decV 0 (l.take k) : Nat) ∧ i = .int .i64 k ∧ wr = W2 ∧ ∀ c ∈ l.take k,isDg c) (fun v i wr => l.length - (Go.RowKit.intOf i).toNat)
   case atStart => exact ⟨0,by omega,rfl,rfl,rfl,by simp⟩
   case round =>
    obtain ⟨k,hk,rfl,rfl,rfl,hdg⟩:=hrel
    by_cases hlt : k < l.length
    ·have hc:=Hcell.out k hlt
     have hl10:=Hlen.out.2
     have hV9:=decV_nine hdg (by rw [List.length_take];omega)
     have hs:=take_succ_get l k hlt
     have hmem:=List.getElem_mem hlt
     generalize l[k] = c at *
     generalize hV : decV 0 (l.take k) = V at *
     have hcr:=c.toNat_lt
     by_cases hd : isDg c
     ·have hd':=hd
      unfold isDg at hd'
      have h48 : ¬ (c.toNat : Int) < 48:=by omega
      have h57 : ¬ (57 : Int) < (c.toNat : Int):=by omega
      have hstep : ((decV 0 (l.take (k + 1)) : Nat) : Int) = 10 * (V : Int) + ((c.toNat : Int) - 48):=by
       rw [hs,decV_app,hV]
       exact dig_step V c hV9 hd
      have hdg2 : ∀ x ∈ l.take (k + 1),isDg x:=fun x hx => by
       rw [hs] at hx
       rcases List.mem_append.1 hx with hx | hx
       ·exact hdg x hx
       ·rw [List.mem_singleton] at hx;exact hx ▸ hd
      obtain ⟨Hstep,Hdg2,Hs,Hdg,Hd,Hd',Hmem,HV⟩:=hid8 hstep hdg2 hs hdg hd hd' hmem hV
      clear hstep hdg2 hs hdg hd hd' hmem hV
      go_wp2
      go_roundw
      case rel => exact ⟨k + 1,by omega,by rw [Hstep.out],by go_num,trivial,Hdg2.out⟩
      case measure => simp [Go.RowKit.intOf];omega
     ·have hno : numR (45 :: l) = none:=numR_not fun h => hd (h.2 c (by rw [Hda.out];exact hmem))
      have hbb:=Hb2.out
      unfold isDg at hd
      by_cases h48 : c.toNat < 48
      ·have h48' : (c.toNat : Int) < 48:=by omega
       obtain ⟨Hno,Hbb,Hd,Hs,Hdg,Hmem,HV⟩:=hid7 hno hbb hd hs hdg hmem hV
       clear hno hbb hd hs hdg hmem hV
       go_wp2
       refine bodyPost_ret (v:=.tuple #[.int .i64 0,.bool false]) (by unfold results;try go_simp) rfl ?_
       exact ⟨0,false,rfl,by rw [Hno.out];rfl,by unfold SmallI;decide,Hbb.out⟩
      ·have h48' : ¬ (c.toNat : Int) < 48:=by omega
       have h57' : (57 : Int) < (c.toNat : Int):=by omega
       obtain ⟨Hno,Hbb,Hd,Hs,Hdg,Hmem,HV⟩:=hid7 hno hbb hd hs hdg hmem hV
       clear hno hbb hd hs hdg hmem hV
       go_wp2
       refine bodyPost_ret (v:=.tuple #[.int .i64 0,.bool false]) (by unfold results;try go_simp) rfl ?_
       exact ⟨0,false,rfl,by rw [Hno.out];rfl,by unfold SmallI;decide,Hbb.out⟩
    ·obtain rfl : k = l.length:=by omega
     rw [List.take_length] at hdg ⊢
     have hV10:=decV_ten hdg Hlen.out.2
     have hD : DigsT (45 :: l):=⟨by rw [Hda.out];exact Hlen.out,by rw [Hda.out];exact hdg⟩
     have hval : valT (45 :: l) = sgnT (45 :: l) * (decV 0 l : Int):=by unfold valT;rw [Hda.out]
     rw [Hsg.out] at hval
     have hval : valT (45 :: l) = -(decV 0 l : Int):=by rw [hval];omega
     have hnum:=numR_val hD
     have hsm:=valT_small hD
     have HDg:=Lib.hid (digits_any hsm wr)
     generalize decV 0 l = V at *
     have hbb:=Hb2.out
     rw [hval] at HDg hnum hsm
     generalize hBt : (Lib.itoa (-(V : Int)) == (45 :: l)) = bt
     have hfin : numR (45 :: l) = if bt = true then some (-(V : Int)) else none:=by
      rw [hnum,← hBt]
      by_cases e : Lib.itoa (-(V : Int)) = (45 :: l)
      ·rw [if_pos e,if_pos (by simpa using e)]
      ·rw [if_neg e,if_neg (by simpa using e)]
     obtain ⟨HD,Hval,Hnum,Hsm,Hdg,Hbb,Hfin⟩:=hid7 hD hval hnum hsm hdg hbb hfin
     clear hD hval hnum hsm hdg hbb hfin
     go_wp2_with fail
     refine HDg.out.mono ?_
     rintro e w5 ⟨rfl,hb5⟩
     have hb15:=Hbb.out.trans (hb5.mono Hbb.out.size)
     have Hb15:=Lib.hid hb15
     clear hb15
     clear HDg hb5
     generalize hit : Lib.itoa (-(V : Int)) = it at *
     go_wp2
     refine bodyPost_ret (v:=.tuple #[.int .i64 (-(V : Int)),.bool bt]) (by unfold results;try go_simp) rfl ?_
     exact ⟨-(V : Int),bt,rfl,Hfin.out,Hsm.out,Hb15.out⟩
  ·have hout : outsideB (l.length : Int) 1 10 = true:=by
    unfold outsideB
    simp;omega
   have HO:=Lib.hid (outside_any (l.length : Int) 1 10 w1)
   rw [hout] at HO
   have hno : numR (45 :: l) = none:=numR_not fun h => hlen (hda ▸ h.1)
   obtain ⟨Hlen,Hsg,Hda,Hout,Hno⟩:=hid5 hlen hsg hda hout hno
   clear hlen hsg hda hout hno
   go_wp2_with fail
   refine HO.out.mono ?_
   rintro e w' ⟨rfl,hw⟩
   obtain rfl : w1 = w':=hw
   go_wp2
   refine bodyPost_ret (v:=.tuple #[.int .i64 0,.bool false]) (by unfold results;try go_simp) rfl ?_
   exact ⟨0,false,rfl,by rw [Hno.out];rfl,by unfold SmallI;decide,Below.refl _ _⟩
 ·have hp' : Lib.hasPrefix s [45] = false:=by simpa using hp
  rw [hp'] at H1
  obtain ⟨l,hl⟩ : ∃ l,s = l:=⟨_,rfl⟩
  subst hl
  have hda : digT s = s:=by unfold digT;rw [if_neg hp]
  have hsg : sgnT s = 1:=by unfold sgnT;rw [if_neg hp]
  unfold str at *
  clear hp hp'
  go_enter Tryz.func14,Tryz.ntmps14
  go_wp2_with fail
  refine (H1.out w1).mono ?_
  rintro e w2 ⟨rfl,hw⟩
  obtain rfl : w1 = w2:=hw.symm
  by_cases hlen : 1 ≤ s.length ∧ s.length ≤ 10
  ·have hout : outsideB (s.length : Int) 1 10 = false:=by unfold outsideB;simp;omega
   have hcv : ∃ cap W2,(∀ W,W = w1 → (convert 9 72 (.string ⟨s.toArray⟩)).run Tryz.prog W = .ok (.slice (some ⟨w1.heap.size,0,none⟩) s.length cap) W2) ∧ (∀ j (hj : j < s.length),W2.cell? ⟨w1.heap.size,j,none⟩ = some (.int .u8 (s[j].toNat : Int))) ∧ Below w1.heap.size w1 W2 ∧ w1.heap.size < W2.heap.size:=by
    refine ⟨_,_,fun W e => by subst e;exact run_bytes_of_string W 9 72 5 ⟨s.toArray⟩ Tryz.underlying9 Tryz.underlying72 Tryz.underlying5,fun j hj => ?_,((Below.refl _ w1).drew).alloc (Nat.le_refl _) _,by show _ < (w1.heap.push _).size;simp⟩
    rw [new_cell]
    exact bytesRow_at ⟨s.toArray⟩ _ j (by simpa using hj)
   obtain ⟨cap,W2,hcv,hcell,hb2,hlt2⟩:=hcv
   have hcv:=hcv w1 rfl
   have HO:=Lib.hid (outside_any (s.length : Int) 1 10 w1)
   rw [hout] at HO
   obtain ⟨Hcell,Hb2,Hlen,Hsg,Hda,Hout⟩:=hid6 hcell hb2 hlen hsg hda hout
   clear hcell hb2 hlen hsg hda hout
   go_wp2_with fail
   refine HO.out.mono ?_
   rintro e w' ⟨rfl,hw⟩
   obtain rfl : w1 = w':=hw
   clear hcv HO H1
   go_wp2
   go_loopw [6,20] (fun v i wr => ∃ k : Nat,k ≤ s.length ∧ v = .int .i64 (decV 0 (s.take k) : Nat) ∧ i = .int .i64 k ∧ wr = W2 ∧ ∀ c ∈ s.take k,isDg c) (fun v i wr => s.length - (Go.RowKit.intOf i).toNat)
   case atStart => exact ⟨0,by omega,rfl,rfl,rfl,by simp⟩
   case round =>
    obtain ⟨k,hk,rfl,rfl,rfl,hdg⟩:=hrel
    by_cases hlt : k < s.length
    ·have hc:=Hcell.out k hlt
     have hl10:=Hlen.out.2
     have hV9:=decV_nine hdg (by rw [List.length_take];omega)
     have hs:=take_succ_get s k hlt
     have hmem:=List.getElem_mem hlt
     generalize s[k] = c at *
     generalize hV : decV 0 (s.take k) = V at *
     have hcr:=c.toNat_lt
     by_cases hd : isDg c
     ·have hd':=hd
      unfold isDg at hd'
      have h48 : ¬ (c.toNat : Int) < 48:=by omega
      have h57 : ¬ (57 : Int) < (c.toNat : Int):=by omega
      have hstep : ((decV 0 (s.take (k + 1)) : Nat) : Int) = 10 * (V : Int) + ((c.toNat : Int) - 48):=by
       rw [hs,decV_app,hV]
       exact dig_step V c hV9 hd
      have hdg2 : ∀ x ∈ s.take (k + 1),isDg x:=fun x hx => by
       rw [hs] at hx
       rcases List.mem_append.1 hx with hx | hx
       ·exact hdg x hx
       ·rw [List.mem_singleton] at hx;exact hx ▸ hd
      obtain ⟨Hstep,Hdg2,Hs,Hdg,Hd,Hd',Hmem,HV⟩:=hid8 hstep hdg2 hs hdg hd hd' hmem hV
      clear hstep hdg2 hs hdg hd hd' hmem hV
      go_wp2
      go_roundw
      case rel => exact ⟨k + 1,by omega,by rw [Hstep.out],by go_num,trivial,Hdg2.out⟩
      case measure => simp [Go.RowKit.intOf];omega
     ·have hno : numR s = none:=numR_not fun h => hd (h.2 c (by rw [Hda.out];exact hmem))
      have hbb:=Hb2.out
      unfold isDg at hd
      by_cases h48 : c.toNat < 48
      ·have h48' : (c.toNat : Int) < 48:=by omega
       obtain ⟨Hno,Hbb,Hd,Hs,Hdg,Hmem,HV⟩:=hid7 hno hbb hd hs hdg hmem hV
       clear hno hbb hd hs hdg hmem hV
       go_wp2
       refine bodyPost_ret (v:=.tuple #[.int .i64 0,.bool false]) (by unfold results;try go_simp) rfl ?_
       exact ⟨0,false,rfl,by rw [Hno.out];rfl,by unfold SmallI;decide,Hbb.out⟩
      ·have h48' : ¬ (c.toNat : Int) < 48:=by omega
       have h57' : (57 : Int) < (c.toNat : Int):=by omega
       obtain ⟨Hno,Hbb,Hd,Hs,Hdg,Hmem,HV⟩:=hid7 hno hbb hd hs hdg hmem hV
       clear hno hbb hd hs hdg hmem hV
       go_wp2
       refine bodyPost_ret (v:=.tuple #[.int .i64 0,.bool false]) (by unfold results;try go_simp) rfl ?_
       exact ⟨0,false,rfl,by rw [Hno.out];rfl,by unfold SmallI;decide,Hbb.out⟩
    ·obtain rfl : k = s.length:=by omega
     rw [List.take_length] at hdg ⊢
     have hV10:=decV_ten hdg Hlen.out.2
     have hD : DigsT s:=⟨by rw [Hda.out];exact Hlen.out,by rw [Hda.out];exact hdg⟩
     have hval : valT s = sgnT s * (decV 0 s : Int):=by unfold valT;rw [Hda.out]
     rw [Hsg.out] at hval
     have hval : valT s = (decV 0 s : Int):=by rw [hval];omega
     have hnum:=numR_val hD
     have hsm:=valT_small hD
     have HDg:=Lib.hid (digits_any hsm wr)
     generalize decV 0 s = V at *
     have hbb:=Hb2.out
     rw [hval] at HDg hnum hsm
     generalize hBt : (Lib.itoa ((V : Int)) == s) = bt
     have hfin : numR s = if bt = true then some ((V : Int)) else none:=by
      rw [hnum,← hBt]
      by_cases e : Lib.itoa ((V : Int)) = s
      ·rw [if_pos e,if_pos (by simpa using e)]
      ·rw [if_neg e,if_neg (by simpa using e)]
     obtain ⟨HD,Hval,Hnum,Hsm,Hdg,Hbb,Hfin⟩:=hid7 hD hval hnum hsm hdg hbb hfin
     clear hD hval hnum hsm hdg hbb hfin
     go_wp2_with fail
     refine HDg.out.mono ?_
     rintro e w5 ⟨rfl,hb5⟩
     have hb15:=Hbb.out.trans (hb5.mono Hbb.out.size)
     have Hb15:=Lib.hid hb15
     clear hb15
     clear HDg hb5
     generalize hit : Lib.itoa ((V : Int)) = it at *
     go_wp2
     refine bodyPost_ret (v:=.tuple #[.int .i64 ((V : Int)),.bool bt]) (by unfold results;try go_simp) rfl ?_
     exact ⟨(V : Int),bt,rfl,Hfin.out,Hsm.out,Hb15.out⟩
  ·have hout : outsideB (s.length : Int) 1 10 = true:=by
    unfold outsideB
    simp;omega
   have HO:=Lib.hid (outside_any (s.length : Int) 1 10 w1)
   rw [hout] at HO
   have hno : numR s = none:=numR_not fun h => hlen (hda ▸ h.1)
   obtain ⟨Hlen,Hsg,Hda,Hout,Hno⟩:=hid5 hlen hsg hda hout hno
   clear hlen hsg hda hout hno
   go_wp2_with fail
   refine HO.out.mono ?_
   rintro e w' ⟨rfl,hw⟩
   obtain rfl : w1 = w':=hw
   go_wp2
   refine bodyPost_ret (v:=.tuple #[.int .i64 0,.bool false]) (by unfold results;try go_simp) rfl ?_
   exact ⟨0,false,rfl,by rw [Hno.out];rfl,by unfold SmallI;decide,Below.refl _ _⟩
end Go.Proofs.YtoheblfpjinmnaaGreatDoor
namespace Go.Proofs.YtoheblfpjinmnaaGreatDoor
open Go Go.RowKit
attribute [local go_sem] AllFrom.cons_eq AllFrom.nil_eq putF_nil putF_cons wantedL_none wantedL_some OpGoalT OpGoalV OpGoalQ OpGoalA OpGoalK YieldsR preF_nil preF_cons
theorem atI_live {sl : Sl} {L : List Rw} (h : WOk sl L) {s g : Int} (hl : liveB sl s g = true) : ∃ i : Nat,atI L (s,g) = (i : Int):=by
 rcases h.idx s g with ⟨-,i,hi⟩ | ⟨h1,-⟩
 ·exact ⟨i,atI_some hi⟩
 ·rw [hl] at h1;cases h1
theorem atI_dead {sl : Sl} {L : List Rw} (h : WOk sl L) {s g : Int} (hl : liveB sl s g = false) : atI L (s,g) = -1:=by
 rcases h.idx s g with ⟨h1,-⟩ | ⟨-,h2⟩
 ·rw [hl] at h1;cases h1
 ·exact atI_none h2
section
variable {q : Nat} {sl sl' : Sl} {L L' : List Rw} {B B' : List Bd} {w w' : World} {F G : List Nat}
end
end Go.Proofs.YtoheblfpjinmnaaGreatDoor
