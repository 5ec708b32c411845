import Derived.Test.YtoheblfpjinmnaaGreatDoorTextParsesJ25
import Derived.Test.YtoheblfpjinmnaaGreatDoorTextParsesJ26
set_option linter.unusedVariables false
set_option linter.unusedSimpArgs false
/- A part of the proof that TextParses returns true. -/
namespace Go.Proofs.YtoheblfpjinmnaaGreatDoor
open Go Go.RowKit
attribute [local go_sem] AllFrom.cons_eq AllFrom.nil_eq putF_nil putF_cons wantedL_none wantedL_some OpGoalT OpGoalV OpGoalQ OpGoalA OpGoalK YieldsR preF_nil preF_cons
def QLdPost (gs : List Int) (rows : List Rw) (bs : List Bd) (w : World) (e : Ending) (w' : World) : Prop :=
 Below w.heap.size w w' ∧ ((zlE gs rows bs ≠ 0 ∧ e = .returned (.tuple #[.pointer none,.int .i64 (zlE gs rows bs)])) ∨
  (zlE gs rows bs = 0 ∧ ∃ q F,e = .returned (.tuple #[.pointer (some ⟨q,0,none⟩),.int .i64 0]) ∧ RepQ q (wlS gs rows) (wlL gs rows) (zlB gs rows bs) w' F ∧ (∀ y ∈ F,w.heap.size ≤ y)))
theorem qld_err {gs : List Int} {rows : List Rw} {bs : List Bd} {w w' : World} {z : Int} (h : zlE gs rows bs = z) (hz : z ≠ 0) (hb : Below w.heap.size w w') : QLdPost gs rows bs w (.returned (.tuple #[.pointer none,.int .i64 z])) w':=by
 subst h
 exact ⟨hb,.inl ⟨hz,rfl⟩⟩
theorem rwload_anyZ {w : World} {A A2 : Option Addr} {c c2 : Nat} {gs : List Int} {rows : List Rw} (hg : gs.length ≤ 9223372036854775807) (hr : rows.length ≤ 9223372036854775807) (hA : Lies w w.heap.size A (ints gs)) (hA2 : Lies w w.heap.size A2 (rows.flatMap rwC)) : Calls Tryz.prog 61 #[.slice A gs.length c,.slice A2 rows.length c2] w (RWLPost gs rows w):=by
 by_cases h60 : rows.length ≤ 60
 ·exact rwload_in h60 hg hA hA2
 ·exact rwload_long (by omega) hr
theorem q_parent {q : Nat} {sl : Sl} {L : List Rw} {B : List Bd} {w : World} {F : List Nat} (h : RepQ q sl L B w F) (hl : B.length ≤ 60) (s g : Int) : Calls Tryz.prog 63 #[.pointer (some ⟨q,0,none⟩),.agg #[.int .i64 s,.int .i64 g]] w (fun e w' => e = .returned (.tuple #[hdV (parV (parB B (s,g))),.bool (parB B (s,g)).isSome]) ∧ Below w.heap.size w w'):=by
 obtain ⟨vg,vl,vr,FB,h1⟩:=h.b_
 exact rpar_any h1 (by omega) s g
set_option maxRecDepth 20000 in
set_option maxHeartbeats 8000000 in
theorem qload_any {w : World} {A1 A2 A3 : Option Addr} {c1 c2 c3 : Nat} {gs : List Int} {rows : List Rw} {bs : List Bd} (hg : gs.length ≤ 9223372036854775807) (hr : rows.length ≤ 9223372036854775807) (hbl : bs.length ≤ 9223372036854775807)
  (hA1 : Lies w w.heap.size A1 (ints gs)) (hA2 : Lies w w.heap.size A2 (rows.flatMap rwC)) (hA3 : Lies w w.heap.size A3 (bs.flatMap bdC)) (hWk : wlE gs rows = 0 → WOk (wlS gs rows) (wlL gs rows)) :
  Calls Tryz.prog 41 #[.agg #[.slice A1 gs.length c1,.slice A2 rows.length c2,.slice A3 bs.length c3]] w (QLdPost gs rows bs w):=by
 obtain ⟨w0,hw0,hb0,hz0,hs0⟩:=box1 w (.cells #[.slice A1 gs.length c1,.slice A2 rows.length c2,.slice A3 bs.length c3] 26)
 have H1:=Lib.hid (rwload_anyZ (c:=c1) (c2:=c2) hg hr ((hA1.below hb0).mono hb0.size) ((hA2.below hb0).mono hb0.size))
 obtain ⟨o0,o1,o2,ol⟩:=cells3 hz0
 obtain ⟨Hb0,Hz0,HA3,HWk,Hs0⟩:=hid5 hb0 hz0 hA3 hWk hs0
 clear hb0 hz0 hA3 hWk hs0
 clear hA1 hA2
 go_enter Tryz.func41,Tryz.ntmps41
 go_wp2_with fail
 clear hw0 o0 o1 o2 ol
 refine H1.out.mono ?_
 rintro e w1 ⟨hb1,hcase⟩
 have hb01:=Hb0.out.trans (hb1.mono Hb0.out.size)
 rcases hcase with ⟨hne,rfl⟩ | ⟨he0,q,FZ,rfl,hZ,hFZ⟩
 ·have hfin:=qld_err (bs:=bs) (zlE_bad hne) hne hb01
  have hne' : (wlE gs rows != 0) = true:=by simpa using hne
  generalize wlE gs rows = ze at *
  have Hfin:=Lib.hid hfin
  clear hfin
  clear hb1 hne hb01 H1 HWk
  go_wp2_with fail
  refine bodyPost_ret (v:=.tuple #[.pointer none,.int .i64 ze]) (by unfold results;try go_simp) rfl Hfin.out
 have hz1:=(Mod.ofBelow hb1).keep Hz0.out (by simp)
 have hwk:=HWk.out he0
 have hV3 : RepQ q (wlS gs rows) (wlL gs rows) [] w1 FZ:=⟨.slice none 0 0,FZ,hZ,⟨rfl,.inl ⟨rfl,rfl⟩⟩,by simp [Value.ownBlock],by simp [Value.ownBlock]⟩
 have hge : ∀ y ∈ FZ,w0.heap.size ≤ y:=hFZ
 have hA33:=Lies.below HA3.out hb01
 obtain ⟨LL,hLL⟩ : ∃ LL,wlL gs rows = LL:=⟨_,rfl⟩
 obtain ⟨sl,hsl⟩ : ∃ sl,wlS gs rows = sl:=⟨_,rfl⟩
 have hfinE : ∀ B z,loadB sl [] bs = (B,z) → zlE gs rows bs = z ∧ zlB gs rows bs = B:=fun B z h => zlE_run he0 (by rw [hsl];exact h)
 rw [hLL,hsl] at hV3 hwk
 obtain ⟨o0,o1,o2,ol⟩:=cells3 hz1
 obtain ⟨HV3,Hge,Hb01,Hz1,HA33,Hsl,HLL,HfinE,HWo⟩:=hid9 hV3 hge hb01 hz1 hA33 hsl hLL hfinE hwk
 clear hV3 hge hb01 hz1 hA33 hsl hLL hfinE hwk
 clear H1 hb1 hZ hFZ he0
 go_wp2_with fail
 clear o0 o1 o2 ol
 go_loopw [25] (fun i wr => ∃ (k : Nat) (B : List Bd),k ≤ bs.length ∧ i = .int .i64 k ∧ OwnPost (RepQ q sl LL B) FZ w1 wr ∧ loadB sl B (bs.drop k) = loadB sl [] bs ∧ ZOk sl LL B) (fun i _ => bs.length - (Go.RowKit.intOf i).toNat)
 case atStart => exact ⟨0,[],by omega,rfl,OwnPost.ofBelow (own_Q _ _ _ _) HV3.out (Below.refl _ _),rfl,⟨HWo.out,famOk_nil,by simp⟩⟩
 case round =>
  obtain ⟨k,B,hk,rfl,hOP,hld,hO⟩:=hrel
  have hge' : ∀ y ∈ FZ,w.heap.size ≤ y:=fun y hy => Nat.le_trans Hb0.out.size (Hge.out y hy)
  have hbr : Below w.heap.size w wr:=Hb01.out.trans (hOP.mod.toBelow hge' Hb01.out.size)
  by_cases hlt : k < bs.length
  ·obtain ⟨ab,ao,rfl,hal,hc⟩:=HA3.out.rec_at bdC_len (by omega) hlt
   have hq : ∀ j u,(bdC bs[k])[j]? = some u → wr.cell? ((⟨ab,ao + k * 4,none⟩ : Addr).add j) = some u:=fun j u hu => (hbr.cell (p:=(⟨ab,ao + k * 4,none⟩ : Addr).add j) (by rw [add_block];exact hal)).trans (by first | exact hc j u hu | (have:=hc j u hu;rw [Addr.add_mid];exact this))
   have hki : (k : Int) < (bs.length : Int):=by omega
   rw [List.drop_eq_getElem_cons hlt] at hld
   generalize bs[k] = x at *
   obtain ⟨⟨s,g⟩,t,u⟩:=x
   obtain ⟨F1,hV,hT⟩:=hOP
   obtain ⟨w4,hw4,hb4,hz4,hs4⟩:=box1 wr (.cells #[.int .i64 s,.int .i64 g,.int .i64 t,.int .i64 u] 55)
   have hV4:=hV.below hb4
   have hN : wr.heap.size ∉ F1:=fun e => by have:=hV.lt _ e;omega
   have HOo:=Lib.hid (bdC_one ((s,g),(t,u)))
   have hT4:=hT.below hb4
   obtain ⟨q0,q1,q2,q3,ql⟩:=cells4 hz4
   obtain ⟨HQ,HLd,HO,HV4,HT4,Hz4,HN,Hw4,Hbr,Hs4,Hb4,Hlt⟩:=hid12 hq hld hO hV4 hT4 hz4 hN hw4 hbr hs4 hb4 hlt
   clear hq hld hO hV4 hT4 hz4 hN hw4 hbr hs4 hb4 hlt
   clear hc hV hT hge'
   cases hl1 : liveB sl s g with
   | false =>
    have hdead : liveZ sl [((s,g),t,u).1,((s,g),t,u).2] = false:=by rw [liveZ_two];simp only;rw [hl1];rfl
    have HAt:=Lib.hid (atI_dead HO.out.w hl1)
    have hE:=(HfinE.out B 7 (HLd.out.symm.trans (loadB_dead hdead))).1
    have HE:=Lib.hid hE
    clear hE
    clear hl1 hdead
    go_wp2_with (first | (refine wpList_load_flat rfl 55 (.tmp 27) rfl _ rfl [.int .i64 s,.int .i64 g,.int .i64 t,.int .i64 u] _ Tryz.underlying55 rfl (by kernel_rfl) HQ.out ?_) | (refine wpList_store_new rfl 55 (.tmp 7) (.tmp 28) rfl wr (ints [0,0,0,0]) [.int .i64 s,.int .i64 g,.int .i64 t,.int .i64 u] 55 rfl rfl rfl (by kernel_rfl) HOo.out ?_;rw [show ([.int .i64 s,.int .i64 g,.int .i64 t,.int .i64 u] : List Value).toArray = #[.int .i64 s,.int .i64 g,.int .i64 t,.int .i64 u] from rfl,Hw4.out]) | fail)
    clear q0 q1 q2 q3 ql
    refine (q_at HV4.out HO.out.w s g).mono ?_
    rintro e w6 ⟨rfl,hb6⟩
    rw [HAt.out]
    have hfin:=qld_err HE.out (by decide) (Hbr.out.trans ((Hb4.out.trans (hb6.mono Hb4.out.size)).mono Hbr.out.size))
    have Hfin:=Lib.hid hfin
    clear hfin
    clear hb6
    go_wp2_with fail
    refine bodyPost_ret (v:=.tuple #[.pointer none,.int .i64 7]) (by unfold results;try go_simp) rfl Hfin.out
   | true =>
    obtain ⟨i1,hAt1⟩:=atI_live HO.out.w (s:=s) (g:=g) hl1
    have hlt1 : decide ((i1 : Int) < 0) = false:=by simp
    obtain ⟨HAt1,Hl1⟩:=hid2 hAt1 hl1
    clear hAt1 hl1
    go_wp2_with (first | (refine wpList_load_flat rfl 55 (.tmp 27) rfl _ rfl [.int .i64 s,.int .i64 g,.int .i64 t,.int .i64 u] _ Tryz.underlying55 rfl (by kernel_rfl) HQ.out ?_) | (refine wpList_store_new rfl 55 (.tmp 7) (.tmp 28) rfl wr (ints [0,0,0,0]) [.int .i64 s,.int .i64 g,.int .i64 t,.int .i64 u] 55 rfl rfl rfl (by kernel_rfl) HOo.out ?_;rw [show ([.int .i64 s,.int .i64 g,.int .i64 t,.int .i64 u] : List Value).toArray = #[.int .i64 s,.int .i64 g,.int .i64 t,.int .i64 u] from rfl,Hw4.out]) | fail)
    clear q0 q1 q2 q3 ql
    refine (q_at HV4.out HO.out.w s g).mono ?_
    rintro e w6 ⟨rfl,hb6⟩
    rw [HAt1.out]
    have hV6:=HV4.out.below hb6
    have hT6:=HT4.out.below hb6
    have hz6:=(Mod.ofBelow hb6).keep Hz4.out (by simp)
    have hb06:=Hbr.out.trans ((Hb4.out.trans (hb6.mono Hb4.out.size)).mono Hbr.out.size)
    obtain ⟨q0,q1,q2,q3,ql⟩:=cells4 hz6
    obtain ⟨HV6,HT6,Hz6,Hb06⟩:=hid4 hV6 hT6 hz6 hb06
    clear hV6 hT6 hz6 hb06
    clear hb6
    cases hl2 : liveB sl t u with
    | false =>
     have hdead : liveZ sl [((s,g),t,u).1,((s,g),t,u).2] = false:=by rw [liveZ_two];simp only;rw [Hl1.out,hl2];rfl
     have HAt:=Lib.hid (atI_dead HO.out.w hl2)
     have hE:=(HfinE.out B 7 (HLd.out.symm.trans (loadB_dead hdead))).1
     have HE:=Lib.hid hE
     clear hE
     clear hl2 hdead
     go_wp2_with fail
     clear q0 q1 q2 q3 ql
     refine (q_at HV6.out HO.out.w t u).mono ?_
     rintro e w7 ⟨rfl,hb7⟩
     rw [HAt.out]
     have hfin:=qld_err HE.out (by decide) (Hb06.out.trans (hb7.mono Hb06.out.size))
     have Hfin:=Lib.hid hfin
     clear hfin
     clear hb7
     go_wp2_with fail
     refine bodyPost_ret (v:=.tuple #[.pointer none,.int .i64 7]) (by unfold results;try go_simp) rfl Hfin.out
    | true =>
     obtain ⟨i2,hAt2⟩:=atI_live HO.out.w (s:=t) (g:=u) hl2
     have hlt2 : decide ((i2 : Int) < 0) = false:=by simp
     have hlv : liveZ sl [((s,g),t,u).1,((s,g),t,u).2] = true:=by rw [liveZ_two];simp only;rw [Hl1.out,hl2];rfl
     obtain ⟨HAt2,Hlv⟩:=hid2 hAt2 hlv
     clear hAt2 hl2 hlv
     go_wp2_with fail
     clear q0 q1 q2 q3 ql
     refine (q_at HV6.out HO.out.w t u).mono ?_
     rintro e w7 ⟨rfl,hb7⟩
     rw [HAt2.out]
     have hV7:=HV6.out.below hb7
     have hT7:=HT6.out.below hb7
     have hz7:=(Mod.ofBelow hb7).keep Hz6.out (by simp)
     have hb07:=Hb06.out.trans (hb7.mono Hb06.out.size)
     obtain ⟨o,ho⟩ : ∃ o,parB B (s,g) = o:=⟨_,rfl⟩
     obtain ⟨⟨ps,pg⟩,hps⟩ : ∃ x,parV o = x:=⟨_,rfl⟩
     have hPr:=q_parent hV7 HO.out.len s g
     rw [ho] at hPr
     simp only [hdV,handleC,hps] at hPr
     obtain ⟨bo,hbo⟩ : ∃ bo,o.isSome = bo:=⟨_,rfl⟩
     rw [hbo] at hPr
     obtain ⟨q0,q1,q2,q3,ql⟩:=cells4 hz7
     obtain ⟨HV7,HT7,Hz7,Hb07,Ho,Hbo,HPr⟩:=hid7 hV7 hT7 hz7 hb07 ho hbo hPr
     clear hV7 hT7 hz7 hb07 ho hbo hPr
     clear hb7 hps
     go_wp2_with fail
     clear q0 q1 q2 q3 ql
     refine HPr.out.mono ?_
     rintro e w8 ⟨rfl,hb8⟩
     obtain ⟨w9,hw9,hb9,hz9,hs9⟩:=box1 w8 (.cells #[.int .i64 ps,.int .i64 pg] 46)
     have hb89:=hb8.trans (hb9.mono hb8.size)
     have hV9:=HV7.out.below hb89
     have hT9:=HT7.out.below hb89
     have hz79:=(Mod.ofBelow hb89).keep Hz7.out (by simp)
     have hb09:=Hb07.out.trans (hb89.mono Hb07.out.size)
     obtain ⟨q0,q1,q2,q3,ql⟩:=cells4 hz79
     obtain ⟨HV9,HT9,Hz79,Hb09⟩:=hid4 hV9 hT9 hz79 hb09
     clear hV9 hT9 hz79 hb09
     clear hb8 hb9 hz9 hs9 hb89
     cases hbo2 : bo with
     | true =>
      have hfin:=qld_err ((HfinE.out B 6 (HLd.out.symm.trans (loadB_twice Hlv.out (by simp only;rw [Ho.out,Hbo.out];exact hbo2)))).1) (by decide) Hb09.out
      have Hfin:=Lib.hid hfin
      clear hfin
      subst hbo2
      go_wp2_with fail
      refine bodyPost_ret (v:=.tuple #[.pointer none,.int .i64 6]) (by unfold results;try go_simp) rfl Hfin.out
     | false =>
      have Hno:=Lib.hid (show (parB B (s,g)).isSome = false by rw [Ho.out,Hbo.out];exact hbo2)
      subst hbo2
      go_wp2_with fail
      clear hw9 q0 q1 q2 q3 ql
      refine (q_adopt HV9.out HO.out.f HO.out.len s g t u).mono ?_
      rintro e V7 ⟨rfl,hP⟩
      have hOP7 : OwnPost (RepQ q sl LL (adoB B (s,g) (t,u))) FZ w1 V7:=by
       obtain ⟨F4,h3,h4⟩:=hP
       exact ⟨F4,h3,HT9.out.trans h4⟩
      have hge' : ∀ y ∈ FZ,w.heap.size ≤ y:=fun y hy => Nat.le_trans Hb0.out.size (Hge.out y hy)
      have hb7 : Below w.heap.size w V7:=Hb01.out.trans (hOP7.mod.toBelow hge' Hb01.out.size)
      obtain ⟨HOP7,Hb7⟩:=hid2 hOP7 hb7
      clear hOP7 hb7
      clear hP hge'
      rcases adoE_cases B (s,g) (t,u) with he | he
      ·have hgo:=(loadB_go (r:=bs.drop (k + 1)) Hlv.out Hno.out he).symm.trans HLd.out
       have hC7:=adoB_live (a:=(s,g)) (b:=(t,u)) HO.out.c ((liveB_iff sl s g).1 Hl1.out)
       have hF7 : FamOk (adoB B (s,g) (t,u)):=adoB_fam HO.out.f _ _
       rw [he]
       obtain ⟨Hgo,HC7,HF7⟩:=hid3 hgo hC7 hF7
       clear hgo hC7 hF7
       clear he
       have hlt:=Hlt.out
       go_wp2_with fail
       go_wp2
       go_roundw
       case rel => exact ⟨k + 1,_,by omega,by go_num,HOP7.out,Hgo.out,⟨HO.out.w,HF7.out,HC7.out⟩⟩
       case measure => simp [Go.RowKit.intOf];omega
      ·have hfin:=qld_err ((HfinE.out B 8 (HLd.out.symm.trans ((loadB_loop Hlv.out Hno.out (by simp only;rw [he];decide)).trans (by simp only;rw [he])))).1) (by decide) Hb7.out
       rw [he]
       have Hfin:=Lib.hid hfin
       clear hfin
       clear he
       go_wp2_with fail
       refine bodyPost_ret (v:=.tuple #[.pointer none,.int .i64 8]) (by unfold results;try go_simp) rfl Hfin.out
  ·obtain rfl : k = bs.length:=by omega
   rw [List.drop_length] at hld
   obtain ⟨e1,e2⟩:=HfinE.out B 0 hld.symm
   obtain ⟨F4,h4,h5⟩:=hOP
   have hfin : QLdPost gs rows bs w (.returned (.tuple #[.pointer (some ⟨q,0,none⟩),.int .i64 0])) wr:=by
    refine ⟨hbr,.inr ⟨e1,q,F4,rfl,?_,fun y hy => ?_⟩⟩
    ·rw [Hsl.out,HLL.out,e2];exact h4
    ·rcases h5.new y hy with h | h
     ·exact hge' y h
     ·exact Nat.le_trans Hb01.out.size h
   have Hfin:=Lib.hid hfin
   clear hfin
   clear h4 h5 hbr hge' hld hlt e1 e2 hO
   go_wp2_with fail
   refine bodyPost_ret (v:=.tuple #[.pointer (some ⟨q,0,none⟩),.int .i64 0]) (by unfold results;try go_simp) rfl Hfin.out
end Go.Proofs.YtoheblfpjinmnaaGreatDoor
namespace Go.Proofs.YtoheblfpjinmnaaGreatDoor
open Go Go.RowKit
attribute [local go_sem] AllFrom.cons_eq AllFrom.nil_eq putF_nil putF_cons wantedL_none wantedL_some OpGoalQ YieldsR preF_nil preF_cons
set_option maxRecDepth 20000 in
set_option maxHeartbeats 1000000 in
theorem eqRow_any (A : Option Addr) (c : Nat) (A' : Option Addr) (c' : Nat) (l l' : List Rw) (w : World) (hl : l.length ≤ 9223372036854775807) (hl' : l'.length ≤ 9223372036854775807)
  (hA : Lies w w.heap.size A (l.flatMap rwC)) (hA' : Lies w w.heap.size A' (l'.flatMap rwC)) :
  Calls Tryz.prog 20 #[.slice A l.length c,.slice A' l'.length c'] w fun e w' => e = .returned (.bool (eqB l l')) ∧ Below w.heap.size w w':=by
 by_cases hlen : l.length = l'.length
 ·have hb : ((l.length : Int) != (l'.length : Int)) = false:=by simp [hlen]
  have Hlen:=Lib.hid hlen
  clear hlen
  go_enter Tryz.func20,Tryz.ntmps20
  go_wp2
  go_loopw [14] (fun i wr => ∃ k : Nat,k ≤ l.length ∧ i = .int .i64 k ∧ l.take k = l'.take k ∧ Below w.heap.size w wr) (fun i _ => l.length - (Go.RowKit.intOf i).toNat)
  case atStart => exact ⟨0,by omega,rfl,rfl,Below.refl _ _⟩
  case round =>
   obtain ⟨k,hk,rfl,heq,hbel⟩:=hrel
   have Heq:=Lib.hid heq
   clear heq hb
   have hsz:=hbel.size
   by_cases hlt : k < l.length
   ·have hlt' : k < l'.length:=by rw [← Hlen.out];exact hlt
    obtain ⟨ab,ao,rfl,hal,hc⟩:=hA.rec_at rwC_len (by omega) hlt
    obtain ⟨bb,bo,rfl,hbl,hc'⟩:=hA'.rec_at rwC_len (by omega) hlt'
    have hs:=take_succ_get l k hlt
    have hs':=take_succ_get l' k hlt'
    have hne : l[k] ≠ l'[k] → l ≠ l':=by
     intro h e;subst e;exact h rfl
    have hc1 : ∀ j u,(rwC l[k])[j]? = some u → wr.cell? ((⟨ab,ao + k * 11,none⟩ : Addr).add j) = some u:=fun j u hu => by
     have:=(hbel.cell (p:=⟨ab,ao + k * 11 + j,none⟩) hal).trans (hc j u hu)
     rw [Addr.add_mid];exact this
    have hc2 : ∀ j u,(rwC l'[k])[j]? = some u → wr.cell? ((⟨bb,bo + k * 11,none⟩ : Addr).add j) = some u:=fun j u hu => by
     have:=(hbel.cell (p:=⟨bb,bo + k * 11 + j,none⟩) hbl).trans (hc' j u hu)
     rw [Addr.add_mid];exact this
    have hal2 : ab < wr.heap.size:=by omega
    have hbl2 : bb < wr.heap.size:=by omega
    have hin : (k : Int) < (l'.length : Int):=by omega
    generalize l[k] = x at *
    generalize l'[k] = y at *
    obtain ⟨Hs,Hs',Hne,Hc1,Hc2,Hbel⟩:=hid6 hs hs' hne hc1 hc2 hbel
    have he:=fun w => neqRow w x y
    clear hs hs' hne hc hc' hA hA' hc1 hc2 hbel
    generalize hr : eqB x y = r at *
    have Hr:=Lib.hid hr
    clear hr
    have hDa : ∀ u ∈ rwC x,u.oneCell' = true:=rwC_one x
    have HDa:=Lib.hid hDa
    clear hDa
    go_wp2_with (first | (refine wpList_load_flat rfl 51 (.tmp 17) rfl _ rfl (rwC x) _ Tryz.underlying51 rfl (sz_Row _) Hc1.out ?_) | (refine wpList_store_new rfl 51 (.tmp 6) (.tmp 18) rfl wr (ints [0,0,0,0,0,0,0,0,0,0,0]) (rwC x) 51 rfl rfl rfl (sz_Row _) HDa.out ?_))
    have hnew : ∀ j u,(rwC x)[j]? = some u → (wr.alloc (.cells (rwC x).toArray 51)).drew.cell? ((⟨wr.heap.size,0,none⟩ : Addr).add j) = some u:=fun j u hu => new_rec rfl (by simp) j u hu
    have hold : ∀ j u,(rwC y)[j]? = some u → (wr.alloc (.cells (rwC x).toArray 51)).drew.cell? ((⟨bb,bo + k * 11,none⟩ : Addr).add j) = some u:=fun j u hu => by
     have:=Hc2.out j u hu
     rw [Addr.add_mid] at this ⊢
     exact (((Below.refl wr.heap.size wr).alloc (Nat.le_refl _) _).cell (p:=⟨bb,bo + k * 11 + j,none⟩) hbl2).trans this
    obtain ⟨Hnew,Hold⟩:=hid2 hnew hold
    clear hnew hold
    refine wp_planR 6 [1,2] [some 19,some 20,some 21,some 22,some 23,some 24] [[],[],[],[1,2],[1,2,3],[0,1,2,3,4]] [0,1,2,3,4,5] mixed rfl (by kernel_rfl) (by decide) (by decide) rfl ?_
    iterate 6 apply Exists.intro
    refine ⟨rfl,?_,?_⟩
    ·simp only [tS,List.take_zero,AllFrom.cons_eq,AllFrom.nil_eq,OpGoalQ]
     refine ⟨?_,?_,?_,?_,?_,?_,trivial⟩
     all_goals (intro σ hp;(try simp only [gZ,gS,mC,mN,preF_cons,preF_nil,isV,and_true] at hp);(first | (have hq : True:=hp;clear hq hp) | skip))
     ·(simp only [wantedL_none,↓reduceIte,gZ,gS];refine yr_load 51 (.tmp 6) (by rfl) ⟨wr.heap.size,0,none⟩ ?_ (rwC x) _ Tryz.underlying51 rfl (sz_Row _) Hnew.out ?_;(· go_simp);(· exact ⟨rfl,rfl⟩))
     iterate 3 · (go_simp;exact ⟨rfl,rfl⟩)
     ·(simp only [wantedL_none,↓reduceIte,gZ,gS];refine yr_load 51 (.tmp 22) (by rfl) ⟨bb,bo + k * 11,none⟩ ?_ (rwC y) _ Tryz.underlying51 rfl (sz_Row _) Hold.out ?_;(· go_simp);(· exact ⟨rfl,rfl⟩))
     ·(go_simp;exact ⟨rfl,rfl⟩)
    intro σ hp
    simp only [gZ,gS,mC,mN,preF_cons,preF_nil,isV,and_true] at hp
    simp only [dS,List.drop_zero]
    go_simp
    clear hp
    cases r with
    | true =>
     have hxy : x = y:=by simpa [eqB] using Hr.out
     have Hxy:=Lib.hid hxy
     clear hxy
     go_simp
     refine ⟨rfl,?_⟩
     go_wp2
     go_roundw
     case rel => exact ⟨k + 1,by omega,by go_num,by rw [Hs.out,Hs'.out,Heq.out,Hxy.out],(Hbel.out.alloc hsz _).drew⟩
     case measure => simp [Go.RowKit.intOf];omega
    | false =>
     have hxy : x ≠ y:=by intro e;have:=Hr.out;rw [e,eqB_self] at this;cases this
     have Hf:=Lib.hid (eqB_ne (Hne.out hxy))
     clear hxy
     go_simp
     refine ⟨rfl,?_⟩
     go_wp2
     go_ret
     exact ⟨by rw [Hf.out];rfl,(Hbel.out.alloc hsz _).drew⟩
   ·have he : l = l':=by
     have:=Heq.out
     rwa [List.take_of_length_le (by omega),List.take_of_length_le (by have:=Hlen.out;omega)] at this
    have Hf : Hid (eqB l l' = true):=by rw [he];exact eqB_self _
    clear he
    go_wp2
    go_ret
    exact ⟨by rw [Hf.out];rfl,hbel⟩
 ·have hb : ((l.length : Int) != (l'.length : Int)) = true:=by simp;omega
  have Hf:=Lib.hid (eqB_ne (fun e : l = l' => hlen (congrArg List.length e)))
  clear hlen
  go_enter Tryz.func20,Tryz.ntmps20
  go_wp2
  go_ret
  exact ⟨by rw [Hf.out];rfl,Below.refl _ _⟩
end Go.Proofs.YtoheblfpjinmnaaGreatDoor
