import Derived.Test.YtfdillpofciicaaGreatDoorTopSavedJ10
set_option linter.unusedVariables false
set_option linter.unusedSimpArgs false
/- A part of the proof that TopSaved returns true. -/
namespace Go.Proofs.YtfdillpofciicaaGreatDoor
open Go Go.RowKit
attribute [local go_sem] AllFrom.cons_eq AllFrom.nil_eq putF_nil putF_cons wantedL_none wantedL_some OpGoalT OpGoalV OpGoalQ YieldsR preF_nil preF_cons
section
variable {w : World} {p kn m : Nat} {hs : List Hd} {ls : Nat → List Int} {vh : Value} {cs : List (Nat × Nat)} {Fs : Nat → List Nat}
def RemOk (w : World) (p kn m : Nat) (hs : List Hd) (ls : Nat → List Int) (vh : Value) (cs : List (Nat × Nat)) (Fs : Nat → List Nat) (q : Nat) (l : List Int) (e : Ending) (w' : World) : Prop :=
 e = .returned (.tuple #[.agg (ints l).toArray,.int .i64 0]) ∧ ∃ vh' Fs',TabAt w' p kn (remL hs q) (fun k => remL (ls k) q) vh' m cs Fs' ∧ (∀ y ∈ tabF p m vh' cs Fs',y ∈ tabF p m vh cs Fs ∨ w.heap.size ≤ y) ∧ Mod (tabF p m vh cs Fs) w w'
set_option maxRecDepth 20000 in
set_option maxHeartbeats 8000000 in
theorem remove_ok (h : TabAt w p kn hs ls vh m cs Fs) (q : Nat) (hq : q < hs.length) (hl : ∀ kc ∈ cs,(ls kc.1).length = hs.length) (hmx : hs.length ≤ 1200000000000) :
  Calls Tryz.prog 154 #[.pointer (some ⟨p,0,none⟩),.int .i64 q] w (RemOk w p kn m hs ls vh cs Fs q (rowI kn hs[q] fun k => (ls k).getD q 0)):=by
 have h1:=row_yes (h.mod ((Mod.refl [] w).alloc (.cells #[.int .i64 0,.int .i64 0,.int .i64 0,.int .i64 0,.int .i64 0,.int .i64 0,.int .i64 0,.int .i64 0,.int .i64 0,.int .i64 0,.int .i64 0] 56)) (by simp)) q hq hl hmx
 obtain ⟨rs,hrs⟩ : ∃ rs,rs = rowI kn hs[q] fun k => (ls k).getD q 0:=⟨_,rfl⟩
 have hrl : rs.length = 11:=by rw [hrs,← rowT_nil,rowT_length]
 have HRs0:=Lib.hid hrs
 rw [← hrs] at h1
 match rs,hrl with
 | [b0,b1,b2,b3,b4,b5,b6,b7,b8,b9,b10],_ =>
 have HRs:=Lib.hid HRs0.out
 have H1:=Lib.hid h1
 have H:=Lib.hid h;have HL:=Lib.hid hl;have HLT:=Lib.hid h.lt
 clear h1 h hl hrs HRs0
 go_enter Tryz.func154,Tryz.ntmps154
 go_wp2_with fail
 refine H1.out.mono ?_
 rintro e w1 ⟨rfl,hb⟩
 have hk4:=(Mod.ofBelow hb).keep (heap_alloc_new w (.cells #[.int .i64 0,.int .i64 0,.int .i64 0,.int .i64 0,.int .i64 0,.int .i64 0,.int .i64 0,.int .i64 0,.int .i64 0,.int .i64 0,.int .i64 0] 56)) (by simp)
 have hB:=((Below.refl w.heap.size w).alloc (Nat.le_refl _) _).trans (hb.mono (by simp))
 have hz1:=hb.size
 simp only [World.size_alloc] at hz1
 obtain ⟨HB,HK40⟩:=hid2 hB hk4
 clear hb hk4 hB H1
 simp only [ints,mC,mN]
 go_wp2_with fail
 obtain ⟨w2,hw2⟩ : ∃ w2,w2 = w1.alloc (.cells #[.int .i64 b0,.int .i64 b1,.int .i64 b2,.int .i64 b3,.int .i64 b4,.int .i64 b5,.int .i64 b6,.int .i64 b7,.int .i64 b8,.int .i64 b9,.int .i64 b10] 56):=⟨_,rfl⟩
 have hm2 : Mod [] w w2:=by rw [hw2];exact (Mod.ofBelow HB.out).alloc _
 have hsz2 : w2.heap.size = w1.heap.size + 1:=by rw [hw2];simp
 have hk6 : w2.heap[w1.heap.size]? = some (.cells #[.int .i64 b0,.int .i64 b1,.int .i64 b2,.int .i64 b3,.int .i64 b4,.int .i64 b5,.int .i64 b6,.int .i64 b7,.int .i64 b8,.int .i64 b9,.int .i64 b10] 56 (0,0)):=by rw [hw2];exact heap_alloc_new w1 _
 have hk42 : w2.heap[w.heap.size]? = some (.cells #[.int .i64 0,.int .i64 0,.int .i64 0,.int .i64 0,.int .i64 0,.int .i64 0,.int .i64 0,.int .i64 0,.int .i64 0,.int .i64 0,.int .i64 0] 56 (0,0)):=by rw [hw2];exact blk_alloc HK40.out _
 rw [← hw2]
 have ht2:=H.out.mod hm2 (by simp)
 refine (hdlRem_any p 1 _ _ vh hs q w2 ht2.hd hq hmx).mono ?_
 rintro e w3 ⟨rfl,hpost⟩
 obtain ⟨vh',ht3,hloc,hm3⟩:=ht2.head hpost
 have hs3 : w2.heap.size ≤ w3.heap.size:=hm3.size
 have hnot : ∀ b,w.heap.size ≤ b → b < w2.heap.size → b ∉ p :: vh.ownBlock.toList:=by
  intro b h1 h2 hx
  have hx' : b ∈ tabF p m vh cs Fs:=by
   simp only [tabF,List.mem_cons,List.mem_append]
   rcases List.mem_cons.1 hx with e | hx
   ·exact .inl e
   ·exact .inr (.inr (.inl hx))
  have:=HLT.out _ hx';omega
 have hk63:=hm3.keep hk6 (hnot _ (by omega) (by omega))
 have hk43:=hm3.keep hk42 (hnot _ (by omega) (by omega))
 have c2 : w3.cell? ⟨p,2,none⟩ = some (.map (some m)):=by rw [blk_cell ht3.hd.blk];rfl
 obtain ⟨o,hrun,hR⟩:=ht3.map.range Tryz.underlying217
 have HR:=Lib.hid hR;have HT3:=Lib.hid ht3;have HLoc:=Lib.hid (show ∀ k,vh'.ownBlock = some k → vh.ownBlock = some k ∨ w.heap.size < k from fun k hk => (hloc k hk).imp id (fun e => by omega));have HM3:=Lib.hid ((hm2.mono (G:=p :: vh.ownBlock.toList) (by simp)).trans hm3 (fun x hx => .inl hx))
 obtain ⟨HK6,HK4⟩:=hid2 hk63 hk43
 have hpl:=HT3.out.hd.lt
 have hws : w.heap.size < w1.heap.size:=by omega
 have hws1 : w1.heap.size < w3.heap.size:=by omega
 clear hR ht3 hloc hm3 ht2 hpost hm2 hsz2 hk6 hk42 hw2 hnot hk63 hk43 HB HK40
 go_wp2
 have hW3 : ∃ W3,W3 = w3.alloc o:=⟨_,rfl⟩
 obtain ⟨W3,hW3⟩:=hW3
 rw [← hW3]
 have hsW : W3.heap.size = w3.heap.size + 1:=by rw [hW3];simp
 have hmW : Mod [] w3 W3:=by rw [hW3];exact (Mod.refl _ _).alloc _
 have HR3:=Lib.hid (show RangeAt Tryz.prog 3 W3 m w3.heap.size (cs.map colPr) (cs.map colPr) by rw [hW3];exact HR.out)
 have HTW:=Lib.hid (HT3.out.mod hmW (by simp))
 obtain ⟨HSW,HMW⟩:=hid2 hsW hmW
 have hnew0 : ∀ kd ∈ cs,∀ x ∈ Fs kd.1,x ∈ Fs kd.1 ∨ W3.heap.size ≤ x:=fun _ _ _ h => .inl h
 have HN0:=Lib.hid hnew0
 have HFlt:=Lib.hid (show ∀ kd ∈ cs,∀ x ∈ Fs kd.1,x < w.heap.size from fun kd hd x hx => (H.out.cols.col kd hd).lt x hx)
 have hrlt : w3.heap.size < W3.heap.size:=by omega
 clear hW3 hsW hmW hrun c2 HR hnew0
 generalize hrw : w3.heap.size = r at *
 have HRw:=Lib.hid hrw
 clear hrw
 go_loopw [9] (fun _ wr => ∃ (ts : List (Nat × Nat)) (Fs' : Nat → List Nat),RangeAt Tryz.prog 3 wr m r (cs.map colPr) (ts.map colPr) ∧ (∀ kc ∈ ts,kc ∈ cs) ∧ (ts.map (·.1)).Nodup ∧ ColsAt wr cs (fun k => if k ∈ ts.map (·.1) then ls k else remL (ls k) q) Fs' (p :: m :: vh'.ownBlock.toList) ∧
  (∀ kd ∈ cs,∀ x ∈ Fs' kd.1,x ∈ Fs kd.1 ∨ W3.heap.size ≤ x) ∧ Mod (r :: cs.flatMap (fun kc => Fs kc.1)) W3 wr) (fun _ wr => wr.rangeLeft m r)
 case atStart => exact ⟨cs,Fs,HR3.out,fun _ h => h,H.out.nodup,HTW.out.cols.congr (fun kc hk => by rw [if_pos (List.mem_map.2 ⟨kc,hk,rfl⟩)]),HN0.out,Mod.refl _ _⟩
 case round =>
  obtain ⟨ts,Fs',hR,hsub,hnd,hcols,hnew,hmod⟩:=hrel
  have hwr:=hmod.size
  have hbF : ∀ x,w.heap.size ≤ x → x < r → x ∉ r :: cs.flatMap (fun kc => Fs kc.1):=by
   intro x h1 h2 hx
   rcases List.mem_cons.1 hx with e | hx
   ·omega
   ·obtain ⟨kd,hd,hx⟩:=List.mem_flatMap.1 hx
    have:=HFlt.out kd hd x hx;omega
  have hbase:=HTW.out.base
  have hrw:=HRw.out
  have hsz1 : W3.heap.size = r + 1:=HSW.out
  by_cases hts : ts = []
  ·subst hts
   have hov:=fun ty => RangeAt.over (P:=Tryz.prog) (by simpa using hR) ty
   have hpF : p ∉ r :: cs.flatMap (fun kc => Fs kc.1):=by
    intro hx
    rcases List.mem_cons.1 hx with e | hx
    ·have:=hbase p (by simp);omega
    ·obtain ⟨kd,hd,hx⟩:=List.mem_flatMap.1 hx
     exact H.out.cols.off kd hd p hx (by simp)
   have hbaseF : ∀ x ∈ p :: m :: vh'.ownBlock.toList,x ∉ r :: cs.flatMap (fun kc => Fs kc.1):=by
    intro x hxb hx
    rcases List.mem_cons.1 hx with e | hx
    ·subst e
     have:=HT3.out.base x hxb;omega
    ·obtain ⟨kd,hd,hx⟩:=List.mem_flatMap.1 hx
     exact HTW.out.cols.off kd hd x hx hxb
   have hhd:=HTW.out.hd.mod hmod (hbaseF p (by simp)) (fun k hk => hbaseF k (by simp [hk]))
   have hfin : TabAt wr p kn (remL hs q) (fun k => remL (ls k) q) vh' m cs Fs' :=
    ⟨hhd,HTW.out.map.mod hmod (hbaseF m (by simp)),H.out.kinds,hcols.congr (fun kc _ => by simp),HTW.out.mp,HTW.out.mh⟩
   have hturn : ∀ y ∈ tabF p m vh' cs Fs',y ∈ tabF p m vh cs Fs ∨ w.heap.size ≤ y:=by
    intro y hy
    simp only [tabF,List.mem_cons,List.mem_append,List.mem_flatMap] at hy ⊢
    rcases hy with h1 | h1 | h1 | ⟨kd,hd,h1⟩
    ·exact .inl (.inl h1)
    ·exact .inl (.inr (.inl h1))
    ·rcases HLoc.out y (by simpa using h1) with h2 | h2
     ·exact .inl (.inr (.inr (.inl (by simp [h2]))))
     ·right;omega
    ·rcases hnew kd hd y h1 with h2 | h2
     ·exact .inl (.inr (.inr (.inr ⟨kd,hd,h2⟩)))
     ·right;omega
   have hmall : Mod (tabF p m vh cs Fs) w wr:=by
    have hb : Mod (tabF p m vh cs Fs) w w3:=HM3.out.mono (fun x hx => .inl (by
     simp only [tabF,List.mem_cons,List.mem_append] at hx ⊢
     rcases hx with h1 | h1
     ·exact .inl h1
     ·exact .inr (.inr (.inl h1))))
    have hc : Mod (tabF p m vh cs Fs) w W3:=hb.trans HMW.out (by simp)
    refine hc.trans hmod (fun x hx => ?_)
    rcases List.mem_cons.1 hx with e | hx
    ·right;omega
    ·left
     simp only [tabF,List.mem_cons,List.mem_append]
     exact .inr (.inr (.inr hx))
   have hall : Mod [w.heap.size,w1.heap.size] w3 wr → True:=fun _ => trivial
   have hk6:=hmod.keep (HMW.out.keep HK6.out (by simp)) (hbF _ (by omega) (by omega))
   have hk4:=hmod.keep (HMW.out.keep HK4.out (by simp)) (hbF _ (by omega) (by omega))
   have c0:=blk_cell hk6 0
   have c1:=blk_cell hk6 1
   have c2:=blk_cell hk6 2
   have c3:=blk_cell hk6 3
   have c4:=blk_cell hk6 4
   have c5:=blk_cell hk6 5
   have c6:=blk_cell hk6 6
   have c7:=blk_cell hk6 7
   have c8:=blk_cell hk6 8
   have c9:=blk_cell hk6 9
   have c10:=blk_cell hk6 10
   have z0:=blk_cell hk4 0
   have z1:=blk_cell hk4 1
   have z2:=blk_cell hk4 2
   have z3:=blk_cell hk4 3
   have z4:=blk_cell hk4 4
   have z5:=blk_cell hk4 5
   have z6:=blk_cell hk4 6
   have z7:=blk_cell hk4 7
   have z8:=blk_cell hk4 8
   have z9:=blk_cell hk4 9
   have z10:=blk_cell hk4 10
   have f0:=blk_free hk4 0
   have f1:=blk_free hk4 1
   have f2:=blk_free hk4 2
   have f3:=blk_free hk4 3
   have f4:=blk_free hk4 4
   have f5:=blk_free hk4 5
   have f6:=blk_free hk4 6
   have f7:=blk_free hk4 7
   have f8:=blk_free hk4 8
   have f9:=blk_free hk4 9
   have f10:=blk_free hk4 10
   simp only [eA,eZ,eS] at c0 z0 c1 z1 c2 z2 c3 z3 c4 z4 c5 z5 c6 z6 c7 z7 c8 z8 c9 z9 c10 z10
   have l6:=blk_lt hk6
   have l4:=blk_lt hk4
   have n1 : w1.heap.size ≠ w.heap.size:=by omega
   have n2 : w.heap.size ≠ w1.heap.size:=by omega
   obtain ⟨HFin,HTurn,HMall⟩:=hid3 hfin hturn hmall
   have hnotF : w.heap.size ∉ tabF p m vh' cs Fs':=by
    intro hx
    simp only [tabF,List.mem_cons,List.mem_append,List.mem_flatMap] at hx
    rcases hx with h1 | h1 | h1 | ⟨kd,hd,h1⟩
    ·have:=HLT.out p (by simp [tabF]);omega
    ·have:=HLT.out m (by simp [tabF]);omega
    ·rcases HLoc.out _ (by simpa using h1) with h2 | h2
     ·have:=HLT.out w.heap.size (by simp [tabF,h2]);omega
     ·omega
    ·rcases hnew kd hd _ h1 with h2 | h2
     ·have:=HFlt.out kd hd _ h2;omega
     ·omega
   have HNotF:=Lib.hid hnotF
   clear hall hnotF hk6 hk4 hrw hsz1 hfin hturn hmall hhd hpF hbaseF hbF hbase hR hsub hnd hcols hnew hmod hz1
   go_wp2
   refine bodyPost_ret (v:=.tuple #[.agg #[.int .i64 b0,.int .i64 b1,.int .i64 b2,.int .i64 b3,.int .i64 b4,.int .i64 b5,.int .i64 b6,.int .i64 b7,.int .i64 b8,.int .i64 b9,.int .i64 b10],.int .i64 0]) (by unfold results;try go_simp) rfl ?_
   have hms : ∀ (W : World),W = wr → Mod [w.heap.size] wr W:=fun W e => by rw [e];exact Mod.refl _ _
   refine ⟨by rw [← HRs.out];rfl,vh',Fs',HFin.out.mod (G:=[w.heap.size]) ?_ (fun k hk e => by simp at e;exact HNotF.out (e ▸ hk)),HTurn.out,HMall.out.trans (G:=[w.heap.size]) ?_ (fun x hx => .inr (by simp at hx;omega))⟩
   all_goals
    repeat (refine Mod.setCell ?_ (.inl (by simp)) _)
    exact Mod.refl _ _
  ·obtain ⟨t1,kc,t2,w5,rfl,hnx,hen,hR2,hm5,hs5⟩:=hR.nextC hts
   have hkc : kc ∈ cs:=hsub kc (by simp)
   have hk8 : kc.1 < 8:=by
    have h2 : kc.1 ∈ natKinds kn 8:=by rw [← H.out.kinds];exact List.mem_map.2 ⟨kc,hkc,rfl⟩
    exact natKinds_lt h2
   have hrF : ∀ kd ∈ cs,∀ x ∈ Fs' kd.1,x ≠ r:=by
    intro kd hd x hx
    rcases hnew kd hd x hx with h1 | h1
    ·have:=HFlt.out kd hd x h1;omega
    ·omega
   have hcols5:=hcols.mod hm5 (fun kd hd x hx => by simpa using hrF kd hd x hx)
   obtain ⟨v,hf,hF⟩:=hcols5.col kc hkc
   have hlen:=HL.out kc hkc
   have hin : kc.1 ∈ (t1 ++ kc :: t2).map (·.1):=by simp
   rw [if_pos hin] at hf
   have hcall:=colRem_any kc.2 0 #[v] 222 v (ls kc.1) q w5 hf (by omega) (by omega)
   generalize (ls kc.1)[q]'(by omega) = old at hcall
   have hk8i : (kc.1 : Int) < 8:=by omega
   have hfin : ∀ w6,FieldPost intC 3 1 w5 kc.2 0 #[v] 222 v (remL (ls kc.1) q) w6 →
     (∃ (ts : List (Nat × Nat)) (Fs' : Nat → List Nat),RangeAt Tryz.prog 3 w6 m r (cs.map colPr) (ts.map colPr) ∧ (∀ kc ∈ ts,kc ∈ cs) ∧ (ts.map (·.1)).Nodup ∧ ColsAt w6 cs (fun k => if k ∈ ts.map (·.1) then ls k else remL (ls k) q) Fs' (p :: m :: vh'.ownBlock.toList) ∧
      (∀ kd ∈ cs,∀ x ∈ Fs' kd.1,x ∈ Fs kd.1 ∨ W3.heap.size ≤ x) ∧ Mod (r :: cs.flatMap (fun kc => Fs kc.1)) W3 w6) ∧ w6.rangeLeft m r < wr.rangeLeft m r:=by
    intro w6 hp6
    obtain ⟨Fs2,hc6,hn6,hm6⟩:=hcols5.step H.out.nodup (fun x hx => by have:=hbase x hx;omega) hkc hF hp6
    have hR6:=hR2.mod hm6 (fun hx => hcols.off kc hkc m hx (by simp)) (fun hx => hrF kc hkc r hx rfl)
    refine ⟨⟨t1 ++ t2,Fs2,hR6,fun kd hd => hsub kd (by rcases List.mem_append.1 hd with h | h <;> simp [h]),List.Nodup.sublist (List.Sublist.map _ (List.Sublist.append_left (List.sublist_cons_self _ _) _)) hnd,hc6.congr ?_,?_,?_⟩,by rw [hR6.left_eq,hR.left_eq];simp⟩
    ·intro kd hd
     rw [List.map_append,List.map_cons] at hnd
     have hnd2:=List.nodup_append.1 hnd
     by_cases e : kd.1 = kc.1
     ·rw [e,updL_same,if_neg]
      rw [List.map_append,List.mem_append]
      rintro (hm | hm)
      ·exact hnd2.2.2 _ hm _ (by simp) rfl
      ·exact (List.nodup_cons.1 hnd2.2.1).1 hm
     ·rw [updL_ne _ _ e]
      have : kd.1 ∈ (t1 ++ kc :: t2).map (·.1) ↔ kd.1 ∈ (t1 ++ t2).map (·.1):=by
       simp only [List.map_append,mC,List.mem_append,List.mem_cons]
       constructor
       ·rintro (hm | hm | hm)
        ·exact .inl hm
        ·exact absurd hm e
        ·exact .inr hm
       ·rintro (hm | hm)
        ·exact .inl hm
        ·exact .inr (.inr hm)
      simp only [this]
    ·intro kd hd x hx
     rcases hn6 kd hd x hx with h1 | h1
     ·exact hnew kd hd x h1
     ·right;omega
    ·refine (hmod.trans hm5 (fun x hx => .inl (by simp at hx;simp [hx]))).trans hm6 (fun x hx => ?_)
     rcases hnew kc hkc x hx with h1 | h1
     ·exact .inl (List.mem_cons_of_mem _ (List.mem_flatMap.2 ⟨kc,hkc,h1⟩))
     ·exact .inr h1
   obtain ⟨HCall,HFin⟩:=hid2 hcall hfin
   obtain ⟨k,c⟩:=kc
   clear hrw hsz1 hfin hcall hin hlen hf hF hcols5 hrF hR2 hm5 hs5 hts hmod hnew hcols hnd hsub hR hk8 hkc hbF hbase
   simp only at hnx hen hk8i
   go_wp2_with fail
   refine HCall.out.mono ?_
   rintro e w6 ⟨rfl,hp6⟩
   have HF6:=Lib.hid (HFin.out w6 hp6)
   clear hp6 HFin
   go_wp2
   exact HF6.out
end
end Go.Proofs.YtfdillpofciicaaGreatDoor
namespace Go.Proofs.YtfdillpofciicaaGreatDoor
open Go Go.RowKit
section
variable {w : World} {q kn : Nat} {rows : List Rw} {vl : Value}
end
theorem valK_lt (k : Nat) (hk : k < 8) (x : Rw) : (rwC x)[3 + k]? = some (.int .i64 (valK k x.2)):=by
 obtain ⟨⟨s,g⟩,K,a0,a1,a2,a3,a4,a5,a6,a7⟩:=x
 match k,hk with
 | 0,_ => rfl
 | 1,_ => rfl
 | 2,_ => rfl
 | 3,_ => rfl
 | 4,_ => rfl
 | 5,_ => rfl
 | 6,_ => rfl
 | 7,_ => rfl
section
variable {w : World} {q kn : Nat} {rows : List Rw} {vl : Value}
end
def rwSet (x : Rw) (k : Nat) (n : Int) : Rw :=
 match x with
 | (hd,K,a0,a1,a2,a3,a4,a5,a6,a7) =>
  (hd,K,if k = 0 then n else a0,if k = 1 then n else a1,if k = 2 then n else a2,if k = 3 then n else a3,if k = 4 then n else a4,if k = 5 then n else a5,if k = 6 then n else a6,if k = 7 then n else a7)
section
variable {w : World} {q kn : Nat} {rows : List Rw} {vl : Value}
end
end Go.Proofs.YtfdillpofciicaaGreatDoor
namespace Go.Proofs.YtfdillpofciicaaGreatDoor
open Go Go.RowKit
attribute [local go_sem] AllFrom.cons_eq AllFrom.nil_eq putF_nil putF_cons wantedL_none wantedL_some OpGoalT OpGoalS OpGoalP OpGoalV YieldsR preF_nil preF_cons
def btV (K : Int) (l : List Int) : Value:=.agg (Value.int .i64 K :: ints l).toArray
theorem do_boxes {w w1 : World} {K a0 a1 a2 a3 a4 a5 a6 a7 n t a r s d x : Int} (hb : Below (((w.alloc (.cells #[.int .i64 K,.int .i64 a0,.int .i64 a1,.int .i64 a2,.int .i64 a3,.int .i64 a4,.int .i64 a5,.int .i64 a6,.int .i64 a7] 45)).alloc (.cells #[.int .i64 n,.int .i64 t,.int .i64 a,.int .i64 r,.int .i64 s,.int .i64 d,.int .i64 x] 102)).alloc (.cells #[.int .i64 0,.int .i64 0,.int .i64 0,.int .i64 0,.int .i64 0,.int .i64 0,.int .i64 0,.int .i64 0,.int .i64 0] 45)).heap.size (((w.alloc (.cells #[.int .i64 K,.int .i64 a0,.int .i64 a1,.int .i64 a2,.int .i64 a3,.int .i64 a4,.int .i64 a5,.int .i64 a6,.int .i64 a7] 45)).alloc (.cells #[.int .i64 n,.int .i64 t,.int .i64 a,.int .i64 r,.int .i64 s,.int .i64 d,.int .i64 x] 102)).alloc (.cells #[.int .i64 0,.int .i64 0,.int .i64 0,.int .i64 0,.int .i64 0,.int .i64 0,.int .i64 0,.int .i64 0,.int .i64 0] 45)) w1) :
  w1.heap[w.heap.size]? = some (.cells #[.int .i64 K,.int .i64 a0,.int .i64 a1,.int .i64 a2,.int .i64 a3,.int .i64 a4,.int .i64 a5,.int .i64 a6,.int .i64 a7] 45 (0,0)) ∧ w1.heap[w.heap.size + 1]? = some (.cells #[.int .i64 n,.int .i64 t,.int .i64 a,.int .i64 r,.int .i64 s,.int .i64 d,.int .i64 x] 102 (0,0)) ∧ w1.heap[w.heap.size + 2]? = some (.cells #[.int .i64 0,.int .i64 0,.int .i64 0,.int .i64 0,.int .i64 0,.int .i64 0,.int .i64 0,.int .i64 0,.int .i64 0] 45 (0,0)) ∧ Below w.heap.size w w1 ∧ w.heap.size + 3 ≤ w1.heap.size:=by
 have hs:=hb.size
 simp only [World.size_alloc] at hs
 refine ⟨(hb.block _ (by simp only [World.size_alloc];omega)).trans (blk_alloc (blk_alloc (heap_alloc_new w _) _) _),(hb.block _ (by simp only [World.size_alloc];omega)).trans (blk_alloc (by have:=heap_alloc_new (w.alloc (.cells #[.int .i64 K,.int .i64 a0,.int .i64 a1,.int .i64 a2,.int .i64 a3,.int .i64 a4,.int .i64 a5,.int .i64 a6,.int .i64 a7] 45)) (.cells #[.int .i64 n,.int .i64 t,.int .i64 a,.int .i64 r,.int .i64 s,.int .i64 d,.int .i64 x] 102);simpa using this) _),(hb.block _ (by simp only [World.size_alloc];omega)).trans ?_,?_,by omega⟩
 ·have:=heap_alloc_new ((w.alloc (.cells #[.int .i64 K,.int .i64 a0,.int .i64 a1,.int .i64 a2,.int .i64 a3,.int .i64 a4,.int .i64 a5,.int .i64 a6,.int .i64 a7] 45)).alloc (.cells #[.int .i64 n,.int .i64 t,.int .i64 a,.int .i64 r,.int .i64 s,.int .i64 d,.int .i64 x] 102)) (.cells #[.int .i64 0,.int .i64 0,.int .i64 0,.int .i64 0,.int .i64 0,.int .i64 0,.int .i64 0,.int .i64 0,.int .i64 0] 45)
  simpa using this
 ·exact ((((Below.refl w.heap.size w).alloc (Nat.le_refl _) _).alloc (by simp) _).alloc (by simp;omega) _).trans (hb.mono (by simp;omega))
set_option maxRecDepth 20000 in
set_option maxHeartbeats 4000000 in
theorem do_no (K a0 a1 a2 a3 a4 a5 a6 a7 n t a r s d x : Int) (w : World) (hm : matchesB K n t a = false) :
  Calls Tryz.prog 60 #[.agg #[.int .i64 K,.int .i64 a0,.int .i64 a1,.int .i64 a2,.int .i64 a3,.int .i64 a4,.int .i64 a5,.int .i64 a6,.int .i64 a7],.agg #[.int .i64 n,.int .i64 t,.int .i64 a,.int .i64 r,.int .i64 s,.int .i64 d,.int .i64 x]] w fun e w' => e = .returned (btV K [a0,a1,a2,a3,a4,a5,a6,a7]) ∧ Below w.heap.size w w':=by
 have h1:=fun w => matches_any K n t a w
 rw [hm] at h1
 have H1:=Lib.hid h1
 clear h1 hm
 go_enter Tryz.func60,Tryz.ntmps60
 go_wp2_with fail
 refine (H1.out _).mono ?_
 rintro e w1 ⟨rfl,hb1⟩
 obtain ⟨k2,k3,k4,hbb,hz2⟩:=do_boxes hb1
 have HB:=Lib.hid hbb
 have c0:=blk_cell k2 0
 have c1:=blk_cell k2 1
 have c2:=blk_cell k2 2
 have c3:=blk_cell k2 3
 have c4:=blk_cell k2 4
 have c5:=blk_cell k2 5
 have c6:=blk_cell k2 6
 have c7:=blk_cell k2 7
 have c8:=blk_cell k2 8
 have z0:=blk_cell k4 0
 have z1:=blk_cell k4 1
 have z2:=blk_cell k4 2
 have z3:=blk_cell k4 3
 have z4:=blk_cell k4 4
 have z5:=blk_cell k4 5
 have z6:=blk_cell k4 6
 have z7:=blk_cell k4 7
 have z8:=blk_cell k4 8
 simp only [eA,eZ,eS] at c0 z0 c1 z1 c2 z2 c3 z3 c4 z4 c5 z5 c6 z6 c7 z7 c8 z8
 have f0:=blk_free k4 0
 have f1:=blk_free k4 1
 have f2:=blk_free k4 2
 have f3:=blk_free k4 3
 have f4:=blk_free k4 4
 have f5:=blk_free k4 5
 have f6:=blk_free k4 6
 have f7:=blk_free k4 7
 have f8:=blk_free k4 8
 have l2:=blk_lt k2
 have l4:=blk_lt k4
 clear k2 k3 k4 hbb hb1 H1
 go_wp2
 refine bodyPost_ret (v:=.agg #[.int .i64 K,.int .i64 a0,.int .i64 a1,.int .i64 a2,.int .i64 a3,.int .i64 a4,.int .i64 a5,.int .i64 a6,.int .i64 a7]) (by unfold results;try go_simp) rfl ?_
 refine ⟨rfl,Mod.toBelow (F:=[]) ?_ (by simp) (Nat.le_refl _)⟩
 repeat (refine Mod.setCell ?_ (.inr (by simp only;omega)) _)
 exact Mod.ofBelow HB.out
theorem listNat_any (m n : Nat) (hm : m < 256) (hn : n < 256) (w : World) : Calls Tryz.prog 23 #[.int .i64 (bits .and .i64 (m : Int) (n : Int))] w (MadeInts w.heap.size ((natKinds (m &&& n) 8).map fun (k : Nat) => (k : Int)) w):=by
 rw [and_nat m n hm hn]
 have h:=list_any ((m &&& n : Nat) : Int) w
 rw [low8_nat _ (and_lt256 m n hm)] at h
 exact h
theorem natKinds_len (m n : Nat) : (natKinds m n).length ≤ n:=by
 unfold natKinds
 have:=List.length_filter_le (fun k => m.testBit k) (List.range n)
 simpa using this
theorem wrapBig (z : Int) (h1 : -1000000000000 ≤ z) (h2 : z ≤ 1000000000000) : IntKind.i64.wrap z = z:=by
 by_cases h : 0 ≤ z
 ·have e : z % 2 ^ 64 = z:=Int.emod_eq_of_lt h (by omega)
  simp only [IntKind.wrap,IntKind.bits,IntKind.signed,e,Bool.true_and,decide_eq_true_eq]
  split <;> omega
 ·have e : z % 2 ^ 64 = z + 2 ^ 64:=by
   rw [← Int.add_emod_right]
   exact Int.emod_eq_of_lt (by omega) (by omega)
  simp only [IntKind.wrap,IntKind.bits,IntKind.signed,e,Bool.true_and,decide_eq_true_eq]
  split <;> omega
theorem pRun_len (d : Int) (W : List Nat) (i : Nat) : (pRun d W i).length = 8:=by
 induction i with
 | zero => rfl
 | succ i ih =>
  rw [pRun_succ,pStep]
  repeat (first | (split;(try simpa using ih)) | simpa using ih)
theorem row_kind {w : World} {B : Nat} {A : Option Addr} {q : Nat} {N : List Nat} (h : w.ownsRow B 3 1 (.slice A (N.map fun (k : Nat) => (k : Int)).length q) (N.map fun (k : Nat) => (k : Int)).length (ints (N.map fun (k : Nat) => (k : Int)))) {i : Nat} (hi : i < N.length) :
  ∃ g,A = some ⟨g,0,none⟩ ∧ g < w.heap.size ∧ w.cell? ⟨g,i,none⟩ = some (.int .i64 (N[i] : Int)):=by
 obtain ⟨g,cap,cur,he,-,hb,-⟩:=row_some h (by simp;omega)
 cases he
 refine ⟨g,rfl,blk_lt hb,row_cell h ?_⟩
 simp [ints,hi]
set_option maxRecDepth 20000 in
set_option maxHeartbeats 4000000 in
theorem do_yes2 (Kn rn sn : Nat) (hK : Kn < 256) (hr : rn < 256) (hs : sn < 256) (a0 a1 a2 a3 a4 a5 a6 a7 n t a x : Int) (hx : -1000000 ≤ x ∧ x ≤ 1000000) (hv : ∀ v ∈ [a0,a1,a2,a3,a4,a5,a6,a7],-1000000000 ≤ v ∧ v ≤ 1000000000) (w : World) (hm : matchesB (Kn : Int) n t a = true) :
  Calls Tryz.prog 60 #[.agg #[.int .i64 (Kn : Int),.int .i64 a0,.int .i64 a1,.int .i64 a2,.int .i64 a3,.int .i64 a4,.int .i64 a5,.int .i64 a6,.int .i64 a7],.agg #[.int .i64 n,.int .i64 t,.int .i64 a,.int .i64 (rn : Int),.int .i64 (sn : Int),.int .i64 2,.int .i64 x]] w fun e w' => e = .returned (btV (Kn : Int) ((pRun 2 (natKinds (Kn &&& sn) 8) (natKinds (Kn &&& sn) 8).length).map (srcV [a0,a1,a2,a3,a4,a5,a6,a7] x (sumL [a0,a1,a2,a3,a4,a5,a6,a7] x (natKinds (Kn &&& rn) 8))))) ∧ Below w.heap.size w w':=by
 have h1:=fun w => matches_any (Kn : Int) n t a w
 rw [hm] at h1
 have H1:=Lib.hid h1;have HL1:=Lib.hid (listNat_any Kn sn hK hs);have HL2:=Lib.hid (listNat_any Kn rn hK hr)
 obtain ⟨Hx,Hv⟩:=hid2 hx hv
 clear h1 hm hx hv
 go_enter Tryz.func60,Tryz.ntmps60
 go_wp2_with fail
 refine (H1.out _).mono ?_
 rintro e w1 ⟨rfl,hb1⟩
 obtain ⟨k2,k3,k4,hbb,hz2⟩:=do_boxes hb1
 obtain ⟨HB,K2,K3,K4⟩:=hid4 hbb k2 k3 k4
 have c0:=blk_cell k2 0
 have c1:=blk_cell k2 1
 have c2:=blk_cell k2 2
 have c3:=blk_cell k2 3
 have c4:=blk_cell k2 4
 have c5:=blk_cell k2 5
 have c6:=blk_cell k2 6
 have c7:=blk_cell k2 7
 have c8:=blk_cell k2 8
 have s0:=blk_cell k3 0
 have s1:=blk_cell k3 1
 have s2:=blk_cell k3 2
 have s3:=blk_cell k3 3
 have s4:=blk_cell k3 4
 have s5:=blk_cell k3 5
 have s6:=blk_cell k3 6
 simp only [eA,eZ,eS] at c0 c1 c2 c3 c4 c5 c6 c7 c8 s0 s1 s2 s3 s4 s5 s6
 have l2:=blk_lt k2
 have l3:=blk_lt k3
 have l4:=blk_lt k4
 clear k2 k3 k4 hbb hb1 H1
 go_wp2_with fail
 refine (HL1.out _).mono ?_
 rintro e w2 ⟨v5,rfl,hrow5,hb2⟩
 have k2:=(Mod.ofBelow hb2).keep K2.out (by simp)
 have k3:=(Mod.ofBelow hb2).keep K3.out (by simp)
 have k4:=(Mod.ofBelow hb2).keep K4.out (by simp)
 have HB2:=Lib.hid (HB.out.trans (hb2.mono (by omega)));have K22:=Lib.hid k2;have K23:=Lib.hid k3;have K24:=Lib.hid k4;have HR5:=Lib.hid hrow5
 have hsz2:=hb2.size
 clear c0 c1 c2 c3 c4 c5 c6 c7 c8 s0 s1 s2 s3 s4 s5 s6 l2 l3 l4 hb2 hrow5 HB K2 K3 K4 HL1
 have c0:=blk_cell k2 0
 have c1:=blk_cell k2 1
 have c2:=blk_cell k2 2
 have c3:=blk_cell k2 3
 have c4:=blk_cell k2 4
 have c5:=blk_cell k2 5
 have c6:=blk_cell k2 6
 have c7:=blk_cell k2 7
 have c8:=blk_cell k2 8
 have s0:=blk_cell k3 0
 have s1:=blk_cell k3 1
 have s2:=blk_cell k3 2
 have s3:=blk_cell k3 3
 have s4:=blk_cell k3 4
 have s5:=blk_cell k3 5
 have s6:=blk_cell k3 6
 simp only [eA,eZ,eS] at c0 c1 c2 c3 c4 c5 c6 c7 c8 s0 s1 s2 s3 s4 s5 s6
 have l2:=blk_lt k2
 have l3:=blk_lt k3
 have l4:=blk_lt k4
 clear k2 k3 k4
 obtain ⟨A5,q5,rfl,hq5,-⟩:=row_slice HR5.out
 go_wp2_with fail
 refine (HL2.out _).mono ?_
 rintro e w3 ⟨v6,rfl,hrow6,hb3⟩
 have k2:=(Mod.ofBelow hb3).keep (blk_alloc K22.out _) (by simp)
 have k3:=(Mod.ofBelow hb3).keep (blk_alloc K23.out _) (by simp)
 have k4:=(Mod.ofBelow hb3).keep (blk_alloc K24.out _) (by simp)
 have k6:=(Mod.ofBelow hb3).keep (heap_alloc_new w2 _) (by simp)
 have hrow5:=row_mod (HR5.out.alloc _) (Mod.ofBelow hb3) (by simp)
 have HA5:=Lib.hid (row_lt HR5.out)
 have hsz3:=hb3.size
 simp only [World.size_alloc] at hsz3
 have HB3:=Lib.hid ((HB2.out.alloc HB2.out.size _).trans (hb3.mono (by simp;omega)))
 obtain ⟨K32,K33,K34,K36,HR35,HR36⟩:=hid6 k2 k3 k4 k6 hrow5 hrow6
 clear c0 c1 c2 c3 c4 c5 c6 c7 c8 s0 s1 s2 s3 s4 s5 s6 l2 l3 l4 hb3 hrow5 hrow6 HB2 K22 K23 K24 HL2 HR5
 have c0:=blk_cell k2 0
 have c1:=blk_cell k2 1
 have c2:=blk_cell k2 2
 have c3:=blk_cell k2 3
 have c4:=blk_cell k2 4
 have c5:=blk_cell k2 5
 have c6:=blk_cell k2 6
 have c7:=blk_cell k2 7
 have c8:=blk_cell k2 8
 have s0:=blk_cell k3 0
 have s1:=blk_cell k3 1
 have s2:=blk_cell k3 2
 have s3:=blk_cell k3 3
 have s4:=blk_cell k3 4
 have s5:=blk_cell k3 5
 have s6:=blk_cell k3 6
 simp only [eA,eZ,eS] at c0 c1 c2 c3 c4 c5 c6 c7 c8 s0 s1 s2 s3 s4 s5 s6
 have l2:=blk_lt k2
 have l3:=blk_lt k3
 have l4:=blk_lt k4
 have l6:=blk_lt k6
 clear k2 k3 k4 k6
 obtain ⟨A6,q6,rfl,hq6,-⟩:=row_slice HR36.out
 have hN6:=natKinds_len (Kn &&& rn) 8
 have hlt6 : ∀ k (h : k < (natKinds (Kn &&& rn) 8).length),(natKinds (Kn &&& rn) 8)[k] < 8:=fun k h => natKinds_lt (List.getElem_mem h)
 generalize hNe : natKinds (Kn &&& rn) 8 = N at *
 obtain ⟨Hlt6,HNe⟩:=hid2 hlt6 hNe
 clear hlt6 hNe
 have hBt : RepBt w3 w.heap.size (Kn : Int) [a0,a1,a2,a3,a4,a5,a6,a7]:=K32.out
 have HBt:=Lib.hid hBt
 clear hBt
 obtain ⟨vs,hvs⟩ : ∃ vs,vs = [a0,a1,a2,a3,a4,a5,a6,a7]:=⟨_,rfl⟩
 have hvl : vs.length = 8:=by rw [hvs];rfl
 rw [← hvs] at HBt Hv
 obtain ⟨Hvs,Hvl⟩:=hid2 hvs hvl
 clear hvs hvl
 go_wp2
 go_loop [7,35] (fun sm i => ∃ k : Nat,k ≤ N.length ∧ i = .int .i64 k ∧ sm = .int .i64 (sumL vs x (N.take k))) (fun _ i => N.length - (Go.RowKit.intOf i).toNat)
 case atStart => exact ⟨0,by omega,rfl,rfl⟩
 case round =>
  obtain ⟨k,hk,rfl,rfl⟩:=hrel
  by_cases hlt : k < N.length
  ·obtain ⟨g6,rfl,hg6,ck⟩:=row_kind HR36.out hlt
   have hm8:=Hlt6.out k hlt
   have hss : sumL vs x (N.take (k + 1)) = sumL vs x (N.take k) + vs.getD N[k] 0:=by rw [take_succ_get N k hlt,sumL_snoc]
   have hb0:=sumL_bound (x:=x) Hv.out (N.take k)
   have hb1:=sumL_bound (x:=x) Hv.out (N.take (k + 1))
   rw [List.length_take] at hb0 hb1
   have hxx:=Hx.out
   rw [hss] at hb1
   generalize N[k] = m at *
   have hmv : m < vs.length:=by rw [Hvl.out];exact hm8
   have cm:=HBt.out.v hmv
   have hgd : vs.getD m 0 = vs[m]:=by rw [List.getD_eq_getElem?_getD,List.getElem?_eq_getElem hmv];rfl
   rw [hgd] at hss hb1
   generalize vs[m] = y at *
   generalize sumL vs x (N.take k) = S at *
   have hw:=wrapBig (S + y) (by omega) (by omega)
   have hmi : (m : Int) < 8:=by omega
   have Hss:=Lib.hid hss
   clear hss hb0 hb1 hxx hgd hmv
   go_wp2
   go_round
   case rel => exact ⟨k + 1,by omega,by go_num,by rw [Hss.out]⟩
   case measure => simp [Go.RowKit.intOf];omega
  ·obtain rfl : k = N.length:=by omega
   rw [List.take_length]
   have hS:=sumL_bound (x:=x) Hv.out N
   have hM:=natKinds_len (Kn &&& sn) 8
   have hltM : ∀ k (h : k < (natKinds (Kn &&& sn) 8).length),(natKinds (Kn &&& sn) 8)[k] < 8:=fun k h => natKinds_lt (List.getElem_mem h)
   generalize hMe : natKinds (Kn &&& sn) 8 = M at *
   have h0 : vs = (pRun 2 M 0).map (srcV vs x (sumL vs x N)):=by
    rw [Hvs.out]
    show _ = base8.map _
    simp [base8,srcV]
   have h6 : RepBt w3 w2.heap.size (Kn : Int) ((pRun 2 M 0).map (srcV vs x (sumL vs x N))):=by rw [← h0,Hvs.out];exact K36.out
   obtain ⟨HMe,H6,HltM⟩:=hid3 hMe h6 hltM
   clear hMe h0 h6 hltM hlt
   go_wp2
   trace_state
   go_loopw [48] (fun i wr => ∃ k : Nat,k ≤ M.length ∧ i = .int .i64 k ∧ RepBt wr w2.heap.size (Kn : Int) ((pRun 2 M k).map (srcV vs x (sumL vs x N))) ∧ Mod [w2.heap.size] w3 wr) (fun i _ => M.length - (Go.RowKit.intOf i).toNat)
   case atStart => exact ⟨0,by omega,rfl,H6.out,Mod.refl _ _⟩
   case round =>
    obtain ⟨k,hk,rfl,hrep,hmod⟩:=hrel
    have hsz:=hmod.size
    by_cases hlt : k < M.length
    ·have hr5:=row_mod HR35.out hmod (fun k hk => by have:=HA5.out k hk;simp;omega)
     obtain ⟨g5,rfl,hg5,ck⟩:=row_kind hr5 hlt
     have hm8:=HltM.out k hlt
     have hBt:=HBt.out.mod hmod (by simp;omega)
     have k33:=hmod.keep K33.out (by simp;omega)
     have s5:=blk_cell k33 5
     have s6:=blk_cell k33 6
     simp only [eA,eZ,eS] at s5 s6
     have hps:=pRun_succ 2 M k
     have hpl:=pRun_len 2 M k
     have hgd : M.getD k 0 = M[k]:=by rw [List.getD_eq_getElem?_getD,List.getElem?_eq_getElem hlt];rfl
     unfold pStep at hps
     rw [hgd] at hps
     generalize M[k] = m at *
     have hmv : m < vs.length:=by rw [Hvl.out];exact hm8
     have cm:=hBt.v hmv
     have hvd : vs.getD m 0 = vs[m]:=by rw [List.getD_eq_getElem?_getD,List.getElem?_eq_getElem hmv];rfl
     have om:=hrep.v (k:=m) (by rw [List.length_map,hpl];exact hm8)
     have fm:=hrep.free (1 + m)
     have lo:=hrep.lt
     have lb:=hBt.lt
     have ls:=blk_lt k33
     have hset:=hrep.set m
     generalize ((pRun 2 M k).map (srcV vs x (sumL vs x N)))[m]'(by rw [List.length_map,hpl];exact hm8) = old at om
     have hmi : (m : Int) < 8:=by omega
     have Hps:=Lib.hid hps;have HSet:=Lib.hid hset;have Hvd:=Lib.hid hvd;have HS:=Lib.hid hS;have HX:=Lib.hid Hx.out
     clear hps hset hvd hrep hBt k33 hr5 hgd hpl hS c0 c1 c2 c3 c4 c5 c6 c7 c8 s0 s1 s2 s3 s4
     have Hn:=Lib.hid (show pRun 2 M (k + 1) = (pRun 2 M k).set m 16 by rw [Hps.out];simp)
     generalize sumL vs x N = S at *
     have hfin : RepBt (wr.setCell ⟨w2.heap.size,1 + m,none⟩ (.int .i64 (cutI S))) w2.heap.size (Kn : Int) ((pRun 2 M (k + 1)).map (srcV vs x S)):=by
      rw [Hn.out,List.map_set,show srcV vs x S 16 = cutI S by simp [srcV]]
      exact HSet.out (cutI S)
     have HFin:=Lib.hid hfin
     clear hfin
     go_wp2_with (go_at_call 106;refine (cut_any _ _).mono ?_;rintro e w4 ⟨rfl,rfl⟩)
     go_roundw
     case rel => exact ⟨k + 1,by omega,by go_num,HFin.out,hmod.setCell (.inl (by simp)) _⟩
     case measure => simp [Go.RowKit.intOf];omega
    ·obtain rfl : k = M.length:=by omega
     have hpl:=pRun_len 2 M M.length
     have hk4:=hmod.keep K34.out (by simp;omega)
     have hbel:=HB3.out.trans (hmod.toBelow (B:=w.heap.size) (by simp;omega) (by omega))
     have hRes : ((pRun 2 (natKinds (Kn &&& sn) 8) (natKinds (Kn &&& sn) 8).length).map (srcV [a0,a1,a2,a3,a4,a5,a6,a7] x (sumL [a0,a1,a2,a3,a4,a5,a6,a7] x (natKinds (Kn &&& rn) 8))) = (pRun 2 M M.length).map (srcV vs x (sumL vs x N))):=by rw [HMe.out,HNe.out,Hvs.out]
     obtain ⟨rs,hrs⟩ : ∃ rs,rs = (pRun 2 M M.length).map (srcV vs x (sumL vs x N)):=⟨_,rfl⟩
     have hrl : rs.length = 8:=by rw [hrs,List.length_map,hpl]
     rw [← hrs] at hrep hRes
     obtain ⟨HRep,HK4,HBel⟩:=hid3 hrep hk4 hbel
     clear hrs hpl hrep hk4 hbel hmod hS
     have HRes:=Lib.hid hRes
     clear hRes
     match rs,hrl with
     | [b0,b1,b2,b3,b4,b5,b6,b7],_ =>
      have hr0 : wr.heap[w2.heap.size]? = some (.cells #[.int .i64 (Kn : Int),.int .i64 b0,.int .i64 b1,.int .i64 b2,.int .i64 b3,.int .i64 b4,.int .i64 b5,.int .i64 b6,.int .i64 b7] 45 (0,0)):=HRep.out
      have c0:=blk_cell hr0 0
      have c1:=blk_cell hr0 1
      have c2:=blk_cell hr0 2
      have c3:=blk_cell hr0 3
      have c4:=blk_cell hr0 4
      have c5:=blk_cell hr0 5
      have c6:=blk_cell hr0 6
      have c7:=blk_cell hr0 7
      have c8:=blk_cell hr0 8
      have z0:=blk_cell HK4.out 0
      have z1:=blk_cell HK4.out 1
      have z2:=blk_cell HK4.out 2
      have z3:=blk_cell HK4.out 3
      have z4:=blk_cell HK4.out 4
      have z5:=blk_cell HK4.out 5
      have z6:=blk_cell HK4.out 6
      have z7:=blk_cell HK4.out 7
      have z8:=blk_cell HK4.out 8
      simp only [eA,eZ,eS] at c0 z0 c1 z1 c2 z2 c3 z3 c4 z4 c5 z5 c6 z6 c7 z7 c8 z8
      have f0:=blk_free HK4.out 0
      have f1:=blk_free HK4.out 1
      have f2:=blk_free HK4.out 2
      have f3:=blk_free HK4.out 3
      have f4:=blk_free HK4.out 4
      have f5:=blk_free HK4.out 5
      have f6:=blk_free HK4.out 6
      have f7:=blk_free HK4.out 7
      have f8:=blk_free HK4.out 8
      have lr:=blk_lt hr0
      have l4:=blk_lt HK4.out
      clear hr0
      go_wp2
      refine bodyPost_ret (v:=.agg #[.int .i64 (Kn : Int),.int .i64 b0,.int .i64 b1,.int .i64 b2,.int .i64 b3,.int .i64 b4,.int .i64 b5,.int .i64 b6,.int .i64 b7]) (by unfold results;try go_simp) rfl ?_
      refine ⟨by rw [HRes.out];rfl,?_⟩
      refine Mod.toBelow (F:=[]) ?_ (by simp) (Nat.le_refl _)
      repeat (refine Mod.setCell ?_ (.inr (by simp only;omega)) _)
      exact Mod.ofBelow HBel.out
end Go.Proofs.YtfdillpofciicaaGreatDoor
