import Derived.Test.YtehjfmjibiafdaaGreatRunSerialsJ15
/- A part of the proof that RunSerials returns true. -/
namespace Go.Proofs.YtehjfmjibiafdaaGreat
open Go Go.RowKit
attribute [local go_sem] AllFrom.cons_eq AllFrom.nil_eq putF_nil putF_cons wantedL_none wantedL_some OpGoalT OpGoalV OpGoalQ YieldsR preF_nil preF_cons
section
variable {w : World} {p kn m : Nat} {hs : List Hd} {ls : Nat → List Int} {vh : Value} {cs : List (Nat × Nat)} {Fs : Nat → List Nat}
def AddOk (w : World) (p kn m : Nat) (hs : List Hd) (ls : Nat → List Int) (vh : Value) (cs : List (Nat × Nat)) (Fs : Nat → List Nat) (h : Hd) (x : Nat → Int) (e : Ending) (w' : World) : Prop :=
 e = .returned (.tuple #[.int .i64 (hs.length : Int),.int .i64 0]) ∧ ∃ vh' Fs',TabAt w' p kn (hs ++ [h]) (fun k => ls k ++ [x k]) vh' m cs Fs' ∧ (∀ y ∈ tabF p m vh' cs Fs',y ∈ tabF p m vh cs Fs ∨ w.heap.size ≤ y) ∧ Mod (tabF p m vh cs Fs) w w'
theorem TabAt.head {w' : World} (h : TabAt w p kn hs ls vh m cs Fs) {hs' : List Hd} (hp : FieldPost handleC 41 2 w p 1 (tabCs kn vh m) 176 vh hs' w') :
  ∃ vh',TabAt w' p kn hs' ls vh' m cs Fs ∧ (∀ k,vh'.ownBlock = some k → vh.ownBlock = some k ∨ w.heap.size ≤ k) ∧ Mod (p :: vh.ownBlock.toList) w w':=by
 obtain ⟨⟨vh',hf,hl⟩,hm⟩:=hp
 have hnm : m ∉ p :: vh.ownBlock.toList:=by
  intro hx
  rcases List.mem_cons.1 hx with e | hx
  ·exact h.mp e
  ·exact h.mh m (by simpa using hx) rfl
 refine ⟨vh',⟨hf,h.map.mod hm hnm,h.kinds,⟨(h.cols.mod hm (fun kc hk x hx hy => h.cols.off kc hk x hx (by rcases List.mem_cons.1 hy with e | hy <;> simp [*]))).col,h.cols.apart,?_⟩,h.mp,?_⟩,hl,hm⟩
 ·intro kc hk x hx hy
  have hlt:=(h.cols.col kc hk).lt x hx
  rcases List.mem_cons.1 hy with e | hy
  ·exact h.cols.off kc hk x hx (by simp [e])
  ·rcases List.mem_cons.1 hy with e | hy
   ·exact h.cols.off kc hk x hx (by simp [e])
   ·rcases hl x (by simpa using hy) with h1 | h1
    ·exact h.cols.off kc hk x hx (by simp [h1])
    ·omega
 ·intro k hk
  rcases hl k hk with h1 | h1
  ·exact h.mh k h1
  ·have:=h.map.lt;omega
theorem TabAt.base (h : TabAt w p kn hs ls vh m cs Fs) : ∀ x ∈ p :: m :: vh.ownBlock.toList,x < w.heap.size:=fun x hx => h.lt x (by
 simp only [tabF,List.mem_cons,List.mem_append] at hx ⊢
 rcases hx with h | h | h
 ·exact .inl h
 ·exact .inr (.inl h)
 ·exact .inr (.inr (.inl h)))
set_option maxRecDepth 20000 in
set_option maxHeartbeats 8000000 in
theorem add_ok (h : TabAt w p kn hs ls vh m cs Fs) (s g a0 a1 a2 a3 a4 a5 a6 a7 : Int) (hb : beastE (kn : Int) [a0,a1,a2,a3,a4,a5,a6,a7] = 0) (hl : ∀ kc ∈ cs,(ls kc.1).length = hs.length) (hmx : hs.length < 1200000000000) :
  Calls Tryz.prog 131 #[.pointer (some ⟨p,0,none⟩),.agg #[.int .i64 s,.int .i64 g],.agg #[.int .i64 (kn : Int),.int .i64 a0,.int .i64 a1,.int .i64 a2,.int .i64 a3,.int .i64 a4,.int .i64 a5,.int .i64 a6,.int .i64 a7]] w (AddOk w p kn m hs ls vh cs Fs (s,g) (fun k => valK k ((kn : Int),a0,a1,a2,a3,a4,a5,a6,a7))):=by
 have h1:=fun w => checkBeast_any (kn : Int) a0 a1 a2 a3 a4 a5 a6 a7 w
 rw [hb] at h1
 have H1:=Lib.hid h1
 have H:=Lib.hid h;have HL:=Lib.hid hl;have HLT:=Lib.hid h.lt
 clear h1 hb h hl
 go_enter Tryz.func131,Tryz.ntmps131
 go_wp2_with fail
 refine (H1.out _).mono ?_
 rintro e w1 ⟨rfl,hb1⟩
 have k2:=(Mod.ofBelow hb1).keep (blk_alloc (heap_alloc_new w _) _) (by simp)
 have k3:=(Mod.ofBelow hb1).keep (heap_alloc_new (w.alloc _) _) (by simp)
 have hz1:=hb1.size
 have hB:=(((Below.refl w.heap.size w).alloc (Nat.le_refl _) _).alloc (by simp) _).trans (hb1.mono (by simp;omega))
 simp only [World.size_alloc] at k3 hz1
 have ht:=H.out.mod (Mod.mono (Mod.ofBelow (hB.mono (Nat.le_refl _))) (by simp)) (fun k hk => List.not_mem_nil)
 have d0 : w1.cell? ⟨p,0,none⟩ = some (.int .i64 (kn : Int)):=by rw [blk_cell ht.hd.blk];rfl
 obtain ⟨HB,HT,K3⟩:=hid3 hB ht k3
 have c0:=blk_cell k3 0
 simp only [eA,eZ,eS] at c0
 have lc:=blk_lt k3
 have b0:=blk_cell k2 0
 have b1:=blk_cell k2 1
 simp only [eA,eZ,eS] at b0 b1
 have lb:=blk_lt k2
 clear k2 k3 hb1 H1 hB ht
 go_wp2
 refine wp_planR 7 [2] [some 16,some 17,some 18,some 19,some 20,some 21,some 22] [[],[0],[],[2],[2,3],[2,3,4],[0,1,2,3,4,5]] [0,1,2,3,4,5,6] mixed rfl (by kernel_rfl) (by decide) (by decide) rfl ?_
 iterate 7 apply Exists.intro
 refine ⟨rfl,?_,?_⟩
 ·simp only [tS,List.take_zero,AllFrom.cons_eq,AllFrom.nil_eq,OpGoalQ]
  refine ⟨?_,?_,?_,?_,?_,?_,?_,trivial⟩
  all_goals (intro σ hp;(try simp only [gZ,gS,mC,mN,preF_cons,preF_nil,isV,and_true] at hp);(first | (have hq : True:=hp;clear hq hp) | skip))
  all_goals (go_simp;exact ⟨rfl,rfl⟩)
 intro σ hp
 simp only [gZ,gS,mC,mN,preF_cons,preF_nil,isV,and_true] at hp
 simp only [dS,List.drop_zero]
 go_simp
 clear hp
 refine ⟨rfl,?_⟩
 go_wp2
 refine wp_planR 4 [0] [some 23,some 24,some 25,some 26,some 27] [[],[0],[0,1],[],[0,1,2,3]] [0,1,2,3] mixed rfl (by kernel_rfl) (by decide) (by decide) rfl ?_
 iterate 4 apply Exists.intro
 refine ⟨rfl,?_,?_⟩
 ·simp only [tS,List.take_zero,AllFrom.cons_eq,AllFrom.nil_eq,OpGoalQ]
  refine ⟨?_,?_,?_,?_,trivial⟩
  all_goals (intro σ hp;(try simp only [gZ,gS,mC,mN,preF_cons,preF_nil,isV,and_true] at hp);(first | (have hq : True:=hp;clear hq hp) | skip))
  all_goals (go_simp;exact ⟨rfl,rfl⟩)
 intro σ hp
 simp only [gZ,gS,mC,mN,preF_cons,preF_nil,isV,and_true] at hp
 simp only [dS,List.drop_zero]
 go_simp
 clear hp
 go_wp2_with fail
 have ht2 : TabAt w1.drew.drew p kn hs ls vh m cs Fs:=HT.out.mod (G:=[]) ((Mod.refl _ w1).drew.drew) (by simp)
 refine (hdlAdd_any p 1 _ _ vh hs s g _ ht2.hd (by omega)).mono ?_
 rintro e w3 ⟨rfl,hpost⟩
 obtain ⟨vh',ht3,hloc,hm3⟩:=ht2.head hpost
 have hs3 : w1.heap.size ≤ w3.heap.size:=hm3.size
 have c2 : w3.cell? ⟨p,2,none⟩ = some (.map (some m)):=by rw [blk_cell ht3.hd.blk];rfl
 obtain ⟨o,hrun,hR⟩:=ht3.map.range Tryz.underlying174
 have hbb : (#[.int .i64 (kn : Int),.int .i64 a0,.int .i64 a1,.int .i64 a2,.int .i64 a3,.int .i64 a4,.int .i64 a5,.int .i64 a6,.int .i64 a7] : Array Value) = ((Value.int .i64 (kn : Int) :: ints [a0,a1,a2,a3,a4,a5,a6,a7]).toArray):=rfl
 have hBt : RepBt w3 (w.heap.size + 1) (kn : Int) [a0,a1,a2,a3,a4,a5,a6,a7]:=hm3.keep K3.out (by
  intro hx
  have hx' : w.heap.size + 1 ∈ tabF p m vh cs Fs:=by
   simp only [tabF,List.mem_cons,List.mem_append]
   rcases List.mem_cons.1 hx with e | hx
   ·exact .inl e
   ·exact .inr (.inr (.inl hx))
  have:=HLT.out _ hx';omega)
 obtain ⟨HR,HBt,HT3,HLoc,HM3⟩:=hid5 hR hBt ht3 hloc hm3
 have hpl:=HT3.out.hd.lt
 clear hR hBt hbb ht3 hloc hm3 ht2 hpost d0 c0 lc b0 b1 lb
 go_wp2
 refine ⟨rfl,?_⟩
 go_wp2
 have hW3 : ∃ W3,W3 = w3.alloc o:=⟨_,rfl⟩
 obtain ⟨W3,hW3⟩:=hW3
 rw [← hW3]
 have hsW : W3.heap.size = w3.heap.size + 1:=by rw [hW3];simp
 have hmW : Mod [] w3 W3:=by rw [hW3];exact (Mod.refl _ _).alloc _
 have HR3:=Lib.hid (show RangeAt Tryz.prog 3 W3 m w3.heap.size (cs.map colPr) (cs.map colPr) by rw [hW3];exact HR.out)
 have HTW:=Lib.hid (HT3.out.mod hmW (by simp));have HBW:=Lib.hid (RepBt.mod HBt.out hmW (by simp))
 obtain ⟨HSW,HMW⟩:=hid2 hsW hmW
 have hnew0 : ∀ kd ∈ cs,∀ x ∈ Fs kd.1,x ∈ Fs kd.1 ∨ W3.heap.size ≤ x:=fun _ _ _ h => .inl h
 have HN0:=Lib.hid hnew0
 have HFlt:=Lib.hid (show ∀ kd ∈ cs,∀ x ∈ Fs kd.1,x < w.heap.size from fun kd hd x hx => (H.out.cols.col kd hd).lt x hx)
 have hrlt : w3.heap.size < W3.heap.size:=by omega
 clear hW3 hsW hmW hrun c2 HR hnew0
 generalize hrw : w3.heap.size = r at *
 have HRw:=Lib.hid hrw
 clear hrw
 go_loopw [9] (fun _ wr => ∃ (ts : List (Nat × Nat)) (Fs' : Nat → List Nat),RangeAt Tryz.prog 3 wr m r (cs.map colPr) (ts.map colPr) ∧ (∀ kc ∈ ts,kc ∈ cs) ∧ (ts.map (·.1)).Nodup ∧ ColsAt wr cs (fun k => if k ∈ ts.map (·.1) then ls k else ls k ++ [valK k ((kn : Int),a0,a1,a2,a3,a4,a5,a6,a7)]) Fs' (p :: m :: vh'.ownBlock.toList) ∧
  (∀ kd ∈ cs,∀ x ∈ Fs' kd.1,x ∈ Fs kd.1 ∨ W3.heap.size ≤ x) ∧ Mod (r :: cs.flatMap (fun kc => Fs kc.1)) W3 wr) (fun _ wr => wr.rangeLeft m r)
 case atStart => exact ⟨cs,Fs,HR3.out,fun _ h => h,H.out.nodup,HTW.out.cols.congr (fun kc hk => by rw [if_pos (List.mem_map.2 ⟨kc,hk,rfl⟩)]),HN0.out,Mod.refl _ _⟩
 case round =>
  obtain ⟨ts,Fs',hR,hsub,hnd,hcols,hnew,hmod⟩:=hrel
  have hwr:=hmod.size
  have hbF : ∀ x,w.heap.size ≤ x → x < r → x ∉ r :: cs.flatMap (fun kc => Fs kc.1):=by
   intro x h1 h2 hx
   rcases List.mem_cons.1 hx with e | hx
   ·omega
   ·obtain ⟨kd,hd,hx⟩:=List.mem_flatMap.1 hx
    have:=HFlt.out kd hd x hx;omega
  have hbase:=HTW.out.base
  have hrw:=HRw.out
  have hsz1 : W3.heap.size = r + 1:=HSW.out
  by_cases hts : ts = []
  ·subst hts
   have hov:=fun ty => RangeAt.over (P:=Tryz.prog) (by simpa using hR) ty
   have hpF : p ∉ r :: cs.flatMap (fun kc => Fs kc.1):=by
    intro hx
    rcases List.mem_cons.1 hx with e | hx
    ·have:=hbase p (by simp);omega
    ·obtain ⟨kd,hd,hx⟩:=List.mem_flatMap.1 hx
     exact H.out.cols.off kd hd p hx (by simp)
   have hbaseF : ∀ x ∈ p :: m :: vh'.ownBlock.toList,x ∉ r :: cs.flatMap (fun kc => Fs kc.1):=by
    intro x hxb hx
    rcases List.mem_cons.1 hx with e | hx
    ·subst e
     have:=HT3.out.base x hxb;omega
    ·obtain ⟨kd,hd,hx⟩:=List.mem_flatMap.1 hx
     exact HTW.out.cols.off kd hd x hx hxb
   have hhd:=HTW.out.hd.mod hmod (hbaseF p (by simp)) (fun k hk => hbaseF k (by simp [hk]))
   have hfin : TabAt wr p kn (hs ++ [(s,g)]) (fun k => ls k ++ [valK k ((kn : Int),a0,a1,a2,a3,a4,a5,a6,a7)]) vh' m cs Fs' :=
    ⟨hhd,HTW.out.map.mod hmod (hbaseF m (by simp)),H.out.kinds,hcols.congr (fun kc _ => by simp),HTW.out.mp,HTW.out.mh⟩
   have hturn : ∀ y ∈ tabF p m vh' cs Fs',y ∈ tabF p m vh cs Fs ∨ w.heap.size ≤ y:=by
    intro y hy
    simp only [tabF,List.mem_cons,List.mem_append,List.mem_flatMap] at hy ⊢
    rcases hy with h1 | h1 | h1 | ⟨kd,hd,h1⟩
    ·exact .inl (.inl h1)
    ·exact .inl (.inr (.inl h1))
    ·rcases HLoc.out y (by simpa using h1) with h2 | h2
     ·exact .inl (.inr (.inr (.inl (by simp [h2]))))
     ·right;have : w1.drew.drew.heap.size = w1.heap.size:=rfl;omega
    ·rcases hnew kd hd y h1 with h2 | h2
     ·exact .inl (.inr (.inr (.inr ⟨kd,hd,h2⟩)))
     ·right;omega
   have hmall : Mod (tabF p m vh cs Fs) w wr:=by
    have ha : Mod (tabF p m vh cs Fs) w w1.drew.drew:=((Mod.ofBelow HB.out).mono (by simp)).drew.drew
    have hb : Mod (tabF p m vh cs Fs) w w3:=ha.trans HM3.out (fun x hx => .inl (by
     simp only [tabF,List.mem_cons,List.mem_append] at hx ⊢
     rcases hx with h1 | h1
     ·exact .inl h1
     ·exact .inr (.inr (.inl h1))))
    have hc : Mod (tabF p m vh cs Fs) w W3:=hb.trans HMW.out (by simp)
    refine hc.trans hmod (fun x hx => ?_)
    rcases List.mem_cons.1 hx with e | hx
    ·right;omega
    ·left
     simp only [tabF,List.mem_cons,List.mem_append]
     exact .inr (.inr (.inr hx))
   have hpc:=hhd.cell
   have hrow:=hhd.row
   obtain ⟨A2,cap2,he,-,-⟩:=row_slice hrow
   rw [he] at hpc
   have hll : (hs ++ [(s,g)]).length = hs.length + 1:=by simp
   rw [hll] at hpc
   obtain ⟨HFin,HTurn,HMall⟩:=hid3 hfin hturn hmall
   have hle : hs.length ≤ 1200000000000:=by omega
   clear hrw hsz1 hfin hturn hmall hhd hrow he hll hpF hbaseF hbF hbase hR hsub hnd hcols hnew hmod
   go_wp2
   go_ret2
   exact ⟨rfl,vh',Fs',HFin.out,HTurn.out,HMall.out⟩
  ·obtain ⟨t1,kc,t2,w5,rfl,hnx,hen,hR2,hm5,hs5⟩:=hR.nextC hts
   have hkc : kc ∈ cs:=hsub kc (by simp)
   have hk8 : kc.1 < 8:=by
    have h2 : kc.1 ∈ natKinds kn 8:=by rw [← H.out.kinds];exact List.mem_map.2 ⟨kc,hkc,rfl⟩
    exact natKinds_lt h2
   have hbt5 : RepBt w5 (w.heap.size + 1) (kn : Int) [a0,a1,a2,a3,a4,a5,a6,a7]:=(RepBt.mod HBW.out hmod (hbF _ (by omega) (by omega))).mod hm5 (by simp;omega)
   have hrF : ∀ kd ∈ cs,∀ x ∈ Fs' kd.1,x ≠ r:=by
    intro kd hd x hx
    rcases hnew kd hd x hx with h1 | h1
    ·have:=HFlt.out kd hd x h1;omega
    ·omega
   have hcols5:=hcols.mod hm5 (fun kd hd x hx => by simpa using hrF kd hd x hx)
   obtain ⟨v,hf,hF⟩:=hcols5.col kc hkc
   have hlen:=HL.out kc hkc
   have hin : kc.1 ∈ (t1 ++ kc :: t2).map (·.1):=by simp
   rw [if_pos hin] at hf
   have cv:=RepBt.v hbt5 (k:=kc.1) (by simpa using hk8)
   have hxv : valK kc.1 ((kn : Int),a0,a1,a2,a3,a4,a5,a6,a7) = [a0,a1,a2,a3,a4,a5,a6,a7][kc.1]'(by simpa using hk8):=by
    unfold valK btI
    rw [List.getD_cons_succ,List.getD_eq_getElem?_getD,List.getElem?_eq_getElem (by simpa using hk8)];rfl
   rw [← hxv] at cv
   have hcall:=colAdd_any kc.2 0 #[v] 179 v (ls kc.1) (valK kc.1 ((kn : Int),a0,a1,a2,a3,a4,a5,a6,a7)) w5 hf (by omega)
   have hk8i : (kc.1 : Int) < 8:=by omega
   have hfin : ∀ w6,FieldPost intC 3 1 w5 kc.2 0 #[v] 179 v (ls kc.1 ++ [valK kc.1 ((kn : Int),a0,a1,a2,a3,a4,a5,a6,a7)]) w6 →
     (∃ (ts : List (Nat × Nat)) (Fs' : Nat → List Nat),RangeAt Tryz.prog 3 w6 m r (cs.map colPr) (ts.map colPr) ∧ (∀ kc ∈ ts,kc ∈ cs) ∧ (ts.map (·.1)).Nodup ∧ ColsAt w6 cs (fun k => if k ∈ ts.map (·.1) then ls k else ls k ++ [valK k ((kn : Int),a0,a1,a2,a3,a4,a5,a6,a7)]) Fs' (p :: m :: vh'.ownBlock.toList) ∧
      (∀ kd ∈ cs,∀ x ∈ Fs' kd.1,x ∈ Fs kd.1 ∨ W3.heap.size ≤ x) ∧ Mod (r :: cs.flatMap (fun kc => Fs kc.1)) W3 w6) ∧ w6.rangeLeft m r < wr.rangeLeft m r:=by
    intro w6 hp6
    obtain ⟨Fs2,hc6,hn6,hm6⟩:=hcols5.step H.out.nodup (fun x hx => by have:=hbase x hx;omega) hkc hF hp6
    have hR6:=hR2.mod hm6 (fun hx => hcols.off kc hkc m hx (by simp)) (fun hx => hrF kc hkc r hx rfl)
    refine ⟨⟨t1 ++ t2,Fs2,hR6,fun kd hd => hsub kd (by rcases List.mem_append.1 hd with h | h <;> simp [h]),List.Nodup.sublist (List.Sublist.map _ (List.Sublist.append_left (List.sublist_cons_self _ _) _)) hnd,hc6.congr ?_,?_,?_⟩,by rw [hR6.left_eq,hR.left_eq];simp⟩
    ·intro kd hd
     rw [List.map_append,List.map_cons] at hnd
     have hnd2:=List.nodup_append.1 hnd
     by_cases e : kd.1 = kc.1
     ·rw [e,updL_same,if_neg]
      rw [List.map_append,List.mem_append]
      rintro (hm | hm)
      ·exact hnd2.2.2 _ hm _ (by simp) rfl
      ·exact (List.nodup_cons.1 hnd2.2.1).1 hm
     ·rw [updL_ne _ _ e]
      have : kd.1 ∈ (t1 ++ kc :: t2).map (·.1) ↔ kd.1 ∈ (t1 ++ t2).map (·.1):=by
       simp only [List.map_append,mC,List.mem_append,List.mem_cons]
       constructor
       ·rintro (hm | hm | hm)
        ·exact .inl hm
        ·exact absurd hm e
        ·exact .inr hm
       ·rintro (hm | hm)
        ·exact .inl hm
        ·exact .inr (.inr hm)
      simp only [this]
    ·intro kd hd x hx
     rcases hn6 kd hd x hx with h1 | h1
     ·exact hnew kd hd x h1
     ·right;omega
    ·refine (hmod.trans hm5 (fun x hx => .inl (by simp at hx;simp [hx]))).trans hm6 (fun x hx => ?_)
     rcases hnew kc hkc x hx with h1 | h1
     ·exact .inl (List.mem_cons_of_mem _ (List.mem_flatMap.2 ⟨kc,hkc,h1⟩))
     ·exact .inr h1
   obtain ⟨HCall,HFin⟩:=hid2 hcall hfin
   have hbl5:=RepBt.lt hbt5
   obtain ⟨k,c⟩:=kc
   clear hrw hsz1 hfin hcall hxv hin hlen hf hF hcols5 hrF hbt5 hR2 hm5 hs5 hts hmod hnew hcols hnd hsub hR hk8 hkc hbF hbase
   simp only at hnx hen cv hk8i
   go_wp2_with fail
   refine HCall.out.mono ?_
   rintro e w6 ⟨rfl,hp6⟩
   have HF6:=Lib.hid (HFin.out w6 hp6)
   clear hp6 HFin
   go_wp2
   exact HF6.out
end
section
variable {w : World} {p kn m : Nat} {hs : List Hd} {ls : Nat → List Int} {vh : Value} {cs : List (Nat × Nat)} {Fs : Nat → List Nat}
def RemOk (w : World) (p kn m : Nat) (hs : List Hd) (ls : Nat → List Int) (vh : Value) (cs : List (Nat × Nat)) (Fs : Nat → List Nat) (q : Nat) (l : List Int) (e : Ending) (w' : World) : Prop :=
 e = .returned (.tuple #[.agg (ints l).toArray,.int .i64 0]) ∧ ∃ vh' Fs',TabAt w' p kn (remL hs q) (fun k => remL (ls k) q) vh' m cs Fs' ∧ (∀ y ∈ tabF p m vh' cs Fs',y ∈ tabF p m vh cs Fs ∨ w.heap.size ≤ y) ∧ Mod (tabF p m vh cs Fs) w w'
set_option maxRecDepth 20000 in
set_option maxHeartbeats 8000000 in
theorem remove_ok (h : TabAt w p kn hs ls vh m cs Fs) (q : Nat) (hq : q < hs.length) (hl : ∀ kc ∈ cs,(ls kc.1).length = hs.length) (hmx : hs.length ≤ 1200000000000) :
  Calls Tryz.prog 143 #[.pointer (some ⟨p,0,none⟩),.int .i64 q] w (RemOk w p kn m hs ls vh cs Fs q (rowI kn hs[q] fun k => (ls k).getD q 0)):=by
 have h1:=row_yes (h.mod ((Mod.refl [] w).alloc (.cells #[.int .i64 0,.int .i64 0,.int .i64 0,.int .i64 0,.int .i64 0,.int .i64 0,.int .i64 0,.int .i64 0,.int .i64 0,.int .i64 0,.int .i64 0] 69)) (by simp)) q hq hl hmx
 obtain ⟨rs,hrs⟩ : ∃ rs,rs = rowI kn hs[q] fun k => (ls k).getD q 0:=⟨_,rfl⟩
 have hrl : rs.length = 11:=by rw [hrs,← rowT_nil,rowT_length]
 have HRs0:=Lib.hid hrs
 rw [← hrs] at h1
 match rs,hrl with
 | [b0,b1,b2,b3,b4,b5,b6,b7,b8,b9,b10],_ =>
 have HRs:=Lib.hid HRs0.out
 have H1:=Lib.hid h1
 have H:=Lib.hid h;have HL:=Lib.hid hl;have HLT:=Lib.hid h.lt
 clear h1 h hl hrs HRs0
 go_enter Tryz.func143,Tryz.ntmps143
 go_wp2_with fail
 refine H1.out.mono ?_
 rintro e w1 ⟨rfl,hb⟩
 have hk4:=(Mod.ofBelow hb).keep (heap_alloc_new w (.cells #[.int .i64 0,.int .i64 0,.int .i64 0,.int .i64 0,.int .i64 0,.int .i64 0,.int .i64 0,.int .i64 0,.int .i64 0,.int .i64 0,.int .i64 0] 69)) (by simp)
 have hB:=((Below.refl w.heap.size w).alloc (Nat.le_refl _) _).trans (hb.mono (by simp))
 have hz1:=hb.size
 simp only [World.size_alloc] at hz1
 obtain ⟨HB,HK40⟩:=hid2 hB hk4
 clear hb hk4 hB H1
 simp only [ints,mC,mN]
 go_wp2_with fail
 obtain ⟨w2,hw2⟩ : ∃ w2,w2 = w1.alloc (.cells #[.int .i64 b0,.int .i64 b1,.int .i64 b2,.int .i64 b3,.int .i64 b4,.int .i64 b5,.int .i64 b6,.int .i64 b7,.int .i64 b8,.int .i64 b9,.int .i64 b10] 69):=⟨_,rfl⟩
 have hm2 : Mod [] w w2:=by rw [hw2];exact (Mod.ofBelow HB.out).alloc _
 have hsz2 : w2.heap.size = w1.heap.size + 1:=by rw [hw2];simp
 have hk6 : w2.heap[w1.heap.size]? = some (.cells #[.int .i64 b0,.int .i64 b1,.int .i64 b2,.int .i64 b3,.int .i64 b4,.int .i64 b5,.int .i64 b6,.int .i64 b7,.int .i64 b8,.int .i64 b9,.int .i64 b10] 69 (0,0)):=by rw [hw2];exact heap_alloc_new w1 _
 have hk42 : w2.heap[w.heap.size]? = some (.cells #[.int .i64 0,.int .i64 0,.int .i64 0,.int .i64 0,.int .i64 0,.int .i64 0,.int .i64 0,.int .i64 0,.int .i64 0,.int .i64 0,.int .i64 0] 69 (0,0)):=by rw [hw2];exact blk_alloc HK40.out _
 rw [← hw2]
 have ht2:=H.out.mod hm2 (by simp)
 refine (hdlRem_any p 1 _ _ vh hs q w2 ht2.hd hq hmx).mono ?_
 rintro e w3 ⟨rfl,hpost⟩
 obtain ⟨vh',ht3,hloc,hm3⟩:=ht2.head hpost
 have hs3 : w2.heap.size ≤ w3.heap.size:=hm3.size
 have hnot : ∀ b,w.heap.size ≤ b → b < w2.heap.size → b ∉ p :: vh.ownBlock.toList:=by
  intro b h1 h2 hx
  have hx' : b ∈ tabF p m vh cs Fs:=by
   simp only [tabF,List.mem_cons,List.mem_append]
   rcases List.mem_cons.1 hx with e | hx
   ·exact .inl e
   ·exact .inr (.inr (.inl hx))
  have:=HLT.out _ hx';omega
 have hk63:=hm3.keep hk6 (hnot _ (by omega) (by omega))
 have hk43:=hm3.keep hk42 (hnot _ (by omega) (by omega))
 have c2 : w3.cell? ⟨p,2,none⟩ = some (.map (some m)):=by rw [blk_cell ht3.hd.blk];rfl
 obtain ⟨o,hrun,hR⟩:=ht3.map.range Tryz.underlying174
 have HR:=Lib.hid hR;have HT3:=Lib.hid ht3;have HLoc:=Lib.hid (show ∀ k,vh'.ownBlock = some k → vh.ownBlock = some k ∨ w.heap.size < k from fun k hk => (hloc k hk).imp id (fun e => by omega));have HM3:=Lib.hid ((hm2.mono (G:=p :: vh.ownBlock.toList) (by simp)).trans hm3 (fun x hx => .inl hx))
 obtain ⟨HK6,HK4⟩:=hid2 hk63 hk43
 have hpl:=HT3.out.hd.lt
 have hws : w.heap.size < w1.heap.size:=by omega
 have hws1 : w1.heap.size < w3.heap.size:=by omega
 clear hR ht3 hloc hm3 ht2 hpost hm2 hsz2 hk6 hk42 hw2 hnot hk63 hk43 HB HK40
 go_wp2
 have hW3 : ∃ W3,W3 = w3.alloc o:=⟨_,rfl⟩
 obtain ⟨W3,hW3⟩:=hW3
 rw [← hW3]
 have hsW : W3.heap.size = w3.heap.size + 1:=by rw [hW3];simp
 have hmW : Mod [] w3 W3:=by rw [hW3];exact (Mod.refl _ _).alloc _
 have HR3:=Lib.hid (show RangeAt Tryz.prog 3 W3 m w3.heap.size (cs.map colPr) (cs.map colPr) by rw [hW3];exact HR.out)
 have HTW:=Lib.hid (HT3.out.mod hmW (by simp))
 obtain ⟨HSW,HMW⟩:=hid2 hsW hmW
 have hnew0 : ∀ kd ∈ cs,∀ x ∈ Fs kd.1,x ∈ Fs kd.1 ∨ W3.heap.size ≤ x:=fun _ _ _ h => .inl h
 have HN0:=Lib.hid hnew0
 have HFlt:=Lib.hid (show ∀ kd ∈ cs,∀ x ∈ Fs kd.1,x < w.heap.size from fun kd hd x hx => (H.out.cols.col kd hd).lt x hx)
 have hrlt : w3.heap.size < W3.heap.size:=by omega
 clear hW3 hsW hmW hrun c2 HR hnew0
 generalize hrw : w3.heap.size = r at *
 have HRw:=Lib.hid hrw
 clear hrw
 go_loopw [9] (fun _ wr => ∃ (ts : List (Nat × Nat)) (Fs' : Nat → List Nat),RangeAt Tryz.prog 3 wr m r (cs.map colPr) (ts.map colPr) ∧ (∀ kc ∈ ts,kc ∈ cs) ∧ (ts.map (·.1)).Nodup ∧ ColsAt wr cs (fun k => if k ∈ ts.map (·.1) then ls k else remL (ls k) q) Fs' (p :: m :: vh'.ownBlock.toList) ∧
  (∀ kd ∈ cs,∀ x ∈ Fs' kd.1,x ∈ Fs kd.1 ∨ W3.heap.size ≤ x) ∧ Mod (r :: cs.flatMap (fun kc => Fs kc.1)) W3 wr) (fun _ wr => wr.rangeLeft m r)
 case atStart => exact ⟨cs,Fs,HR3.out,fun _ h => h,H.out.nodup,HTW.out.cols.congr (fun kc hk => by rw [if_pos (List.mem_map.2 ⟨kc,hk,rfl⟩)]),HN0.out,Mod.refl _ _⟩
 case round =>
  obtain ⟨ts,Fs',hR,hsub,hnd,hcols,hnew,hmod⟩:=hrel
  have hwr:=hmod.size
  have hbF : ∀ x,w.heap.size ≤ x → x < r → x ∉ r :: cs.flatMap (fun kc => Fs kc.1):=by
   intro x h1 h2 hx
   rcases List.mem_cons.1 hx with e | hx
   ·omega
   ·obtain ⟨kd,hd,hx⟩:=List.mem_flatMap.1 hx
    have:=HFlt.out kd hd x hx;omega
  have hbase:=HTW.out.base
  have hrw:=HRw.out
  have hsz1 : W3.heap.size = r + 1:=HSW.out
  by_cases hts : ts = []
  ·subst hts
   have hov:=fun ty => RangeAt.over (P:=Tryz.prog) (by simpa using hR) ty
   have hpF : p ∉ r :: cs.flatMap (fun kc => Fs kc.1):=by
    intro hx
    rcases List.mem_cons.1 hx with e | hx
    ·have:=hbase p (by simp);omega
    ·obtain ⟨kd,hd,hx⟩:=List.mem_flatMap.1 hx
     exact H.out.cols.off kd hd p hx (by simp)
   have hbaseF : ∀ x ∈ p :: m :: vh'.ownBlock.toList,x ∉ r :: cs.flatMap (fun kc => Fs kc.1):=by
    intro x hxb hx
    rcases List.mem_cons.1 hx with e | hx
    ·subst e
     have:=HT3.out.base x hxb;omega
    ·obtain ⟨kd,hd,hx⟩:=List.mem_flatMap.1 hx
     exact HTW.out.cols.off kd hd x hx hxb
   have hhd:=HTW.out.hd.mod hmod (hbaseF p (by simp)) (fun k hk => hbaseF k (by simp [hk]))
   have hfin : TabAt wr p kn (remL hs q) (fun k => remL (ls k) q) vh' m cs Fs' :=
    ⟨hhd,HTW.out.map.mod hmod (hbaseF m (by simp)),H.out.kinds,hcols.congr (fun kc _ => by simp),HTW.out.mp,HTW.out.mh⟩
   have hturn : ∀ y ∈ tabF p m vh' cs Fs',y ∈ tabF p m vh cs Fs ∨ w.heap.size ≤ y:=by
    intro y hy
    simp only [tabF,List.mem_cons,List.mem_append,List.mem_flatMap] at hy ⊢
    rcases hy with h1 | h1 | h1 | ⟨kd,hd,h1⟩
    ·exact .inl (.inl h1)
    ·exact .inl (.inr (.inl h1))
    ·rcases HLoc.out y (by simpa using h1) with h2 | h2
     ·exact .inl (.inr (.inr (.inl (by simp [h2]))))
     ·right;omega
    ·rcases hnew kd hd y h1 with h2 | h2
     ·exact .inl (.inr (.inr (.inr ⟨kd,hd,h2⟩)))
     ·right;omega
   have hmall : Mod (tabF p m vh cs Fs) w wr:=by
    have hb : Mod (tabF p m vh cs Fs) w w3:=HM3.out.mono (fun x hx => .inl (by
     simp only [tabF,List.mem_cons,List.mem_append] at hx ⊢
     rcases hx with h1 | h1
     ·exact .inl h1
     ·exact .inr (.inr (.inl h1))))
    have hc : Mod (tabF p m vh cs Fs) w W3:=hb.trans HMW.out (by simp)
    refine hc.trans hmod (fun x hx => ?_)
    rcases List.mem_cons.1 hx with e | hx
    ·right;omega
    ·left
     simp only [tabF,List.mem_cons,List.mem_append]
     exact .inr (.inr (.inr hx))
   have hall : Mod [w.heap.size,w1.heap.size] w3 wr → True:=fun _ => trivial
   have hk6:=hmod.keep (HMW.out.keep HK6.out (by simp)) (hbF _ (by omega) (by omega))
   have hk4:=hmod.keep (HMW.out.keep HK4.out (by simp)) (hbF _ (by omega) (by omega))
   have c0:=blk_cell hk6 0
   have c1:=blk_cell hk6 1
   have c2:=blk_cell hk6 2
   have c3:=blk_cell hk6 3
   have c4:=blk_cell hk6 4
   have c5:=blk_cell hk6 5
   have c6:=blk_cell hk6 6
   have c7:=blk_cell hk6 7
   have c8:=blk_cell hk6 8
   have c9:=blk_cell hk6 9
   have c10:=blk_cell hk6 10
   have z0:=blk_cell hk4 0
   have z1:=blk_cell hk4 1
   have z2:=blk_cell hk4 2
   have z3:=blk_cell hk4 3
   have z4:=blk_cell hk4 4
   have z5:=blk_cell hk4 5
   have z6:=blk_cell hk4 6
   have z7:=blk_cell hk4 7
   have z8:=blk_cell hk4 8
   have z9:=blk_cell hk4 9
   have z10:=blk_cell hk4 10
   have f0:=blk_free hk4 0
   have f1:=blk_free hk4 1
   have f2:=blk_free hk4 2
   have f3:=blk_free hk4 3
   have f4:=blk_free hk4 4
   have f5:=blk_free hk4 5
   have f6:=blk_free hk4 6
   have f7:=blk_free hk4 7
   have f8:=blk_free hk4 8
   have f9:=blk_free hk4 9
   have f10:=blk_free hk4 10
   simp only [eA,eZ,eS] at c0 z0 c1 z1 c2 z2 c3 z3 c4 z4 c5 z5 c6 z6 c7 z7 c8 z8 c9 z9 c10 z10
   have l6:=blk_lt hk6
   have l4:=blk_lt hk4
   have n1 : w1.heap.size ≠ w.heap.size:=by omega
   have n2 : w.heap.size ≠ w1.heap.size:=by omega
   obtain ⟨HFin,HTurn,HMall⟩:=hid3 hfin hturn hmall
   have hnotF : w.heap.size ∉ tabF p m vh' cs Fs':=by
    intro hx
    simp only [tabF,List.mem_cons,List.mem_append,List.mem_flatMap] at hx
    rcases hx with h1 | h1 | h1 | ⟨kd,hd,h1⟩
    ·have:=HLT.out p (by simp [tabF]);omega
    ·have:=HLT.out m (by simp [tabF]);omega
    ·rcases HLoc.out _ (by simpa using h1) with h2 | h2
     ·have:=HLT.out w.heap.size (by simp [tabF,h2]);omega
     ·omega
    ·rcases hnew kd hd _ h1 with h2 | h2
     ·have:=HFlt.out kd hd _ h2;omega
     ·omega
   have HNotF:=Lib.hid hnotF
   clear hall hnotF hk6 hk4 hrw hsz1 hfin hturn hmall hhd hpF hbaseF hbF hbase hR hsub hnd hcols hnew hmod hz1
   go_wp2
   refine bodyPost_ret (v:=.tuple #[.agg #[.int .i64 b0,.int .i64 b1,.int .i64 b2,.int .i64 b3,.int .i64 b4,.int .i64 b5,.int .i64 b6,.int .i64 b7,.int .i64 b8,.int .i64 b9,.int .i64 b10],.int .i64 0]) (by unfold results;try go_simp) rfl ?_
   have hms : ∀ (W : World),W = wr → Mod [w.heap.size] wr W:=fun W e => by rw [e];exact Mod.refl _ _
   refine ⟨by rw [← HRs.out];rfl,vh',Fs',HFin.out.mod (G:=[w.heap.size]) ?_ (fun k hk e => by simp at e;exact HNotF.out (e ▸ hk)),HTurn.out,HMall.out.trans (G:=[w.heap.size]) ?_ (fun x hx => .inr (by simp at hx;omega))⟩
   all_goals
    repeat (refine Mod.setCell ?_ (.inl (by simp)) _)
    exact Mod.refl _ _
  ·obtain ⟨t1,kc,t2,w5,rfl,hnx,hen,hR2,hm5,hs5⟩:=hR.nextC hts
   have hkc : kc ∈ cs:=hsub kc (by simp)
   have hk8 : kc.1 < 8:=by
    have h2 : kc.1 ∈ natKinds kn 8:=by rw [← H.out.kinds];exact List.mem_map.2 ⟨kc,hkc,rfl⟩
    exact natKinds_lt h2
   have hrF : ∀ kd ∈ cs,∀ x ∈ Fs' kd.1,x ≠ r:=by
    intro kd hd x hx
    rcases hnew kd hd x hx with h1 | h1
    ·have:=HFlt.out kd hd x h1;omega
    ·omega
   have hcols5:=hcols.mod hm5 (fun kd hd x hx => by simpa using hrF kd hd x hx)
   obtain ⟨v,hf,hF⟩:=hcols5.col kc hkc
   have hlen:=HL.out kc hkc
   have hin : kc.1 ∈ (t1 ++ kc :: t2).map (·.1):=by simp
   rw [if_pos hin] at hf
   have hcall:=colRem_any kc.2 0 #[v] 179 v (ls kc.1) q w5 hf (by omega) (by omega)
   generalize (ls kc.1)[q]'(by omega) = old at hcall
   have hk8i : (kc.1 : Int) < 8:=by omega
   have hfin : ∀ w6,FieldPost intC 3 1 w5 kc.2 0 #[v] 179 v (remL (ls kc.1) q) w6 →
     (∃ (ts : List (Nat × Nat)) (Fs' : Nat → List Nat),RangeAt Tryz.prog 3 w6 m r (cs.map colPr) (ts.map colPr) ∧ (∀ kc ∈ ts,kc ∈ cs) ∧ (ts.map (·.1)).Nodup ∧ ColsAt w6 cs (fun k => if k ∈ ts.map (·.1) then ls k else remL (ls k) q) Fs' (p :: m :: vh'.ownBlock.toList) ∧
      (∀ kd ∈ cs,∀ x ∈ Fs' kd.1,x ∈ Fs kd.1 ∨ W3.heap.size ≤ x) ∧ Mod (r :: cs.flatMap (fun kc => Fs kc.1)) W3 w6) ∧ w6.rangeLeft m r < wr.rangeLeft m r:=by
    intro w6 hp6
    obtain ⟨Fs2,hc6,hn6,hm6⟩:=hcols5.step H.out.nodup (fun x hx => by have:=hbase x hx;omega) hkc hF hp6
    have hR6:=hR2.mod hm6 (fun hx => hcols.off kc hkc m hx (by simp)) (fun hx => hrF kc hkc r hx rfl)
    refine ⟨⟨t1 ++ t2,Fs2,hR6,fun kd hd => hsub kd (by rcases List.mem_append.1 hd with h | h <;> simp [h]),List.Nodup.sublist (List.Sublist.map _ (List.Sublist.append_left (List.sublist_cons_self _ _) _)) hnd,hc6.congr ?_,?_,?_⟩,by rw [hR6.left_eq,hR.left_eq];simp⟩
    ·intro kd hd
     rw [List.map_append,List.map_cons] at hnd
     have hnd2:=List.nodup_append.1 hnd
     by_cases e : kd.1 = kc.1
     ·rw [e,updL_same,if_neg]
      rw [List.map_append,List.mem_append]
      rintro (hm | hm)
      ·exact hnd2.2.2 _ hm _ (by simp) rfl
      ·exact (List.nodup_cons.1 hnd2.2.1).1 hm
     ·rw [updL_ne _ _ e]
      have : kd.1 ∈ (t1 ++ kc :: t2).map (·.1) ↔ kd.1 ∈ (t1 ++ t2).map (·.1):=by
       simp only [List.map_append,mC,List.mem_append,List.mem_cons]
       constructor
       ·rintro (hm | hm | hm)
        ·exact .inl hm
        ·exact absurd hm e
        ·exact .inr hm
       ·rintro (hm | hm)
        ·exact .inl hm
        ·exact .inr (.inr hm)
      simp only [this]
    ·intro kd hd x hx
     rcases hn6 kd hd x hx with h1 | h1
     ·exact hnew kd hd x h1
     ·right;omega
    ·refine (hmod.trans hm5 (fun x hx => .inl (by simp at hx;simp [hx]))).trans hm6 (fun x hx => ?_)
     rcases hnew kc hkc x hx with h1 | h1
     ·exact .inl (List.mem_cons_of_mem _ (List.mem_flatMap.2 ⟨kc,hkc,h1⟩))
     ·exact .inr h1
   obtain ⟨HCall,HFin⟩:=hid2 hcall hfin
   obtain ⟨k,c⟩:=kc
   clear hrw hsz1 hfin hcall hin hlen hf hF hcols5 hrF hR2 hm5 hs5 hts hmod hnew hcols hnd hsub hR hk8 hkc hbF hbase
   simp only at hnx hen hk8i
   go_wp2_with fail
   refine HCall.out.mono ?_
   rintro e w6 ⟨rfl,hp6⟩
   have HF6:=Lib.hid (HFin.out w6 hp6)
   clear hp6 HFin
   go_wp2
   exact HF6.out
end
end Go.Proofs.YtehjfmjibiafdaaGreat
namespace Go.Proofs.YtehjfmjibiafdaaGreat
open Go Go.RowKit
section
variable {w : World} {q kn : Nat} {rows : List Rw} {vl : Value}
end
theorem outKind_any (k : Int) (b : Bool) (h : outsideB k 0 7 = b) (w : World) : Calls Tryz.prog 101 #[.int .i64 k,.int .i64 0,.int .i64 7] w fun e w' => e = .returned (.bool b) ∧ w = w':=by
 have:=outside_any k 0 7 w
 rw [h] at this
 exact this
theorem hasKn2_any (kn k : Nat) (hkn : kn < 256) (hk : k < 8) (b : Bool) (hb : kn.testBit k = b) (w : World) : Calls Tryz.prog 102 #[.int .i64 (kn : Int),.int .i64 (k : Int)] w fun e w' => e = .returned (.bool b) ∧ w = w':=by
 have:=hasKind_any (kn : Int) k (by omega) w
 rw [hasK_nat kn k hkn,hb] at this
 exact this
theorem valK_lt (k : Nat) (hk : k < 8) (x : Rw) : (rwC x)[3 + k]? = some (.int .i64 (valK k x.2)):=by
 obtain ⟨⟨s,g⟩,K,a0,a1,a2,a3,a4,a5,a6,a7⟩:=x
 match k,hk with
 | 0,_ => rfl
 | 1,_ => rfl
 | 2,_ => rfl
 | 3,_ => rfl
 | 4,_ => rfl
 | 5,_ => rfl
 | 6,_ => rfl
 | 7,_ => rfl
section
variable {w : World} {q kn : Nat} {rows : List Rw} {vl : Value}
end
theorem outN_any (n : Int) (b : Bool) (h : outsideB n (-1000000000) 1000000000 = b) (w : World) : Calls Tryz.prog 101 #[.int .i64 n,.int .i64 (-1000000000),.int .i64 1000000000] w fun e w' => e = .returned (.bool b) ∧ w = w':=by
 have:=outside_any n (-1000000000) 1000000000 w
 rw [h] at this
 exact this
def rwSet (x : Rw) (k : Nat) (n : Int) : Rw :=
 match x with
 | (hd,K,a0,a1,a2,a3,a4,a5,a6,a7) =>
  (hd,K,if k = 0 then n else a0,if k = 1 then n else a1,if k = 2 then n else a2,if k = 3 then n else a3,if k = 4 then n else a4,if k = 5 then n else a5,if k = 6 then n else a6,if k = 7 then n else a7)
theorem rwSet_cells (x : Rw) (k : Nat) (hk : k < 8) (n : Int) : setL (rwC x) (3 + k) [.int .i64 n] = rwC (rwSet x k n):=by
 obtain ⟨⟨s,g⟩,K,a0,a1,a2,a3,a4,a5,a6,a7⟩:=x
 match k,hk with
 | 0,_ => rfl
 | 1,_ => rfl
 | 2,_ => rfl
 | 3,_ => rfl
 | 4,_ => rfl
 | 5,_ => rfl
 | 6,_ => rfl
 | 7,_ => rfl
section
variable {w : World} {q kn : Nat} {rows : List Rw} {vl : Value}
end
theorem nodup_inj {α : Type} {l : List α} (h : l.Nodup) {i j : Nat} (hi : i < l.length) (hj : j < l.length) (e : l[i] = l[j]) : i = j:=by
 have hp:=List.pairwise_iff_getElem.1 h
 rcases Nat.lt_trichotomy i j with h1 | h1 | h1
 ·exact absurd e (hp i j hi hj h1)
 ·exact h1
 ·exact absurd e.symm (hp j i hj hi h1)
theorem listKn_any (kn : Nat) (hk : kn < 256) (w : World) : Calls Tryz.prog 120 #[.int .i64 (kn : Int)] w (MadeInts w.heap.size ((natKinds kn 8).map fun (k : Nat) => (k : Int)) w):=by
 have h:=list_any (kn : Int) w
 rw [low8_nat _ hk] at h
 exact h
def newFs (cs : List (Nat × Nat)) (k : Nat) : List Nat:=match cs.find? (fun kc => kc.1 == k) with | some kc => [kc.2] | none => []
theorem newFs_at {cs : List (Nat × Nat)} (hn : (cs.map (·.1)).Nodup) {kc : Nat × Nat} (hk : kc ∈ cs) : newFs cs kc.1 = [kc.2]:=by
 unfold newFs
 cases h : cs.find? (fun kd => kd.1 == kc.1) with
 | none =>
  have:=List.find?_eq_none.1 h kc hk
  simp at this
 | some kd =>
  have h1:=List.mem_of_find?_eq_some h
  have h2:=List.find?_some h
  have : kd = kc:=kind_inj hn h1 hk (by simpa using h2)
  rw [this]
def NewPost (kn : Nat) (w : World) (e : Ending) (w' : World) : Prop :=
 ∃ p m cs,e = .returned (.tuple #[.pointer (some ⟨p,0,none⟩),.int .i64 0]) ∧ TabAt w' p kn [] (fun _ => []) (.slice none 0 0) m cs (newFs cs) ∧ (∀ k ∈ tabF p m (.slice none 0 0) cs (newFs cs),w.heap.size ≤ k) ∧ Below w.heap.size w w'
set_option maxRecDepth 20000 in
set_option maxHeartbeats 4000000 in
theorem new_ok (kn : Nat) (hk : kn < 256) (w : World) : Calls Tryz.prog 130 #[.int .i64 (kn : Int)] w (NewPost kn w):=by
 have hl:=fun w => listKn_any kn hk w
 have hnd:=natKinds_nodup kn 8
 have hlt : ∀ k ∈ natKinds kn 8,k < 8:=fun k h => natKinds_lt h
 have hN:=natKinds_len kn 8
 obtain ⟨N,hNe⟩ : ∃ N,N = natKinds kn 8:=⟨_,rfl⟩
 rw [← hNe] at hl hnd hlt hN
 obtain ⟨HL,HND,HLT,HNe,HN⟩:=hid5 hl hnd hlt hNe hN
 have hd1 : decide ((kn : Int) < 0) = false:=by simp
 have hd2 : decide (255 < (kn : Int)) = false:=by simp;omega
 have hmm:=@run_makeMap Tryz.prog
 clear hl hnd hlt hNe
 go_enter Tryz.func130,Tryz.ntmps130
 go_wp2_with fail
 clear hmm
 refine (HL.out _).mono ?_
 rintro e w1 ⟨v,rfl,hrow,hb⟩
 have km:=(Mod.ofBelow hb).keep (blk_alloc (MapKept.heap_alloc w (.map #[] 0)).1 _) (by simp)
 have kp:=(Mod.ofBelow hb).keep (heap_alloc_new (w.alloc (.map #[] 0)) _) (by simp)
 have hz1:=hb.size
 have hB:=(((Below.refl w.heap.size w).alloc (Nat.le_refl _) _).alloc (by simp) _).trans (hb.mono (by simp;omega))
 simp only [World.size_alloc] at kp hz1
 obtain ⟨HB,KP,HRow⟩:=hid3 hB kp hrow
 have HM:=Lib.hid (show MapAt Tryz.prog 3 w1 w.heap.size [] from ⟨#[],0,km,⟨Go.MapKept.stamped_empty 0,by simp,rfl⟩⟩)
 clear km kp hB hb hrow HL
 obtain ⟨A5,q5,rfl,hq5,-⟩:=row_slice HRow.out
 go_wp2
 go_loopw [20] (fun i wr => ∃ (j : Nat) (cs : List (Nat × Nat)),j ≤ N.length ∧ i = .int .i64 j ∧ cs.map (·.1) = N.take j ∧ MapAt Tryz.prog 3 wr w.heap.size (cs.map colPr) ∧ (∀ kc ∈ cs,wr.heap[kc.2]? = some (.cells #[.slice none 0 0] 179 (0,0)) ∧ w1.heap.size ≤ kc.2) ∧ (cs.map (·.2)).Nodup ∧ Mod [w.heap.size] w1 wr) (fun i _ => N.length - (Go.RowKit.intOf i).toNat)
 case atStart => exact ⟨0,[],by omega,rfl,rfl,HM.out,by simp,by simp,Mod.refl _ _⟩
 case round =>
  obtain ⟨j,cs,hj,rfl,hcs,hmap,hblk,hnd2,hmod⟩:=hrel
  have hsz:=hmod.size
  have hkp:=hmod.keep KP.out (by simp)
  by_cases hlt : j < N.length
  ·have hr5:=row_mod HRow.out hmod (fun k hk => by have:=(HRow.out.lt k hk).1;simp at this;simp;omega)
   obtain ⟨g5,rfl,hg5,ck⟩:=row_kind hr5 hlt
   have hNj : N[j] ∉ cs.map (·.1):=by
    rw [hcs]
    intro hm
    obtain ⟨i,hi,he⟩:=List.mem_take_iff_getElem.1 hm
    have:=nodup_inj HND.out _ _ he
    omega
   have hts:=take_succ_get N j hlt
   have h8:=HLT.out N[j] (List.getElem_mem hlt)
   generalize N[j] = k at *
   have c2 : wr.cell? ⟨w.heap.size + 1,2,none⟩ = some (.map (some w.heap.size)):=by rw [blk_cell hkp];rfl
   obtain ⟨w5,hrun,hm5,hmd5,hs5⟩:=(hmap.mod ((Mod.refl [] wr).alloc (.cells #[.slice none 0 0] 179)) (by simp)).put_new keyedInt Tryz.underlying174 (keyInt (inR_nat (show k < 256 by omega))) (by
    intro q hq e
    obtain ⟨kc,hc,rfl⟩:=List.mem_map.1 hq
    have h1 : (kc.1 : Int) = k:=by simpa [colPr] using e
    exact hNj (List.mem_map.2 ⟨kc,hc,by omega⟩)) (.pointer (some ⟨wr.heap.size,0,none⟩))
   have hpl:=blk_lt hkp
   have hfin : ∃ (j' : Nat) (cs' : List (Nat × Nat)),j' ≤ N.length ∧ Value.int .i64 ((j : Int) + 1) = .int .i64 j' ∧ cs'.map (·.1) = N.take j' ∧ MapAt Tryz.prog 3 w5 w.heap.size (cs'.map colPr) ∧ (∀ kc ∈ cs',w5.heap[kc.2]? = some (.cells #[.slice none 0 0] 179 (0,0)) ∧ w1.heap.size ≤ kc.2) ∧ (cs'.map (·.2)).Nodup ∧ Mod [w.heap.size] w1 w5:=by
    refine ⟨j + 1,cs ++ [(k,wr.heap.size)],by omega,by go_num,by rw [List.map_append,hcs,hts];rfl,by rw [List.map_append];exact hm5,?_,?_,(hmod.alloc _).trans hmd5 (fun x hx => .inl hx)⟩
    ·intro kc hc
     rcases List.mem_append.1 hc with hc | hc
     ·obtain ⟨h1,h2⟩:=hblk kc hc
      exact ⟨hmd5.keep (blk_alloc h1 _) (by simp;omega),h2⟩
     ·simp only [List.mem_singleton] at hc
      subst hc
      exact ⟨hmd5.keep (heap_alloc_new wr _) (by simp;omega),hsz⟩
    ·rw [List.map_append,List.nodup_append]
     refine ⟨hnd2,by simp,?_⟩
     intro a ha b hb e
     simp only [mC,mN,List.mem_singleton] at hb
     obtain ⟨kc,hc,rfl⟩:=List.mem_map.1 ha
     have:=blk_lt (hblk kc hc).1
     omega
   have HFin:=Lib.hid hfin
   clear hfin hmap hblk hnd2 hcs hNj hts hr5 hkp hmod hm5 hmd5 hs5
   go_wp2
   go_roundw
   case rel => exact HFin.out
   case measure => simp [Go.RowKit.intOf] <;> omega
  ·obtain rfl : j = N.length:=by omega
   rw [List.take_length] at hcs
   have hkk : cs.map (·.1) = natKinds kn 8:=hcs.trans HNe.out
   have hkn : (cs.map (·.1)).Nodup:=by rw [hcs];exact HND.out
   have hT : TabAt wr (w.heap.size + 1) kn [] (fun _ => []) (.slice none 0 0) w.heap.size cs (newFs cs):=by
    refine ⟨⟨hkp,rfl,⟨rfl,.inl ⟨rfl,rfl⟩⟩,fun k hk => by cases hk⟩,hmap,hkk,⟨fun kc hc => ?_,fun kc hc kd hd hne x hx hx2 => ?_,fun kc hc x hx hx2 => ?_⟩,by omega,fun k hk => by cases hk⟩
    ·exact ⟨.slice none 0 0,⟨(hblk kc hc).1,rfl,⟨rfl,.inl ⟨rfl,rfl⟩⟩,fun k hk => by cases hk⟩,by rw [newFs_at hkn hc];rfl⟩
    ·rw [newFs_at hkn hc] at hx
     rw [newFs_at hkn hd] at hx2
     simp only [List.mem_singleton] at hx hx2
     refine hne (congrArg Prod.fst (?_ : kc = kd))
     have e : kc.2 = kd.2:=hx.symm.trans hx2
     obtain ⟨a,ha,hae⟩:=List.mem_iff_getElem.1 hc
     obtain ⟨b,hb,hbe⟩:=List.mem_iff_getElem.1 hd
     have h1 : (cs.map (·.2))[a]'(by simpa using ha) = (cs.map (·.2))[b]'(by simpa using hb):=by simp [hae,hbe,e]
     have:=nodup_inj hnd2 _ _ h1
     subst this
     exact hae.symm.trans hbe
    ·rw [newFs_at hkn hc] at hx
     simp only [List.mem_singleton] at hx
     have:=(hblk kc hc).2
     simp [Value.ownBlock] at hx2
     omega
   have hF : ∀ k ∈ tabF (w.heap.size + 1) w.heap.size (.slice none 0 0) cs (newFs cs),w.heap.size ≤ k:=by
    intro k hk
    simp only [tabF,List.mem_cons,List.mem_append,List.mem_flatMap] at hk
    rcases hk with h1 | h1 | h1 | ⟨kd,hd,h1⟩
    ·omega
    ·omega
    ·simp [Value.ownBlock] at h1
    ·rw [newFs_at hkn hd] at h1
     simp only [List.mem_singleton] at h1
     have:=(hblk kd hd).2;omega
   have hbel : Below w.heap.size w wr:=HB.out.trans (hmod.toBelow (by simp) (by omega))
   obtain ⟨HT,HF,HBl⟩:=hid3 hT hF hbel
   clear hT hF hbel hmap hblk hnd2 hcs hkk hkn hkp hmod
   go_wp2
   go_ret2
   exact ⟨_,_,cs,rfl,HT.out,HF.out,HBl.out⟩
end Go.Proofs.YtehjfmjibiafdaaGreat
