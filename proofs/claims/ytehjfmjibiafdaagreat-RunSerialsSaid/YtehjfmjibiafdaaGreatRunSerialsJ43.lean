import Derived.Test.YtehjfmjibiafdaaGreatRunSerialsJ42
/- A part of the proof that RunSerials returns true. -/
namespace Go.Proofs.YtehjfmjibiafdaaGreat
open Go Go.RowKit
attribute [local go_sem] AllFrom.cons_eq AllFrom.nil_eq putF_nil putF_cons wantedL_none wantedL_some OpGoalT OpGoalV OpGoalQ OpGoalA OpGoalK YieldsR preF_nil preF_cons
theorem setL_row (x : Rw) (b : Bt) : setL (rwC x) 2 (btC b) = rwC (x.1,b):=by
 obtain ⟨⟨s,g⟩,K,a0,a1,a2,a3,a4,a5,a6,a7⟩:=x
 obtain ⟨K',b0,b1,b2,b3,b4,b5,b6,b7⟩:=b
 rfl
section
variable {q : Nat} {sl : Sl} {L : List Rw} {B : List Bd} {w : World} {F : List Nat}
theorem q_rowsL (h : RepQ q sl L B w F) : ∃ A c,w.cell? ⟨q,2,none⟩ = some (.slice A L.length c) ∧ q < w.heap.size ∧ w.frozen? ⟨q,2,none⟩ = false ∧ Lies w w.heap.size A (L.flatMap rwC) ∧ (A = none → L = [] ∧ c = 0) ∧
  ∀ w1 v',Below w.heap.size w w1 → w1.ownsRow w.heap.size 69 11 v' L.length (L.flatMap rwC) → OwnPost (RepQ q sl L B) F w (w1.setCell ⟨q,2,none⟩ v'):=by
 have hlt:=h.lt
 obtain ⟨vB,FZ,⟨vL,FS,⟨vg,vl,g1,g2,g3,rfl,n1⟩,g4,rfl,n2⟩,g5,rfl,n3⟩:=h
 obtain ⟨A,c,rfl,-,hLr⟩:=row_lies g4
 refine ⟨A,c,by rw [blk_cell g1];rfl,blk_lt g1,blk_free g1 2,hLr,row_none g4,fun w1 v' hb hv => ?_⟩
 have hq:=blk_lt g1
 have e1:=(Mod.ofBelow hb).keep g1 (by simp)
 have hs:=hb.size
 have hm : Mod [q] w (w1.setCell ⟨q,2,none⟩ v'):=((Mod.ofBelow hb).mono (G:=[q]) (by simp)).setCell (.inl (by simp)) _
 have hm1 : Mod [q] w1 (w1.setCell ⟨q,2,none⟩ v'):=(Mod.refl _ _).setCell (.inl (by simp)) _
 obtain ⟨n1a,n1b⟩:=List.nodup_cons.1 n1
 have hnew : ∀ k,v'.ownBlock = some k → w.heap.size ≤ k:=own_ge hv
 have hqB : ∀ k,vB.ownBlock = some k → k ≠ q:=fun k hk e => n3 q (by simp) (by subst e;simp [hk])
 have hqg : ∀ k,vg.ownBlock = some k → k ≠ q:=fun k hk e => n1a (by subst e;simp [hk])
 have hql : ∀ k,vl.ownBlock = some k → k ≠ q:=fun k hk e => n1a (by subst e;simp [hk])
 have old : ∀ k,k ∈ (q :: (vg.ownBlock.toList ++ vl.ownBlock.toList)) ++ (Value.slice A L.length c).ownBlock.toList ++ vB.ownBlock.toList → k < w.heap.size:=fun k hk => hlt k hk
 refine ⟨((q :: (vg.ownBlock.toList ++ vl.ownBlock.toList)) ++ v'.ownBlock.toList) ++ vB.ownBlock.toList,⟨vB,_,⟨v',_,⟨vg,vl,?_,row_mod g2 hm (fun k hk e => hqg k hk (by simpa using e)),row_mod g3 hm (fun k hk e => hql k hk (by simpa using e)),rfl,n1⟩,row_base (row_mod hv hm1 (fun k hk e => by have:=hnew k hk;simp at e;omega)) (fun _ _ => Nat.zero_le _),rfl,?_⟩,row_mod g5 hm (fun k hk e => hqB k hk (by simpa using e)),rfl,?_⟩,hm.mono (fun x hx => .inl (by simp at hx;simp [hx])),?_⟩
 ·rw [blk_set e1 2 v'];rfl
 ·refine List.nodup_append.2 ⟨n1,by cases v'.ownBlock <;> simp,fun a ha b hb2 e => ?_⟩
  subst e
  have h1:=hnew a (by simpa using hb2)
  have h2:=old a (List.mem_append_left _ (List.mem_append_left _ ha))
  omega
 ·intro y hy e
  rcases List.mem_append.1 hy with hy | hy
  ·exact n3 y (List.mem_append_left _ hy) e
  ·have h1:=hnew y (by simpa using hy)
   have h2:=old y (List.mem_append_right _ e)
   omega
 ·intro y hy
  rcases List.mem_append.1 hy with hy | hy
  ·rcases List.mem_append.1 hy with hy | hy
   ·exact .inl (List.mem_append_left _ (List.mem_append_left _ hy))
   ·exact .inr (hnew y (by simpa using hy))
  ·exact .inl (List.mem_append_right _ hy)
theorem q_write (h : RepQ q sl L B w F) {j : Nat} (hj : j < L.length) (b' : Bt) : ∃ g c,w.cell? ⟨q,2,none⟩ = some (.slice (some ⟨g,0,none⟩) L.length c) ∧ q < w.heap.size ∧ g < w.heap.size ∧ (∀ i u,(btC L[j].2)[i]? = some u → w.cell? ((⟨g,j * 11 + 2,none⟩ : Addr).add i) = some u) ∧
  w.there g (j * 11 + 2) (btC b').length ∧ OwnPost (RepQ q sl (L.set j (L[j].1,b')) B) F w (w.setCells g (j * 11 + 2) (btC b')):=by
 obtain ⟨vB,FZ,⟨vL,FS,⟨vg,vl,g1,g2,g3,rfl,n1⟩,g4,rfl,n2⟩,g5,rfl,n3⟩:=h
 obtain ⟨g,c,cur,rfl,-,-,-⟩:=row_some g4 (by omega)
 have hlen:=flatV_length rwC_len L
 have hb : (j + 1) * 11 ≤ L.length * 11:=Nat.mul_le_mul_right _ hj
 have hm:=mod_setCells (F:=[g]) (g:=g) (.inl (by simp)) (btC b') (j * 11 + 2) w (Mod.refl _ w)
 have hg : ∀ k,k ∈ q :: (vg.ownBlock.toList ++ vl.ownBlock.toList) → k ≠ g:=fun k hk e => (List.nodup_append.1 n2).2.2 k hk g (by simp [Value.ownBlock]) e
 have hgB : ∀ k,vB.ownBlock = some k → k ≠ g:=fun k hk e => n3 g (by simp [Value.ownBlock]) (by subst e;simp [hk])
 have hset:=row_setCells (w:=w) (btC b') (j * 11 + 2) w _ g4
 rw [setL_flat rwC_len L j hj 2 (btC b') (L[j].1,b') (by rw [btC_len];omega) (setL_row _ _)] at hset
 rw [show L.length = (L.set j (L[j].1,b')).length by rw [List.length_set]] at hset
 refine ⟨g,c,by rw [blk_cell g1];rfl,blk_lt g1,row_lt g4 g rfl,row_piece rwC_len g4 hj 2 _ (fun i u hu => ?_),row_there g4 (by rw [hlen,btC_len];omega),((q :: (vg.ownBlock.toList ++ vl.ownBlock.toList)) ++ (Value.slice (some ⟨g,0,none⟩) (L.set j (L[j].1,b')).length c).ownBlock.toList) ++ vB.ownBlock.toList,⟨vB,_,⟨_,_,⟨vg,vl,?_,row_mod g2 hm (fun k hk e => hg k (by simp [hk]) (by simpa using e)),row_mod g3 hm (fun k hk e => hg k (by simp [hk]) (by simpa using e)),rfl,n1⟩,hset,rfl,?_⟩,row_mod g5 hm (fun k hk e => hgB k hk (by simpa using e)),rfl,?_⟩,hm.mono (fun x hx => .inl (by simp at hx;subst hx;simp [Value.ownBlock])),fun y hy => .inl ?_⟩
 ·have key : ∀ y : Rw,(btC y.2)[i]? = some u → (rwC y)[2 + i]? = some u:=fun ⟨hh,bb⟩ hu => by
   rw [Nat.add_comm]
   simpa [rwC,rwI,btC,ints,hdI] using hu
  exact key _ hu
 ·rw [List.length_set]
  exact hm.keep g1 (by simpa using hg q (by simp))
 ·simpa [Value.ownBlock] using n2
 ·simpa [Value.ownBlock] using n3
 ·simpa [Value.ownBlock] using hy
set_option maxRecDepth 20000 in
set_option maxHeartbeats 8000000 in
theorem qserial_any (h : RepQ q sl L B w F) (hO : WOk sl L) {Lo : Nat} (hLo : ∀ y ∈ F,Lo ≤ y) (hlo : Lo ≤ w.heap.size) (A : Option Addr) (c : Nat) (l : List Sy) (hl : l.length ≤ 9223372036854775807) (hA : Lies w Lo A (sysCells l)) (hn : ∀ s ∈ l,InR s.n) :
  Calls Tryz.prog 25 #[.pointer (some ⟨q,0,none⟩),.slice A l.length c] w (fun x w' => x = .returned (.int .i64 (planE l)) ∧ OwnPost (RepQ q sl (serO l L) B) F w w'):=by
 have H1:=Lib.hid (rplan_any A c l w hl (hA.mono hlo))
 rw [sysCells_flat] at hA
 obtain ⟨HV,HO,HLo,Hlo,HA,Hn⟩:=hid6 h hO hLo hlo hA hn
 clear h hO hLo hlo hA hn
 go_enter Tryz.func25,Tryz.ntmps25
 go_wp2_with fail
 refine H1.out.mono ?_
 rintro x1 w1 ⟨v1,rfl,-,hb1⟩
 by_cases hpe : planE l = 0
 rotate_left
 ·have hne : (planE l != 0) = true:=by simpa using hpe
  have hfin : OwnPost (RepQ q sl (serO l L) B) F w w1:=by unfold serO;rw [if_neg hpe];exact OwnPost.ofBelow (own_Q _ _ _ _) HV.out hb1
  have Hfin:=Lib.hid hfin
  clear hfin
  clear hpe hb1 H1
  go_wp2
  go_ret
  exact ⟨rfl,Hfin.out⟩
 have hso : serO l L = serL l L:=if_pos hpe
 rw [hpe]
 have Hso:=Lib.hid hso
 clear hso
 obtain ⟨h20,hse⟩:=planE_all hpe
 have hV1:=HV.out.below hb1
 have hT1:=Turns.ofBelow (F:=F) hb1
 obtain ⟨A2,c2,hc2,hql,hfr,hLr,hnr,hst⟩:=q_rowsL hV1
 have hM60:=HO.out.len
 have HC:=Lib.hid (copyR_any A2 c2 L w1 (by omega) hLr (fun e => (hnr e).1) (fun e => (hnr e).2))
 obtain ⟨Hse,Hpe,HV1,HT1,Hst⟩:=hid5 hse hpe hV1 hT1 hst
 clear hse hpe hV1 hT1 hst
 clear hb1 H1 hl hLr hnr
 go_wp2_with fail
 refine HC.out.mono ?_
 rintro x2 w2 ⟨v2,rfl,hrow,hb2⟩
 obtain ⟨A3,c3,rfl,-,-⟩:=row_slice hrow
 have hfinS:=Hst.out w2 _ hb2 hrow
 have hcc2 : w2.cell? ⟨q,2,none⟩ = some (.slice A2 L.length c2):=(hb2.cell (p:=⟨q,2,none⟩) hql).trans hc2
 have hfr2 : w2.frozen? ⟨q,2,none⟩ = false:=by
  obtain ⟨vB,FZ,⟨vL,FS,⟨vg,vl,g1,-⟩,-⟩,-⟩:=HV1.out
  exact blk_free ((Mod.ofBelow hb2).keep g1 (by simp)) 2
 have hql2 : q < w2.heap.size:=Nat.lt_of_lt_of_le hql hb2.size
 obtain ⟨W3,hW3⟩ : ∃ W3,w2.setCell ⟨q,2,none⟩ (.slice A3 L.length c3) = W3:=⟨_,rfl⟩
 rw [hW3] at hfinS
 have hOP3 : OwnPost (RepQ q sl L B) F w W3:=by obtain ⟨F4,h3,h4⟩:=hfinS;exact ⟨F4,h3,HT1.out.trans h4⟩
 obtain ⟨HOP3,HW3⟩:=hid2 hOP3 hW3
 clear hOP3 hW3
 clear hfinS hrow hb2 hc2 hql hfr HC
 go_wp2_with fail
 rw [HW3.out]
 clear hcc2 hfr2 hql2
 go_loopw [28] (fun i wr => ∃ k : Nat,k ≤ l.length ∧ i = .int .i64 k ∧ OwnPost (RepQ q sl (serL (l.take k) L) B) F w wr) (fun i _ => l.length - (Go.RowKit.intOf i).toNat)
 case atStart => exact ⟨0,by omega,rfl,HOP3.out⟩
 case round =>
  obtain ⟨k,hk,rfl,hOP⟩:=hrel
  have hbr : Below Lo w wr:=hOP.mod.toBelow HLo.out Hlo.out
  by_cases hlt : k < l.length
  ·obtain ⟨ab,ao,rfl,hal,hc⟩:=HA.out.rec_at syC_len (by omega) hlt
   have hq : ∀ j u,(syC l[k])[j]? = some u → wr.cell? ((⟨ab,ao + k * 7,none⟩ : Addr).add j) = some u:=fun j u hu => (hbr.cell (p:=(⟨ab,ao + k * 7,none⟩ : Addr).add j) (by rw [add_block];exact hal)).trans (by first | exact hc j u hu | (have:=hc j u hu;rw [Addr.add_mid];exact this))
   have hki : (k : Int) < (l.length : Int):=by omega
   have hsk:=Hse.out l[k] (List.getElem_mem hlt)
   have hnk:=Hn.out l[k] (List.getElem_mem hlt)
   have hst : serL (l.take (k + 1)) L = (serL (l.take k) L).map (stepRow l[k]):=by rw [take_succ_get l k hlt,serL_snoc]
   have hOk : WOk sl (serL (l.take k) L):=serL_ok (fun s hs => Hse.out s (List.mem_of_mem_take hs)) HO.out
   generalize l[k] = sy at *
   generalize serL (l.take k) L = M at *
   obtain ⟨n,t,a,r,e,d,x⟩:=sy
   obtain ⟨F1,hV,hT⟩:=hOP
   obtain ⟨w3,hw3,hb3,hk3,hs3⟩:=box1 wr (.cells #[.int .i64 n,.int .i64 t,.int .i64 a,.int .i64 r,.int .i64 e,.int .i64 d,.int .i64 x] 132)
   have HbF:=Lib.hid (fun e => (by have:=hV.lt _ e;omega) : wr.heap.size ∉ F1)
   have hV3:=hV.below hb3
   have hT3:=hT.below hb3
   have hM60:=hOk.len
   obtain ⟨A4,c4,hc4,hql4,-,-,-,-⟩:=q_rowsL hV3
   obtain ⟨HQ,Hsk,Hnk,Hst,HOk,HV3,HT3,Hk3,Hw3,Hs3⟩:=hid10 hq hsk hnk hst hOk hV3 hT3 hk3 hw3 hs3
   clear hq hsk hnk hst hOk hV3 hT3 hk3 hw3 hs3
   have Hlt:=Lib.hid hlt
   clear hc hbr hV hT hb3 hal
   go_wp2_with (first | (refine wpList_load_flat rfl 132 (.tmp 30) rfl _ rfl (syC ⟨n,t,a,r,e,d,x⟩) _ Tryz.underlying132 rfl (sz_System _) HQ.out ?_) | (refine wpList_store_new rfl 132 (.tmp 8) (.tmp 31) rfl wr (ints [0,0,0,0,0,0,0]) (syC ⟨n,t,a,r,e,d,x⟩) 132 rfl rfl rfl (sz_System _) (syC_one _) ?_;rw [show (syC ⟨n,t,a,r,e,d,x⟩).toArray = #[.int .i64 n,.int .i64 t,.int .i64 a,.int .i64 r,.int .i64 e,.int .i64 d,.int .i64 x] from rfl,Hw3.out]) | fail)
   clear hc4 hql4
   generalize wr.heap.size = bs at *
   go_loopw [37] (fun i wr => ∃ j : Nat,j ≤ M.length ∧ i = .int .i64 j ∧ OwnPost (RepQ q sl ((M.take j).map (stepRow ⟨n,t,a,r,e,d,x⟩) ++ M.drop j) B) F1 w3 wr) (fun i _ => M.length - (Go.RowKit.intOf i).toNat)
   case atStart => exact ⟨0,by omega,rfl,OwnPost.ofBelow (own_Q _ _ _ _) (by simpa using HV3.out) (Below.refl _ _)⟩
   case round =>
    obtain ⟨j,hj,rfl,hOP⟩:=hrel
    by_cases hlt2 : j < M.length
    ·obtain ⟨F2,hV,hT⟩:=hOP
     have hk5:=hT.mod.keep Hk3.out HbF.out
     obtain ⟨M1,hM1⟩ : ∃ M1,(M.take j).map (stepRow ⟨n,t,a,r,e,d,x⟩) ++ M.drop j = M1:=⟨_,rfl⟩
     have hml : M1.length = M.length:=by rw [← hM1,List.length_append,List.length_map,List.length_take,List.length_drop];omega
     have hj1 : j < M1.length:=by omega
     have hget : M1[j] = M[j]:=by
      subst hM1
      rw [List.getElem_append_right (by rw [List.length_map,List.length_take];omega),List.getElem_drop]
      congr 1
      rw [List.length_map,List.length_take];omega
     have hnx : M1.set j (stepRow ⟨n,t,a,r,e,d,x⟩ M[j]) = (M.take (j + 1)).map (stepRow ⟨n,t,a,r,e,d,x⟩) ++ M.drop (j + 1):=by
      have hl2 : ((M.take j).map (stepRow ⟨n,t,a,r,e,d,x⟩)).length = j:=by rw [List.length_map,List.length_take];omega
      rw [← hM1,List.set_append_right _ _ (by omega),hl2,Nat.sub_self,List.drop_eq_getElem_cons hlt2,List.set_cons_zero,take_succ_get M j hlt2,List.map_append,List.append_assoc]
      rfl
     rw [hM1] at hV
     have hbe:=HOk.out.be M[j] (List.getElem_mem hlt2)
     unfold stepRow at hnx
     rw [← hget] at hnx hbe
     have hstep:=fun V => (step_both Hnk.out Hsk.out hbe V).2
     obtain ⟨nb,hnb⟩ : ∃ nb,stepBt ⟨n,t,a,r,e,d,x⟩ M1[j].2 = nb:=⟨_,rfl⟩
     rw [hnb] at hnx hstep
     obtain ⟨g,c5,hc5,hql5,hgl,hpc,hth,hpost⟩:=q_write hV hj1 nb
     have HW:=Lib.hid (fun V (hb : Below wr.heap.size wr V) => q_write (hV.below hb) hj1 nb)
     obtain ⟨hy,by_,hyy⟩ : ∃ hy by_,M1[j] = (hy,by_):=⟨_,_,rfl⟩
     rw [hyy] at hstep hpc
     simp only at hstep hpc
     obtain ⟨K,a0,a1,a2,a3,a4,a5,a6,a7⟩:=by_
     obtain ⟨Kn,b0,b1,b2,b3,b4,b5,b6,b7⟩:=nb
     rw [hml] at hc5
     have hji : (j : Int) < (M.length : Int):=by omega
     obtain ⟨Hc5,Hk5⟩:=hid2 hc5 hk5
     obtain ⟨HStep,HNx,HPc,HT,HGl⟩:=hid5 hstep hnx hpc hT hgl
     clear hstep hnx hpc hT hgl
     obtain ⟨Hlt2,Hml⟩:=hid2 hlt2 hml
     clear hpost hth hV hget hbe hnb hyy hml hM1 hk5
     go_wp2_with fail
     refine wp_planK [] 15 [0,4,5,9] [some 40,some 41,some 42,some 43,some 44,some 45,some 46,some 47,some 48,some 49,some 50,some 51,some 52,some 53,some 54,some 55,some 56,none] [[],[0],[0,1],[0,1,2],[],[],[5],[5,6],[5,6,7],[],[5,6,7,8,9],[5,6,7,8,9,10],[5,6,7,8,9,10,11],[],[5,6,7,8,9,10,11,12,13],[0,1,2,3,4,5,6,7,8,9,10,11,12,13,14],[0,1,2,3,4,5,6,7,8,9,10,11,12,13,14,15],[0,1,2,3,4,5,6,7,8,9,10,11,12,13,14,15,16]] [0,1,2,3,4,5,6,7,8,9,10,11,12,13,14] (fun _ _ W => Below wr.heap.size wr W) mixed rfl (by kernel_rfl) (by decide) (by decide) (by decide) below_drew rfl ?_
     iterate 15 apply Exists.intro
     refine ⟨rfl,?_,?_⟩
     ·simp only [tS,List.take_zero,AllFrom.cons_eq,AllFrom.nil_eq,OpGoalK]
      refine ⟨?_,?_,?_,?_,?_,?_,?_,?_,?_,?_,?_,?_,?_,?_,?_,trivial⟩
      all_goals (intro L' σ V h1 h2 h3 hI hp;have HA1:=Lib.hid h1;have HA2:=Lib.hid h2;have HA3:=Lib.hid h3;clear h1 h2 h3;(try simp only [gZ,gS,preK_cons,preK_nil] at hp);(try simp only [List.not_mem_nil,false_or,and_true] at hp);(first | (have hq : True:=hp;clear hq hp) | skip);have HI:=Lib.hid hI;clear hI)
      all_goals (
       have hqc : V.cell? ⟨q,2,none⟩ = some (.slice (some ⟨g,0,none⟩) M.length c5):=(HI.out.cell (p:=⟨q,2,none⟩) hql5).trans Hc5.out
       have hqV : q < V.heap.size:=Nat.lt_of_lt_of_le hql5 HI.out.size
       have hk2:=(Mod.ofBelow HI.out).keep Hk5.out (by simp)
       have y0:=blk_cell hk2 0
       have y1:=blk_cell hk2 1
       have y2:=blk_cell hk2 2
       have y3:=blk_cell hk2 3
       have y4:=blk_cell hk2 4
       have y5:=blk_cell hk2 5
       have y6:=blk_cell hk2 6
       simp only [eA,eZ,eS] at y0 y1 y2 y3 y4 y5 y6
       have yl:=blk_lt hk2
       have HPV:=Lib.hid (fun i u hu => (HI.out.cell (p:=(⟨g,j * 11 + 2,none⟩ : Addr).add i) (by rw [add_block];exact HGl.out)).trans (HPc.out i u hu))
       clear hk2)
      iterate 12 · (go_simp;exact ⟨.inr rfl,HI.out⟩)
      ·simp only [wantedL_none,if_true,Nat.reduceAdd,Nat.zero_add]
       generalize hρ : Act.eval _ = ρ
       refine yr_load 50 (.tmp 51) (by rfl) ⟨g,j * 11 + 2,none⟩ ?_ (btC (K,a0,a1,a2,a3,a4,a5,a6,a7)) _ Tryz.underlying50 rfl (sz_Beast _) HPV.out ?_
       ·rw [← hρ]
        go_simp
       ·exact ⟨.inr rfl,HI.out⟩
      ·(go_simp;exact ⟨.inr rfl,HI.out⟩)
      ·(go_simp;refine (HStep.out V).mono ?_;rintro e V2 ⟨rfl,hb2⟩;exact ⟨_,rfl,.inr rfl,HI.out.trans (hb2.mono HI.out.size)⟩)
     ·intro L' σ V7 h1 hI hp
      clear h1
      simp only [preK_cons,preK_nil,gZ,gS] at hp;simp only [List.not_mem_nil,false_or,and_true] at hp
      obtain ⟨g',c',hc7,hql7,hgl7,-,hth7,hpost7⟩:=HW.out V7 hI
      have hqc : V7.cell? ⟨q,2,none⟩ = some (.slice (some ⟨g,0,none⟩) M.length c5):=(hI.cell (p:=⟨q,2,none⟩) hql5).trans Hc5.out
      have hgg : g' = g:=by
       rw [hqc] at hc7
       simp only [Option.some.injEq,Value.slice.injEq,Addr.mk.injEq] at hc7
       exact hc7.1.1.symm
      subst hgg
      obtain ⟨W8,hW8⟩ : ∃ W8,V7.setCells g' (j * 11 + 2) (btC (Kn,b0,b1,b2,b3,b4,b5,b6,b7)) = W8:=⟨_,rfl⟩
      rw [hW8,HNx.out] at hpost7
      have hOP7 : OwnPost (RepQ q sl ((M.take (j + 1)).map (stepRow ⟨n,t,a,r,e,d,x⟩) ++ M.drop (j + 1)) B) F1 w3 W8:=by
       obtain ⟨F4,h3,h4⟩:=hpost7
       exact ⟨F4,h3,HT.out.trans (Turns.after hI h4)⟩
      obtain ⟨HOP7,Hth7,HW8,HI7⟩:=hid4 hOP7 hth7 hW8 hI
      clear hOP7 hth7 hW8 hI
      clear hpost7 hc7 hql7 hgl7 hqc
      simp only [dS,List.drop_zero]
      go_simp
      clear hp
      go_wp2_with (first | (refine wpList_store_at rfl 50 (.tmp 56) (.tmp 54) rfl g' (j * 11 + 2) (btC (Kn,b0,b1,b2,b3,b4,b5,b6,b7)) rfl rfl Hth7.out (sz_Beast _) (btC_one _) ?_;rw [HW8.out]) | fail)
      refine ⟨rfl,?_⟩
      go_wp2
      go_roundw
      case rel => exact ⟨j + 1,by have:=Hlt2.out;omega,by go_num,HOP7.out⟩
      case measure => have:=Hlt2.out;simp [Go.RowKit.intOf];omega
    ·obtain rfl : j = M.length:=by omega
     rw [List.take_length,List.drop_length,List.append_nil] at hOP
     have hOP2 : OwnPost (RepQ q sl (serL (l.take (k + 1)) L) B) F w wr:=by
      rw [Hst.out]
      obtain ⟨F4,h3,h4⟩:=hOP
      exact ⟨F4,h3,HT3.out.trans h4⟩
     have HOP2:=Lib.hid hOP2
     clear hOP2
     clear hOP hlt2
     go_wp2
     go_roundw
     case rel => exact ⟨k + 1,by have:=Hlt.out;omega,by go_num,HOP2.out⟩
     case measure => have:=Hlt.out;simp [Go.RowKit.intOf];omega
  ·obtain rfl : k = l.length:=by omega
   rw [List.take_length] at hOP
   have HOP:=Lib.hid hOP
   clear hOP
   clear hlt hbr
   go_wp2
   go_ret
   exact ⟨by rw [Hpe.out];rfl,by rw [Hso.out];exact HOP.out⟩
end
theorem inf_Sys : (Tryz.prog.info? 132).map (fun i => (i.zero,i.size,i.bytes)) = some (some (.agg #[.int .i64 0,.int .i64 0,.int .i64 0,.int .i64 0,.int .i64 0,.int .i64 0,.int .i64 0]),7,56):=by kernel_rfl
theorem make_sys {w : World} {ops : Array Oper} {rest : List Oper} {o : Oper} {a : Act} {Q : Exit → Act → World → Prop} (hgd : Go.Region.wanted o (yielded ops a.tmps) = true) (s x : Operand)
  (ho : o.op = .makeSlice 72 s x) (hs : a.eval s = .int .i64 21) (hx : a.eval x = .int .i64 21)
  (h : ∀ w',Below w.heap.size w w' → wpList Tryz.prog ops Q rest (a.put o.dst (.slice (some ⟨w.heap.size,0,none⟩) 21 21)) w') :
  wpList Tryz.prog ops Q (o :: rest) a w:=by
 obtain ⟨i0,hi,hz0,hz1,hz2⟩:=info_parts inf_Sys
 obtain ⟨w',hrun,r1,r2⟩:=run_make_full (P:=Tryz.prog) w w.heap.size 72 132 i0 (.agg #[.int .i64 0,.int .i64 0,.int .i64 0,.int .i64 0,.int .i64 0,.int .i64 0,.int .i64 0]) 7 Tryz.underlying72 hi hz0 hz1 .i64 .i64 21 (by rw [hz2];omega) (by unfold maxLen;omega) (Nat.le_refl _)
 refine wpList_step fun K hK => ?_
 rw [if_pos hgd]
 unfold Oper.wp
 rw [show (((21 : Nat) : Int)) = 21 from rfl] at hrun
 simp [execOp,ho,hs,hx,hrun,Result.andThen]
 exact hK _ _ (h w' ((Below.refl _ w).grown r2 (Nat.le_refl _) (by simp)))
section
variable {z q : Nat} {sl : Sl} {L : List Rw} {B : List Bd} {w : World} {F : List Nat}
set_option maxRecDepth 20000 in
set_option maxHeartbeats 1000000 in
theorem serial_many (h : RepX z sl L B w F) (A : Option Addr) (c : Nat) :
  Calls Tryz.prog 24 #[.pointer (some ⟨z,0,none⟩),.slice A 21 c] w (fun x w' => x = .returned (.int .i64 2) ∧ OwnPost (RepX z sl L B) F w w'):=by
 obtain ⟨l,hl⟩ : ∃ l : List Sy,l.length = 21:=⟨List.replicate 21 ⟨0,0,0,0,0,0,0⟩,by simp⟩
 have hp:=sys_many A c l w (by omega) (by omega)
 unfold PlanPost at hp
 rw [show planE l = 2 by unfold planE;rw [if_pos (by omega)],hl] at hp
 have H1:=Lib.hid hp
 have HV:=Lib.hid h
 clear h
 clear hp hl
 go_enter Tryz.func24,Tryz.ntmps24
 go_wp2_with fail
 refine H1.out.mono ?_
 rintro x1 w1 ⟨v1,rfl,-,hb1⟩
 have hfin : OwnPost (RepX z sl L B) F w w1:=OwnPost.ofBelow (own_X _ _ _ _) HV.out hb1
 have Hfin:=Lib.hid hfin
 clear hfin
 clear hb1 H1
 go_wp2
 go_ret
 exact ⟨rfl,Hfin.out⟩
theorem px_serial {Lo : Nat} {Z : List Nat} {sl' : Sl} {L' : List Rw} {B' : List Bd} (h : PXQ Lo Z z q sl L B sl' L' B' w) (hO : WOk sl L) (A : Option Addr) (c : Nat) (l : List Sy) (hl : l.length ≤ 9223372036854775807) (hA : Lies w Lo A (sysCells l)) (hn : ∀ s ∈ l,InR s.n) :
  Calls Tryz.prog 24 #[.pointer (some ⟨z,0,none⟩),.slice A l.length c] w (fun x w' => x = .returned (.int .i64 (planE l)) ∧ PXQ Lo Z z q sl (serO l L) B sl' L' B' w' ∧ Below Lo w w' ∧ KeepZ Z w w'):=by
 obtain ⟨F,G,h⟩:=h
 exact (serial_any h.a hO (fun y hy => (h.af y hy).1) h.lo A c l hl hA hn).mono fun e w' ⟨he,hp⟩ => ⟨he,h.left (own_X _ _ _ _) (own_Q _ _ _ _) hp⟩
theorem px_qserial {Lo : Nat} {Z : List Nat} {sl' : Sl} {L' : List Rw} {B' : List Bd} (h : PXQ Lo Z z q sl L B sl' L' B' w) (hO : WOk sl' L') (A : Option Addr) (c : Nat) (l : List Sy) (hl : l.length ≤ 9223372036854775807) (hA : Lies w Lo A (sysCells l)) (hn : ∀ s ∈ l,InR s.n) :
  Calls Tryz.prog 25 #[.pointer (some ⟨q,0,none⟩),.slice A l.length c] w (fun x w' => x = .returned (.int .i64 (planE l)) ∧ PXQ Lo Z z q sl L B sl' (serO l L') B' w' ∧ Below Lo w w' ∧ KeepZ Z w w'):=by
 obtain ⟨F,G,h⟩:=h
 exact (qserial_any h.b hO (fun y hy => (h.bf y hy).1) h.lo A c l hl hA hn).mono fun e w' ⟨he,hp⟩ => ⟨he,h.right (own_X _ _ _ _) (own_Q _ _ _ _) hp⟩
end
theorem serO_ok {sl : Sl} {L : List Rw} {B : List Bd} (h : ZOk sl L B) (l : List Sy) : ZOk sl (serO l L) B:=by
 unfold serO
 split
 ·next hp => exact ⟨serL_ok (planE_all hp).2 h.w,h.f,h.c⟩
 ·exact h
end Go.Proofs.YtehjfmjibiafdaaGreat
