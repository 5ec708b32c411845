import Derived.Test.YtfdillpofciicaaGreatDoorTopSavedJ20
set_option linter.unusedVariables false
set_option linter.unusedSimpArgs false
/- A part of the proof that TopSaved returns true. -/
namespace Go.Proofs.YtfdillpofciicaaGreatDoor
open Go Go.RowKit Go.Maps Go.Shelf
attribute [local go_sem] AllFrom.cons_eq AllFrom.nil_eq putF_nil putF_cons wantedL_none wantedL_some OpGoalT OpGoalV OpGoalQ OpGoalA OpGoalK YieldsR preF_nil preF_cons
attribute [local go_sem] Oper.semAt_some
theorem Mod.thenBelow {F : List Nat} {a b c : World} (h : Mod F a b) (k : Below a.heap.size b c) : Mod F a c :=
 ⟨k.os.trans h.os,k.tape.trans h.tape,k.output.trans h.output,Nat.le_trans h.size k.size,fun i hi hF => (k.block i hi).trans (h.block i hi hF)⟩
open Classical in
noncomputable def adoE (B : List Bd) (c p : Hd) : Int:=if Up B p c then 8 else 0
open Classical in
noncomputable def adoB (B : List Bd) (c p : Hd) : List Bd:=if Up B p c then B else insB B (c,p)
section
variable {w : World} {f : Nat} {B : List Bd} {F : List Nat}
set_option maxRecDepth 20000 in
set_option maxHeartbeats 4000000 in
theorem adopt_same (h : RepF w f B F) (s g : Int) : Calls Tryz.prog 51 #[.pointer (some ⟨f,0,none⟩),.agg #[.int .i64 s,.int .i64 g],.agg #[.int .i64 s,.int .i64 g]] w (FRet B (.int .i64 8) f F w):=by
 have hcmp : ∀ w,(binOp .eql 47 (.agg #[.int .i64 s,.int .i64 g]) (.agg #[.int .i64 s,.int .i64 g])).run Tryz.prog w = .ok (.bool true) w:=fun w => by rw [eqlHandle,eqB_self]
 have HF:=Lib.hid h
 go_enter Tryz.func51,Tryz.ntmps51
 go_wp2
 refine bodyPost_ret (v:=.int .i64 8) (by unfold results;try go_simp) rfl ?_
 have hb : Below w.heap.size w (((w.alloc (.cells #[.int .i64 s,.int .i64 g] 47)).alloc (.cells #[.int .i64 s,.int .i64 g] 47)).alloc (.cells #[.int .i64 8] 27)):=(((Below.refl _ _).alloc (Nat.le_refl _) _).alloc (by simp) _).alloc (by simp;omega) _
 exact ⟨rfl,h.below hb,(Mod.ofBelow hb).mono (by simp)⟩
set_option maxRecDepth 20000 in
set_option maxHeartbeats 8000000 in
theorem adopt_diff (h : RepF w f B F) (s g t u : Int) (hne : (s,g) ≠ (t,u)) (hc : HdR (s,g)) (hp : HdR (t,u)) : Calls Tryz.prog 51 #[.pointer (some ⟨f,0,none⟩),.agg #[.int .i64 s,.int .i64 g],.agg #[.int .i64 t,.int .i64 u]] w (FRet (adoB B (s,g) (t,u)) (.int .i64 (adoE B (s,g) (t,u))) f F w):=by
 obtain ⟨ch,hch⟩:=h.ok.ac.chain (t,u)
 obtain ⟨w0,hw0,hb0,hz0,hs0⟩:=box1 w (.cells #[.int .i64 s,.int .i64 g] 47)
 obtain ⟨w1,hw1,hb1,hz1,hs1⟩:=box1 w0 (.cells #[.int .i64 t,.int .i64 u] 47)
 obtain ⟨w2,hw2,hb2,hz2,hs2⟩:=box1 w1 (.cells #[.int .i64 0] 27)
 obtain ⟨w3,hw3,hb3,hz3,hs3⟩:=box1 w2 (.cells #[.pointer (some ⟨f,0,none⟩)] 107)
 obtain ⟨w4,hw4,hb4,hz4,hs4⟩:=box1 w3 (.cells #[.int .i64 t,.int .i64 u] 47)
 have hB12 : Below w0.heap.size w0 w2:=hb1.trans (hb2.mono hb1.size)
 have hB02 : Below w.heap.size w w2:=hb0.trans (hB12.mono hb0.size)
 have hB24 : Below w2.heap.size w2 w4:=hb3.trans (hb4.mono hb3.size)
 have hB04 : Below w.heap.size w w4:=hB02.trans (hB24.mono hB02.size)
 have hz02:=(Mod.ofBelow hB12).keep hz0 (by simp)
 have hz12:=(Mod.ofBelow hb2).keep hz1 (by simp)
 have hz04:=(Mod.ofBelow hB24).keep hz02 (by simp)
 have hz14:=(Mod.ofBelow hB24).keep hz12 (by simp)
 have hz24:=(Mod.ofBelow hB24).keep hz2 (by simp)
 have hz34:=(Mod.ofBelow hb4).keep hz3 (by simp)
 have hcmp : ∀ w,(binOp .eql 47 (.agg #[.int .i64 s,.int .i64 g]) (.agg #[.int .i64 t,.int .i64 u])).run Tryz.prog w = .ok (.bool false) w:=fun w => by rw [eqlHandle,eqB_ne hne]
 have h4:=h.below hB04
 have h1:=above_any f t u w2
 rw [hw3,hw4] at h1
 have hseq:=fun n => above_seq n h4 t u hp hch w2.heap.size (w2.heap.size + 1) hz34 (by rw [← hs3];exact hz4)
 obtain ⟨q0,q1,ql⟩:=cells2 hz02
 obtain ⟨v0,v1,vl⟩:=cells2 hz12
 have hlt4 : w2.heap.size < w4.heap.size:=blk_lt hz34
 obtain ⟨H,H1,Hseq,Hz04,Hz14,Hz24,H4,HB04,Hs0,Hs1,Hs2,Hs3,Hs4,Hch,Hlt4⟩:=hid15 h h1 hseq hz04 hz14 hz24 h4 hB04 hs0 hs1 hs2 hs3 hs4 hch hlt4
 clear h h1 hseq hz04 hz14 hz24 h4 hB04 hs0 hs1 hs2 hs3 hs4 hch hlt4
 clear hb0 hz0 hb1 hz1 hb2 hz2 hb3 hz3 hb4 hz4 hB12 hB02 hB24 hz02 hz12 hz34 hw3 hw4
 refine callsIn_wide.1 (callsIn_of_wp_marks (n:=5) Tryz.func51 rfl trivial (wpIn_wide.2 ?_) rfl)
 simp only [Tryz.ntmps51,List.size_toArray,List.length_cons,List.length_nil,Nat.reduceAdd,Nat.reduceSub,Array.replicate_succ,Array.replicate_zero,List.push_toArray,List.append_toArray,List.nil_append,List.cons_append]
 go_wp2_with fail
 clear hw0 hw1 hw2
 refine H1.out.mono ?_
 rintro e w' ⟨rfl,rfl⟩
 go_wp2_with fail
 have hnu : (t,u) ≠ (s,g):=Ne.symm hne
 refine wp_rangeW 5 (by omega) (gf:=146) (lb:=#[.pointer (some ⟨w2.heap.size,0,none⟩),.pointer (some ⟨w2.heap.size + 1,0,none⟩)]) rfl (enters_of Tryz.func146 (by kernel_rfl) rfl) (Hseq.out 4) (Below.refl _ _) (fun _ => rfl)
  (fun pre W => Below w'.heap.size w' W ∧ (s,g) ∉ pre)
  (fun cd pre W => cd = .ret ∧ (s,g) ∈ pre ∧ Mod [w1.heap.size] w' W ∧ W.heap[w1.heap.size]? = some (.cells #[.int .i64 8] 27 (0,0)))
  (fun _ _ _ h k => ⟨h.1.trans k,h.2⟩) (fun _ _ _ _ h k => ⟨h.1,h.2.1,?_,?_⟩) ⟨Below.refl _ _,by simp⟩
  (fun (x : Hd) a' W => ∃ Bx,W.heap[Bx]? = some (.cells (handleC x).toArray 47 (0,0)) ∧ a' = { tmps:=#[.pointer (some ⟨f,0,none⟩),.agg #[.int .i64 s,.int .i64 g],.agg #[.int .i64 t,.int .i64 u],undef,.pointer (some ⟨w.heap.size,0,none⟩),.pointer (some ⟨w0.heap.size,0,none⟩),.pointer (some ⟨w1.heap.size,0,none⟩),.pointer (some ⟨Bx,0,none⟩),.agg #[.int .i64 s,.int .i64 g],.agg #[.int .i64 t,.int .i64 u],.bool false,.pointer (some ⟨f,0,none⟩),.agg #[.int .i64 t,.int .i64 u],.func (.func 146) #[] #[.pointer (some ⟨w2.heap.size,0,none⟩),.pointer (some ⟨w2.heap.size + 1,0,none⟩)],hdV x,undef,undef,undef,undef,undef,undef,undef,undef,undef],defers:=[] })
  (fun x a' X Y h _ k => ?_) ?assign ?body ?done ?stop
 case assign =>
  rintro l pre ⟨x0,x1⟩ W K hl hI hK
  simp only [hdV,handleC]
  gi_wp2
  exact hK _ _ ((Mod.refl _ _).alloc _) ⟨W.heap.size,heap_alloc_new W _,rfl⟩
 case body =>
  rintro l pre ⟨x0,x1⟩ a' W hl ⟨hB,hn⟩ ⟨Bx,hx,rfl⟩ hlen
  simp only [hdV,handleC] at hx ⊢
  have hzW:=(Mod.ofBelow hB).keep Hz04.out (by simp)
  have hyW:=(Mod.ofBelow hB).keep Hz24.out (by simp)
  have heq:=fun w => eqlHandle w x0 x1 s g
  have hb6 : w1.heap.size < w'.heap.size:=blk_lt Hz24.out
  clear q0 q1 ql v0 v1 vl hcmp
  obtain ⟨q0,q1,ql⟩:=cells2 hx
  obtain ⟨v0,v1,vl⟩:=cells2 hzW
  obtain ⟨y0,yl⟩:=cells1 hyW
  have f0:=blk_free hyW 0
  cases hr : eqB (x0,x1) (s,g) with
  | true =>
   have hxs : (x0,x1) = (s,g):=by simpa [eqB] using hr
   rw [hr] at heq
   obtain ⟨HB,HyW,Hb6,Hl⟩:=hid4 hB hyW hb6 hl
   clear hB hyW hb6 hl
   clear hx hzW hn hr hlen
   gi_wp2
   refine ⟨?_,rfl,?_,(Mod.ofBelow HB.out).mono (by simp) |>.setCell (by simp) _,blk_set HyW.out 0 _⟩
   ·intro k o hk ho
    rw [blk_set_ne (by have:=Hb6.out;simp;omega)];exact ho
   ·rw [hxs];simp
  | false =>
   have hxs : (s,g) ≠ (x0,x1):=fun e => by rw [e,eqB_self] at hr;cases hr
   rw [hr] at heq
   have HB:=Lib.hid hB
   clear hB
   clear hx hzW hr hlen hyW
   gi_wp2
   exact ⟨Mod.refl _ _,HB.out,by simp [hn,hxs]⟩
 case done =>
  rintro D xs W hD rfl ⟨hB,hn⟩ hK
  have hnup : ¬ Up B (t,u) (s,g):=fun hu => by
   rcases (Hch.out.mem H.out.ok.so _).2 hu with e | e
   ·exact hnu e
   ·exact hn e
  have hzs:=(Mod.ofBelow hB).keep Hz04.out (by simp)
  have hzt:=(Mod.ofBelow hB).keep Hz14.out (by simp)
  have hy:=(Mod.ofBelow hB).keep Hz24.out (by simp)
  have h5:=H4.out.below hB
  obtain ⟨m,w5,hF,hcm,hfl,hrun,h6,hm6⟩:=(h5.below below_drew).upd hc hp (insB_ok H.out.ok hnup)
  simp only [hdV,handleC] at hrun
  have hcm' : W.cell? ⟨f,0,none⟩ = some (.map (some m)):=hcm
  have hfl' : f < W.heap.size:=hfl
  have hmF : m ∈ F:=by rw [hF];simp
  have hml:=H.out.lt m hmF
  have hy5:=hm6.keep (blk_drew hy) (by have:=Hs0.out;have:=Hs1.out;simp;omega)
  have hK5:=hm6.keep (blk_drew hK) (by have:=HB04.out.size;simp;omega)
  have hM5 : Mod F w w5:=(((Mod.ofBelow (HB04.out.trans (hB.mono HB04.out.size))).mono (by simp) : Mod F w W).andBelow below_drew).step (hm6.mono (by simp [hmF]))
  have hDb : D ≠ w1.heap.size:=by have:=blk_lt Hz24.out;omega
  have hw1F : ∀ y ∈ F,y ≠ w1.heap.size ∧ y ≠ D:=fun y hy => by
   have:=H.out.lt y hy;have:=Hs0.out;have:=Hs1.out;have:=HB04.out.size
   exact ⟨by omega,by omega⟩
  have hfin : FRet (adoB B (s,g) (t,u)) (.int .i64 (adoE B (s,g) (t,u))) f F w (.returned (.int .i64 0)) ((w5.setCell ⟨w1.heap.size,0,none⟩ (.int .i64 0)).putObj D (.deferred none)):=by
   have e1 : adoB B (s,g) (t,u) = insB B ((s,g),(t,u)):=by unfold adoB;rw [if_neg hnup]
   have e2 : adoE B (s,g) (t,u) = 0:=by unfold adoE;rw [if_neg hnup]
   rw [e1,e2]
   refine ⟨rfl,h6.mod (G:=[w1.heap.size,D]) (((Mod.refl _ _).setCell (by simp) _).putObj (by simp) _) (fun y hy => by simpa using hw1F y hy),?_⟩
   exact (hM5.setCell (.inr (by have:=Hs0.out;have:=Hs1.out;simp;omega)) _).putObj (.inr (by have:=HB04.out.size;omega)) _
  obtain ⟨y0,yl⟩:=cells1 hy5
  have f0:=blk_free hy5 0
  have hyf : ((w5.setCell ⟨w1.heap.size,0,none⟩ (.int .i64 0)).putObj D (.deferred none)).heap[w1.heap.size]? = some (.cells #[.int .i64 0] 27 (0,0)):=(World.putObj_heap_other (by omega)).trans (blk_set hy5 0 _)
  have hKf : (w5.setCell ⟨w1.heap.size,0,none⟩ (.int .i64 0)).heap[D]? = some (.deferred (some [])):=(blk_set_ne (by simpa using hDb) _).trans hK5
  clear q0 q1 ql v0 v1 vl hcmp
  obtain ⟨q0,q1,ql⟩:=cells2 hzs
  obtain ⟨v0,v1,vl⟩:=cells2 hzt
  obtain ⟨Hfin,Hyf,HKf⟩:=hid3 hfin hyf hKf
  clear hfin hyf hKf
  clear hzs hzt hy h5 hcm hfl h6 hm6 hml hy5 hK5 hM5 hDb hw1F hB hn hK hF hmF
  go_wp2_with fail
  refine wp_planR 6 [0] [some 18,some 19,some 20,some 21,some 22,some 23,none] [[],[0],[0,1],[0,1,2],[],[],[0,1,2,3,4,5]] [0,1,2,3,4,5] mixed rfl (by kernel_rfl) (by decide) (by decide) rfl ?_
  iterate 6 apply Exists.intro
  refine ⟨rfl,?_,?_⟩
  ·simp only [tS,List.take_zero,AllFrom.cons_eq,AllFrom.nil_eq,OpGoalQ]
   refine ⟨?_,?_,?_,?_,?_,?_,trivial⟩
   all_goals (intro σ hp;(try simp only [gZ,gS,mC,mN,preF_cons,preF_nil,isV,and_true] at hp);(first | (have hq : True:=hp;clear hq hp) | skip))
   all_goals (go_simp;exact ⟨rfl,rfl⟩)
  intro σ hp
  simp only [gZ,gS,mC,mN,preF_cons,preF_nil,isV,and_true] at hp
  simp only [dS,List.drop_zero]
  go_simp
  clear hp
  go_wp2
  refine ⟨rfl,?_⟩
  go_wp2
  refine ⟨by simp,.inl ⟨_,_,rfl,run_takeDeferred HKf.out,?_⟩⟩
  have e0:=blk_cell Hyf.out 0
  simp only [eA,eZ] at e0
  have el:=blk_lt Hyf.out
  refine ⟨.int .i64 0,?_,Hfin.out⟩
  unfold results;go_simp
 case stop =>
  rintro D cd pre W hD hpre ⟨rfl,hmem,hmod,hb8⟩ hK
  have hup : Up B (t,u) (s,g):=(Hch.out.mem H.out.ok.so _).1 (.inr (hpre.subset hmem))
  have hD' : D ≠ w1.heap.size:=by have:=blk_lt Hz24.out;omega
  have hb9 : (W.putObj D (.deferred none)).heap[w1.heap.size]? = some (.cells #[.int .i64 8] 27 (0,0)):=(World.putObj_heap_other (by omega)).trans hb8
  have hfin : FRet (adoB B (s,g) (t,u)) (.int .i64 (adoE B (s,g) (t,u))) f F w (.returned (.int .i64 8)) (W.putObj D (.deferred none)):=by
   have e1 : adoB B (s,g) (t,u) = B:=by unfold adoB;rw [if_pos hup]
   have e2 : adoE B (s,g) (t,u) = 8:=by unfold adoE;rw [if_pos hup]
   rw [e1,e2]
   have hM0 : Mod [] w (W.putObj D (.deferred none)):=(((Mod.ofBelow HB04.out).trans hmod (fun x hx => by
    simp only [List.mem_cons,List.not_mem_nil,or_false] at hx
    have:=Hs0.out;have:=Hs1.out
    exact .inr (by omega))).putObj (.inr (by have:=HB04.out.size;omega)) _)
   exact ⟨rfl,H.out.mod hM0 (by simp),hM0.mono (by simp)⟩
  obtain ⟨Hfin,HK,Hb9⟩:=hid3 hfin hK hb9
  clear hfin hK hb9
  clear hmod hb8 hmem hpre hup q0 q1 ql v0 v1 vl hcmp
  go_wp2
  refine ⟨by simp,.inl ⟨_,_,rfl,run_takeDeferred HK.out,?_⟩⟩
  have e0:=blk_cell Hb9.out 0
  simp only [eA,eZ] at e0
  have el:=blk_lt Hb9.out
  refine ⟨.int .i64 8,?_,Hfin.out⟩
  unfold results;go_simp
 ·exact h.2.2.1.thenBelow k
 ·exact (k.block _ (blk_lt Hz24.out)).trans h.2.2.2
 ·obtain ⟨Bx,h1,h2⟩:=h
  exact ⟨Bx,k _ _ h1 rfl,h2⟩
theorem adopt_any (h : RepF w f B F) (s g t u : Int) (hc : HdR (s,g)) (hp : HdR (t,u)) : Calls Tryz.prog 51 #[.pointer (some ⟨f,0,none⟩),.agg #[.int .i64 s,.int .i64 g],.agg #[.int .i64 t,.int .i64 u]] w (FRet (adoB B (s,g) (t,u)) (.int .i64 (adoE B (s,g) (t,u))) f F w):=by
 by_cases e : (s,g) = (t,u)
 ·obtain ⟨rfl,rfl⟩:=Prod.mk.inj e
  rw [show adoB B (s,g) (s,g) = B by unfold adoB;rw [if_pos (Up.refl _)],show adoE B (s,g) (s,g) = 8 by unfold adoE;rw [if_pos (Up.refl _)]]
  exact adopt_same h s g
 ·exact adopt_diff h s g t u e hc hp
end
end Go.Proofs.YtfdillpofciicaaGreatDoor
namespace Go.Proofs.YtfdillpofciicaaGreatDoor
open Go Go.RowKit
attribute [local go_sem] AllFrom.cons_eq AllFrom.nil_eq putF_nil putF_cons wantedL_none wantedL_some OpGoalT OpGoalV OpGoalQ OpGoalA OpGoalK YieldsR preF_nil preF_cons
section
variable {vg vl vr : Value}
end
section
variable {vg vl vr : Value} {w : World} {q : Nat} {B : List Bd} {F : List Nat}
end
theorem app_handleG {w : World} {ops : Array Oper} {rest : List Oper} {o : Oper} {a : Act} {Q : Exit → Act → World → Prop} (hgd : o.guard = none) (s x : Operand)
  (ho : o.op = .call { callee:=.builtin .append,args:=#[s,x],argTypes:=#[156,156] }) (base : Nat) (v : Value) (l : List Hd) (y : Hd) (ad : Addr) (c : Nat)
  (hs : a.eval s = v) (hown : w.ownsRow base 47 2 v l.length (l.flatMap handleC)) (hx : a.eval x = .slice (some ad) 1 c) (hc : ∀ j u,(handleC y)[j]? = some u → w.cell? (ad.add j) = some u)
  (hlen : l.length < 8796093022207) (hbase : base ≤ w.heap.size)
  (h : ∀ v' w',w'.ownsRow base 47 2 v' (l ++ [y]).length ((l ++ [y]).flatMap handleC) → w.grownBy w' v.ownBlock → wpList Tryz.prog ops Q rest (a.put o.dst v') w') : wpList Tryz.prog ops Q (o :: rest) a w:=by
 refine app_rec (enc:=handleC) (n:=2) (z:=.agg #[.int .i64 0,.int .i64 0]) (bytes:=16) hgd s x 156 47 ho Tryz.underlying156 info_handle rfl (by omega) (by omega) handleC_one handleC_len base v l y ad c hs hown hx hc (by omega) hbase ?_
 intro v' w' h1 h2 _
 exact h v' w' h1 h2
theorem wpList_app {P : Program} {w w' : World} {ops : Array Oper} {rest : List Oper} {o : Oper} {a : Act} {Q : Exit → Act → World → Prop} (hgd : o.guard = none) (s x : Operand) (T : TypeId)
  (ho : o.op = .call { callee:=.builtin .append,args:=#[s,x],argTypes:=#[T,T] }) {v1 v2 v' : Value} (hs : a.eval s = v1) (hx : a.eval x = v2)
  (hr : (Builtin.append_ #[T,T] o.type #[v1,v2]).run P w = .ok v' w') (h : wpList P ops Q rest (a.put o.dst v') w') : wpList P ops Q (o :: rest) a w:=by
 refine wpList_plain hgd fun K hK => ?_
 unfold Oper.wp execOp
 simp only [ho,resolve,invoke,builtin,Sem.run_bind,Sem.run_pure,Result.andThen_ok,List.map_toArray,mC,mN,hs,hx,hr]
 exact hK _ _ h
theorem run_appH {w : World} (base B2 : Nat) (v v2 : Value) (l l2 : List Hd) (ty : TypeId) (hown : w.ownsRow base 47 2 v l.length (l.flatMap handleC)) (hrow : w.ownsRow B2 47 2 v2 l2.length (l2.flatMap handleC))
  (hlen : l.length + l2.length < 8796093022207) (hbase : base ≤ w.heap.size) :
  ∃ v' w',(Builtin.append_ #[156,156] ty #[v,v2]).run Tryz.prog w = .ok v' w' ∧ w'.ownsRow base 47 2 v' (l ++ l2).length ((l ++ l2).flatMap handleC) ∧ w.grownBy w' v.ownBlock:=by
 obtain ⟨i0,hi,hz0,hz1,hz2⟩:=info_parts info_handle
 rcases hrow with ⟨hx,⟨rfl,h2⟩ | ⟨g,cap2,cur,rfl,h3⟩⟩
 ·have hl2 : l2 = []:=List.eq_nil_of_length_eq_zero h2
  subst hl2
  exact ⟨v,w,run_append_owned_none (P:=Tryz.prog) w base 156 ty 47 i0 2 Tryz.underlying156 hi v l.length _ hown,by simpa using hown,⟨rfl,rfl,rfl,Nat.le_refl _,fun _ _ _ => rfl⟩⟩
 ·have hrow2 : w.ownsRow B2 47 2 (.slice (some ⟨g,0,none⟩) l2.length cap2) l2.length (l2.flatMap handleC):=⟨hx,.inr ⟨g,cap2,cur,rfl,h3⟩⟩
  obtain ⟨v',w',hr,h4,h5,-,-⟩:=run_append_own_at (P:=Tryz.prog) w base 156 ty 47 i0 _ 2 16 Tryz.underlying156 hi hz0 hz1 hz2 rfl (by omega) v l.length _ hown ⟨g,0,none⟩ l2.length cap2 (l2.flatMap handleC) (flatV_length handleC_len l2) (fun j u hu => by
   have h5:=row_cell hrow2 hu
   rw [Addr.add_mid,Nat.zero_add];exact h5) (flat_one handleC_one _) (by unfold maxLen;omega) (by omega) hbase
  refine ⟨v',w',hr,?_,h5⟩
  rw [List.length_append,List.flatMap_append]
  exact h4
theorem app_list {w : World} {ops : Array Oper} {rest : List Oper} {o : Oper} {a : Act} {Q : Exit → Act → World → Prop} (hgd : o.guard = none) (s x : Operand)
  (ho : o.op = .call { callee:=.builtin .append,args:=#[s,x],argTypes:=#[156,156] }) (base B2 : Nat) (v v2 : Value) (l l2 : List Hd)
  (hs : a.eval s = v) (hown : w.ownsRow base 47 2 v l.length (l.flatMap handleC)) (hx : a.eval x = v2) (hrow : w.ownsRow B2 47 2 v2 l2.length (l2.flatMap handleC))
  (hlen : l.length + l2.length < 8796093022207) (hbase : base ≤ w.heap.size)
  (h : ∀ v' w',w'.ownsRow base 47 2 v' (l ++ l2).length ((l ++ l2).flatMap handleC) → w.grownBy w' v.ownBlock → wpList Tryz.prog ops Q rest (a.put o.dst v') w') : wpList Tryz.prog ops Q (o :: rest) a w:=by
 obtain ⟨v',w',hr,h1,h2⟩:=run_appH base B2 v v2 l l2 o.type hown hrow hlen hbase
 exact wpList_app hgd s x _ ho hs hx hr (h v' w' h1 h2)
theorem underN_len {B : List Bd} (h : FamOk B) {n : Nat} {x : Hd} (hl : Low B n x) : (underN B n x).length ≤ B.length:=by
 have h1:=nodup_le (under_nodup h hl) (ys:=B.map (·.1)) (fun y hy => by
  obtain ⟨p,h1,-⟩:=(mem_under hl).1 hy
  exact List.mem_map.2 ⟨_,h1,rfl⟩)
 rw [List.length_map] at h1
 exact h1
def undP (B : List Bd) (n : Nat) (ks : List Hd) (k : Nat) : List Hd:=(ks.take k).flatMap (fun c => c :: underN B n c)
theorem undP_succ (B : List Bd) (n : Nat) (ks : List Hd) (k : Nat) (hk : k < ks.length) : undP B n ks (k + 1) = (undP B n ks k ++ [ks[k]]) ++ underN B n ks[k]:=by
 unfold undP;rw [take_succ_get ks k hk,List.flatMap_append];simp
theorem undP_all (B : List Bd) (n : Nat) (h : Hd) : undP B n (kidsB B h) (kidsB B h).length = underN B (n + 1) h:=by
 unfold undP;rw [List.take_length];rfl
theorem undP_len (B : List Bd) (n : Nat) (ks : List Hd) (k : Nat) : (undP B n ks k).length ≤ (undP B n ks ks.length).length:=by
 unfold undP
 rw [List.take_length]
 conv => rhs;rw [← List.take_append_drop k ks]
 rw [List.flatMap_append,List.length_append];omega
section
variable {vg vl vr : Value} {w : World} {q : Nat} {B : List Bd} {F : List Nat}
end
section
variable {w5 V V' : World} {l1 l2 : List Bd} {x : Bd} {L : Nat → Bool} {σ : Nat → Value}
end
section
variable {vg vl vr : Value} {w : World} {q : Nat} {B : List Bd} {F : List Nat}
end
section
variable {vg vl vr : Value} {w : World} {q : Nat} {B : List Bd} {F : List Nat}
end
end Go.Proofs.YtfdillpofciicaaGreatDoor
namespace Go.Proofs.YtfdillpofciicaaGreatDoor
open Go Go.RowKit
attribute [local go_sem] AllFrom.cons_eq AllFrom.nil_eq putF_nil putF_cons wantedL_none wantedL_some OpGoalQ YieldsR preF_nil preF_cons
set_option maxRecDepth 20000 in
set_option maxHeartbeats 1000000 in
theorem eqBond_any (A : Option Addr) (c : Nat) (A' : Option Addr) (c' : Nat) (l l' : List Bd) (w : World) (hl : l.length ≤ 9223372036854775807) (hl' : l'.length ≤ 9223372036854775807)
  (hA : Lies w w.heap.size A (l.flatMap bdC)) (hA' : Lies w w.heap.size A' (l'.flatMap bdC)) :
  Calls Tryz.prog 28 #[.slice A l.length c,.slice A' l'.length c'] w fun e w' => e = .returned (.bool (eqB l l')) ∧ Below w.heap.size w w':=by
 by_cases hlen : l.length = l'.length
 ·have hb : ((l.length : Int) != (l'.length : Int)) = false:=by simp [hlen]
  have Hlen:=Lib.hid hlen
  clear hlen
  go_enter Tryz.func28,Tryz.ntmps28
  go_wp2
  go_loopw [14] (fun i wr => ∃ k : Nat,k ≤ l.length ∧ i = .int .i64 k ∧ l.take k = l'.take k ∧ Below w.heap.size w wr) (fun i _ => l.length - (Go.RowKit.intOf i).toNat)
  case atStart => exact ⟨0,by omega,rfl,rfl,Below.refl _ _⟩
  case round =>
   obtain ⟨k,hk,rfl,heq,hbel⟩:=hrel
   have Heq:=Lib.hid heq
   clear heq hb
   have hsz:=hbel.size
   by_cases hlt : k < l.length
   ·have hlt' : k < l'.length:=by rw [← Hlen.out];exact hlt
    obtain ⟨ab,ao,rfl,hal,hc⟩:=hA.rec_at bdC_len (by omega) hlt
    obtain ⟨bb,bo,rfl,hbl,hc'⟩:=hA'.rec_at bdC_len (by omega) hlt'
    have hs:=take_succ_get l k hlt
    have hs':=take_succ_get l' k hlt'
    have hne : l[k] ≠ l'[k] → l ≠ l':=by
     intro h e;subst e;exact h rfl
    have hc1 : ∀ j u,(bdC l[k])[j]? = some u → wr.cell? ((⟨ab,ao + k * 4,none⟩ : Addr).add j) = some u:=fun j u hu => by
     have:=(hbel.cell (p:=⟨ab,ao + k * 4 + j,none⟩) hal).trans (hc j u hu)
     rw [Addr.add_mid];exact this
    have hc2 : ∀ j u,(bdC l'[k])[j]? = some u → wr.cell? ((⟨bb,bo + k * 4,none⟩ : Addr).add j) = some u:=fun j u hu => by
     have:=(hbel.cell (p:=⟨bb,bo + k * 4 + j,none⟩) hbl).trans (hc' j u hu)
     rw [Addr.add_mid];exact this
    have hal2 : ab < wr.heap.size:=by omega
    have hbl2 : bb < wr.heap.size:=by omega
    have hin : (k : Int) < (l'.length : Int):=by omega
    generalize l[k] = x at *
    generalize l'[k] = y at *
    obtain ⟨Hs,Hs',Hne,Hc1,Hc2,Hbel⟩:=hid6 hs hs' hne hc1 hc2 hbel
    have he:=fun w => neqBond w x y
    clear hs hs' hne hc hc' hA hA' hc1 hc2 hbel
    generalize hr : eqB x y = r at *
    have Hr:=Lib.hid hr
    clear hr
    have hDa : ∀ u ∈ bdC x,u.oneCell' = true:=bdC_one x
    have HDa:=Lib.hid hDa
    clear hDa
    go_wp2_with (first | (refine wpList_load_flat rfl 60 (.tmp 17) rfl _ rfl (bdC x) _ Tryz.underlying60 rfl (sz_Bond _) Hc1.out ?_) | (refine wpList_store_new rfl 60 (.tmp 6) (.tmp 18) rfl wr (ints [0,0,0,0]) (bdC x) 60 rfl rfl rfl (sz_Bond _) HDa.out ?_))
    have hnew : ∀ j u,(bdC x)[j]? = some u → (wr.alloc (.cells (bdC x).toArray 60)).drew.cell? ((⟨wr.heap.size,0,none⟩ : Addr).add j) = some u:=fun j u hu => new_rec rfl (by simp) j u hu
    have hold : ∀ j u,(bdC y)[j]? = some u → (wr.alloc (.cells (bdC x).toArray 60)).drew.cell? ((⟨bb,bo + k * 4,none⟩ : Addr).add j) = some u:=fun j u hu => by
     have:=Hc2.out j u hu
     rw [Addr.add_mid] at this ⊢
     exact (((Below.refl wr.heap.size wr).alloc (Nat.le_refl _) _).cell (p:=⟨bb,bo + k * 4 + j,none⟩) hbl2).trans this
    obtain ⟨Hnew,Hold⟩:=hid2 hnew hold
    clear hnew hold
    refine wp_planR 6 [1,2] [some 19,some 20,some 21,some 22,some 23,some 24] [[],[],[],[1,2],[1,2,3],[0,1,2,3,4]] [0,1,2,3,4,5] mixed rfl (by kernel_rfl) (by decide) (by decide) rfl ?_
    iterate 6 apply Exists.intro
    refine ⟨rfl,?_,?_⟩
    ·simp only [tS,List.take_zero,AllFrom.cons_eq,AllFrom.nil_eq,OpGoalQ]
     refine ⟨?_,?_,?_,?_,?_,?_,trivial⟩
     all_goals (intro σ hp;(try simp only [gZ,gS,mC,mN,preF_cons,preF_nil,isV,and_true] at hp);(first | (have hq : True:=hp;clear hq hp) | skip))
     ·(simp only [wantedL_none,↓reduceIte,gZ,gS];refine yr_load 60 (.tmp 6) (by rfl) ⟨wr.heap.size,0,none⟩ ?_ (bdC x) _ Tryz.underlying60 rfl (sz_Bond _) Hnew.out ?_;(· go_simp);(· exact ⟨rfl,rfl⟩))
     iterate 3 · (go_simp;exact ⟨rfl,rfl⟩)
     ·(simp only [wantedL_none,↓reduceIte,gZ,gS];refine yr_load 60 (.tmp 22) (by rfl) ⟨bb,bo + k * 4,none⟩ ?_ (bdC y) _ Tryz.underlying60 rfl (sz_Bond _) Hold.out ?_;(· go_simp);(· exact ⟨rfl,rfl⟩))
     ·(go_simp;exact ⟨rfl,rfl⟩)
    intro σ hp
    simp only [gZ,gS,mC,mN,preF_cons,preF_nil,isV,and_true] at hp
    simp only [dS,List.drop_zero]
    go_simp
    clear hp
    cases r with
    | true =>
     have hxy : x = y:=by simpa [eqB] using Hr.out
     have Hxy:=Lib.hid hxy
     clear hxy
     go_simp
     refine ⟨rfl,?_⟩
     go_wp2
     go_roundw
     case rel => exact ⟨k + 1,by omega,by go_num,by rw [Hs.out,Hs'.out,Heq.out,Hxy.out],(Hbel.out.alloc hsz _).drew⟩
     case measure => simp [Go.RowKit.intOf];omega
    | false =>
     have hxy : x ≠ y:=by intro e;have:=Hr.out;rw [e,eqB_self] at this;cases this
     have Hf:=Lib.hid (eqB_ne (Hne.out hxy))
     clear hxy
     go_simp
     refine ⟨rfl,?_⟩
     go_wp2
     go_ret
     exact ⟨by rw [Hf.out];rfl,(Hbel.out.alloc hsz _).drew⟩
   ·have he : l = l':=by
     have:=Heq.out
     rwa [List.take_of_length_le (by omega),List.take_of_length_le (by have:=Hlen.out;omega)] at this
    have Hf : Hid (eqB l l' = true):=by rw [he];exact eqB_self _
    clear he
    go_wp2
    go_ret
    exact ⟨by rw [Hf.out];rfl,hbel⟩
 ·have hb : ((l.length : Int) != (l'.length : Int)) = true:=by simp;omega
  have Hf:=Lib.hid (eqB_ne (fun e : l = l' => hlen (congrArg List.length e)))
  clear hlen
  go_enter Tryz.func28,Tryz.ntmps28
  go_wp2
  go_ret
  exact ⟨by rw [Hf.out];rfl,Below.refl _ _⟩
end Go.Proofs.YtfdillpofciicaaGreatDoor
namespace Go.Proofs.YtfdillpofciicaaGreatDoor
open Go Go.RowKit
attribute [local go_sem] AllFrom.cons_eq AllFrom.nil_eq putF_nil putF_cons wantedL_none wantedL_some OpGoalT OpGoalV OpGoalQ OpGoalA OpGoalK YieldsR preF_nil preF_cons
section
variable {vg vl vr : Value} {Lo : Nat} {Z : List Nat} {f q : Nat} {B B' : List Bd} {w : World}
end
end Go.Proofs.YtfdillpofciicaaGreatDoor
namespace Go.Proofs.YtfdillpofciicaaGreatDoor
open Go Go.RowKit Go.Maps Go.Sort
attribute [local go_sem] AllFrom.cons_eq AllFrom.nil_eq putF_nil putF_cons wantedL_none wantedL_some OpGoalT OpGoalV OpGoalQ OpGoalA OpGoalK YieldsR preF_nil preF_cons
theorem kids_sorted {B : List Bd} (h : SortB B) (x : Hd) : (kidsB B x).Pairwise (fun a b => ltH a b = true):=by
 unfold kidsB
 rw [List.pairwise_map]
 exact h.sublist List.filter_sublist
theorem kids_eq {B C : List Bd} {x : Hd} {l : List Hd} (h : SortB B) (hC : C.Perm B) (hp : l.Perm (kidsB C x)) (hs : l.Pairwise (fun a b => ltH b a = false)) : l = kidsB B x:=by
 have hk:=kids_sorted h x
 have hp2 : l.Perm (kidsB B x):=hp.trans ((hC.filter _).map _)
 have hne : l.Pairwise (fun a b => a ≠ b):=(List.Perm.pairwise_iff (fun h => Ne.symm h) hp2).2 (hk.imp fun h => ltH_ne h)
 have hl : l.Pairwise (fun a b => ltH a b = true):=(hs.and hne).imp (by
  rintro a b ⟨h1,h2⟩
  cases e : ltH a b with
  | true => rfl
  | false => exact absurd (ltH_tri e h1) h2)
 refine List.Perm.eq_of_pairwise (le:=fun a b : Hd => ltH a b = true) (fun a b ha hb h1 h2 => ?_) hl hk hp2
 rw [ltH_asymm h1] at h2;cases h2
theorem kids_app (C D : List Bd) (x : Hd) : kidsB (C ++ D) x = kidsB C x ++ kidsB D x:=by unfold kidsB;rw [List.filter_append,List.map_append]
theorem kids_one (b : Bd) (x : Hd) : kidsB [b] x = if eqB b.2 x = true then [b.1] else []:=by
 unfold kidsB eqB
 by_cases e : b.2 = x <;> simp [e]
theorem kids_len (B : List Bd) (x : Hd) : (kidsB B x).length ≤ B.length:=by
 unfold kidsB
 rw [List.length_map]
 exact List.length_filter_le _ _
section
variable {w : World} {f : Nat} {B : List Bd} {F : List Nat}
set_option maxRecDepth 20000 in
set_option maxHeartbeats 4000000 in
theorem fkids_any (h : RepF w f B F) (hB : B.length ≤ 1200000000000) (s g : Int) : Calls Tryz.prog 149 #[.pointer (some ⟨f,0,none⟩),.agg #[.int .i64 s,.int .i64 g]] w (MadeRecs 47 2 handleC (kidsB B (s,g)) w):=by
 obtain ⟨w0,hw0,hb0,hz0,hs0⟩:=box1 w (.cells #[.int .i64 s,.int .i64 g] 47)
 obtain ⟨ho,hr,m,l,h1,h2,h3,hF,h5⟩:=h.below hb0
 obtain ⟨o,hrun,hR⟩:=h2.range Tryz.underlying167
 obtain ⟨w1,hw1,hb1,-,hs1⟩:=box1 w0 o
 rw [hw1] at hR
 have e0:=blk_cell h1 0
 simp only [eA,eZ] at e0
 have hfl:=blk_lt h1
 have hll : l.length ≤ 1200000000000:=by rw [h3.length_eq];exact hB
 obtain ⟨HR,Hb0,Hb1,Hz0,Hs0,Hs1,Ho,H3,Hll⟩:=hid9 hR hb0 hb1 hz0 hs0 hs1 ho h3 hll
 clear hR hb0 hb1 hz0 hs0 hs1 ho h3 hll
 clear h h1 h2 hr hF h5 hB
 go_enter Tryz.func149,Tryz.ntmps149
 go_wp2_with fail
 clear hrun hw1 hw0 e0 hfl
 go_loopw [5,14] (fun v _ wr => ∃ (D ts : List Bd),RangeAt Tryz.prog 47 wr m w0.heap.size (l.map bdPr) (ts.map bdPr) ∧ (D ++ ts).Perm l ∧ wr.ownsRow w0.heap.size 47 2 v (kidsB D (s,g)).length ((kidsB D (s,g)).flatMap handleC) ∧ Below w0.heap.size w0 wr) (fun _ _ wr => wr.rangeLeft m w0.heap.size)
 case atStart => exact ⟨[],l,HR.out,.refl _,⟨rfl,.inl ⟨rfl,rfl⟩⟩,Hb1.out⟩
 case round =>
  obtain ⟨D,ts,hR,hp,hown,hB⟩:=hrel
  obtain ⟨A,cap,rfl,-,-⟩:=row_slice hown
  have hlen : D.length + ts.length = l.length:=by rw [← List.length_append];exact hp.length_eq
  have hkl:=kids_len D (s,g)
  have hzr:=(Mod.ofBelow hB).keep Hz0.out (by simp)
  by_cases hts : ts = []
  ·subst hts
   have hov:=fun ty => RangeAt.over (P:=Tryz.prog) (by simpa using hR) ty
   simp only [List.append_nil] at hp
   have H1:=Lib.hid (sortHandles_any hown (by have:=Hll.out;simp at hlen;omega))
   obtain ⟨Hp,HB,Hown⟩:=hid3 hp hB hown
   clear hp hB hown
   clear hR hlen hzr
   go_wp2_with fail
   refine H1.out.mono ?_
   rintro e w2 ⟨rfl,l',hp',hs',hown',hmod⟩
   have hl' : l' = kidsB B (s,g):=kids_eq Ho.out.so (Hp.out.trans H3.out) hp' (hs'.imp fun {x y} h => by
    have h : ltOf cmpH y x = false:=h
    rw [ltHd_eq] at h;exact h)
   have hB2 : Below w0.heap.size w0 w2:=HB.out.trans (hmod.toBelow (fun x hx => own_ge Hown.out x (by simpa using hx)) HB.out.size)
   rw [hl'] at hown'
   have hown2:=row_base hown' (B':=w.heap.size) (fun k hk => by have:=own_ge hown' k hk;have:=Hs0.out;omega)
   have hBw:=Hb0.out.trans (hB2.mono Hb0.out.size)
   obtain ⟨HBw,HO2⟩:=hid2 hBw hown2
   clear hBw hown2
   clear hp' hs' hmod hl' hown' hB2
   go_wp2
   refine bodyPost_ret (v:=.slice A (kidsB D (s,g)).length cap) (by unfold results;try go_simp) rfl ?_
   exact ⟨_,rfl,HO2.out,HBw.out⟩
  ·obtain ⟨t1,x,t2,w2,rfl,hn,hen,hx,hR2,hm2,hs2⟩:=hR.nextE hts
   have hmeas:=hR.left_eq
   obtain ⟨⟨c0,c1⟩,p0,p1⟩:=x
   have hne:=own_ne_range hown hR
   have hrl:=hR.lt
   have hown2:=row_mod hown hm2 (fun k hk e => by
    have hk' : k = w0.heap.size:=by simpa using e
    subst hk';exact hne.1 (by rw [hk];simp))
   have hB2 : Below w0.heap.size w0 w2:=hB.trans (hm2.toBelow (by simp) hB.size)
   simp only [bdPr,hdV,handleC] at hn hen
   have hDl : (kidsB D (s,g)).length < 1200000000000:=by have:=Hll.out;simp at hlen;omega
   have hzr2:=hm2.keep hzr (by have:=Hs0.out;simp;omega)
   have hb24 : Below w2.heap.size w2 ((w2.alloc (.cells #[.int .i64 c0,.int .i64 c1] 47)).alloc (.cells #[.int .i64 p0,.int .i64 p1] 47)):=((Below.refl _ _).alloc (Nat.le_refl _) _).alloc (by simp) _
   have hB4:=hB2.trans (hb24.mono hB2.size)
   have hown4:=row_mod hown2 (Mod.ofBelow hb24) (by simp)
   have hR4:=hR2.mod (Mod.ofBelow hb24) (by simp) (by simp)
   have heq:=fun w => eqlHandle w p0 p1 s g
   have hka:=kids_app D [((c0,c1),(p0,p1))] (s,g)
   rw [kids_one] at hka
   simp only at hka
   obtain ⟨q0,q1,ql⟩:=cells2 hzr2
   have HR:=Lib.hid hR;have Hp:=Lib.hid hp;have Hown:=Lib.hid hown;have HB:=Lib.hid hB;have HR2:=Lib.hid hR2;have Hm2:=Lib.hid hm2;have Hs2:=Lib.hid hs2;have Hmeas:=Lib.hid hmeas;have HNe:=Lib.hid hne;have Hown2:=Lib.hid hown2;have HB2:=Lib.hid hB2;have Hx:=Lib.hid hx;have HDl:=Lib.hid hDl;have HR4:=Lib.hid hR4;have Hown4:=Lib.hid hown4;have HB4:=Lib.hid hB4;have Hka:=Lib.hid hka;have HKl:=Lib.hid hkl
   clear hR hp hown hB hR2 hm2 hs2 hmeas hne hown2 hB2 hx hDl hR4 hown4 hB4 hka hkl
   clear hlen hzr hb24 hzr2
   cases hr : eqB (p0,p1) (s,g) with
   | false =>
    rw [hr] at heq
    have Hr:=Lib.hid hr
    clear hr
    go_wp2_with fail
    go_roundw
    case rel =>
     refine ⟨D ++ [((c0,c1),(p0,p1))],t1 ++ t2,HR4.out,(mid_perm D t1 t2 _).symm.trans Hp.out,?_,HB4.out⟩
     rw [Hka.out,if_neg (by rw [Hr.out];simp),List.append_nil]
     exact Hown4.out
    case measure => rw [HR4.out.left_eq,Hmeas.out];simp
   | true =>
    rw [hr] at heq
    have Hr:=Lib.hid hr
    clear hr
    go_wp2_with (at_builtin;refine app_handleG rfl _ _ rfl w0.heap.size (.slice A (kidsB D (s,g)).length cap) (kidsB D (s,g)) (c0,c1) ⟨w2.heap.size + 2,0,none⟩ 1 rfl (Hown4.out.alloc _) rfl (new_rec (by simp) rfl) (by have:=HDl.out;omega) (by have:=HB2.out.size;simp;omega) ?_;intro v' w5 hown5 hg5)
    go_roundw
    case rel =>
     refine ⟨D ++ [((c0,c1),(p0,p1))],t1 ++ t2,?_,(mid_perm D t1 t2 _).symm.trans Hp.out,?_,?_⟩
     ·exact (HR4.out.mod ((Mod.refl [] _).alloc _) (by simp) (by simp)).mod (grown_mod hg5) HNe.out.2 HNe.out.1
     ·rw [Hka.out,if_pos Hr.out];exact hown5
     ·exact (HB4.out.alloc HB4.out.size _).trans ((Below.refl _ _).grown hg5 (by have:=HB2.out.size;simp;omega) (own_ge Hown.out))
    case measure =>
     have h3:=(HR4.out.mod ((Mod.refl [] _).alloc _) (by simp) (by simp)).mod (grown_mod hg5) HNe.out.2 HNe.out.1
     rw [h3.left_eq,Hmeas.out];simp
end
end Go.Proofs.YtfdillpofciicaaGreatDoor
