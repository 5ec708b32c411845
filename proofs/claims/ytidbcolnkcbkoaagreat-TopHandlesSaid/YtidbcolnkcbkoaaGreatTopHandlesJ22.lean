import Derived.Test.YtidbcolnkcbkoaaGreatTopHandlesJ21
/- A part of the proof that TopHandles returns true. -/
namespace Go.Proofs.YtidbcolnkcbkoaaGreat
open Go Go.RowKit Go.Maps Go.Shelf
attribute [local go_sem] AllFrom.cons_eq AllFrom.nil_eq putF_nil putF_cons wantedL_none wantedL_some OpGoalT OpGoalV OpGoalQ OpGoalA OpGoalK YieldsR preF_nil preF_cons
attribute [local go_sem] Oper.semAt_some
theorem Mod.thenBelow {F : List Nat} {a b c : World} (h : Mod F a b) (k : Below a.heap.size b c) : Mod F a c :=
 ⟨k.os.trans h.os,k.tape.trans h.tape,k.output.trans h.output,Nat.le_trans h.size k.size,fun i hi hF => (k.block i hi).trans (h.block i hi hF)⟩
open Classical in
noncomputable def adoE (B : List Bd) (c p : Hd) : Int:=if Up B p c then 8 else 0
open Classical in
noncomputable def adoB (B : List Bd) (c p : Hd) : List Bd:=if Up B p c then B else insB B (c,p)
section
variable {w : World} {f : Nat} {B : List Bd} {F : List Nat}
set_option maxRecDepth 20000 in
set_option maxHeartbeats 4000000 in
theorem adopt_same (h : RepF w f B F) (s g : Int) : Calls Tryz.prog 29 #[.pointer (some ⟨f,0,none⟩),.agg #[.int .i64 s,.int .i64 g],.agg #[.int .i64 s,.int .i64 g]] w (FRet B (.int .i64 8) f F w):=by
 have hcmp : ∀ w,(binOp .eql 43 (.agg #[.int .i64 s,.int .i64 g]) (.agg #[.int .i64 s,.int .i64 g])).run Tryz.prog w = .ok (.bool true) w:=fun w => by rw [eqlHandle,eqB_self]
 have HF:=Lib.hid h
 go_enter Tryz.func29,Tryz.ntmps29
 go_wp2
 refine bodyPost_ret (v:=.int .i64 8) (by unfold results;try go_simp) rfl ?_
 have hb : Below w.heap.size w (((w.alloc (.cells #[.int .i64 s,.int .i64 g] 43)).alloc (.cells #[.int .i64 s,.int .i64 g] 43)).alloc (.cells #[.int .i64 8] 32)):=(((Below.refl _ _).alloc (Nat.le_refl _) _).alloc (by simp) _).alloc (by simp;omega) _
 exact ⟨rfl,h.below hb,(Mod.ofBelow hb).mono (by simp)⟩
set_option maxRecDepth 20000 in
set_option maxHeartbeats 8000000 in
theorem adopt_diff (h : RepF w f B F) (s g t u : Int) (hne : (s,g) ≠ (t,u)) (hc : HdR (s,g)) (hp : HdR (t,u)) : Calls Tryz.prog 29 #[.pointer (some ⟨f,0,none⟩),.agg #[.int .i64 s,.int .i64 g],.agg #[.int .i64 t,.int .i64 u]] w (FRet (adoB B (s,g) (t,u)) (.int .i64 (adoE B (s,g) (t,u))) f F w):=by
 obtain ⟨ch,hch⟩:=h.ok.ac.chain (t,u)
 obtain ⟨w0,hw0,hb0,hz0,hs0⟩:=box1 w (.cells #[.int .i64 s,.int .i64 g] 43)
 obtain ⟨w1,hw1,hb1,hz1,hs1⟩:=box1 w0 (.cells #[.int .i64 t,.int .i64 u] 43)
 obtain ⟨w2,hw2,hb2,hz2,hs2⟩:=box1 w1 (.cells #[.int .i64 0] 32)
 obtain ⟨w3,hw3,hb3,hz3,hs3⟩:=box1 w2 (.cells #[.pointer (some ⟨f,0,none⟩)] 51)
 obtain ⟨w4,hw4,hb4,hz4,hs4⟩:=box1 w3 (.cells #[.int .i64 t,.int .i64 u] 43)
 have hB12 : Below w0.heap.size w0 w2:=hb1.trans (hb2.mono hb1.size)
 have hB02 : Below w.heap.size w w2:=hb0.trans (hB12.mono hb0.size)
 have hB24 : Below w2.heap.size w2 w4:=hb3.trans (hb4.mono hb3.size)
 have hB04 : Below w.heap.size w w4:=hB02.trans (hB24.mono hB02.size)
 have hz02:=(Mod.ofBelow hB12).keep hz0 (by simp)
 have hz12:=(Mod.ofBelow hb2).keep hz1 (by simp)
 have hz04:=(Mod.ofBelow hB24).keep hz02 (by simp)
 have hz14:=(Mod.ofBelow hB24).keep hz12 (by simp)
 have hz24:=(Mod.ofBelow hB24).keep hz2 (by simp)
 have hz34:=(Mod.ofBelow hb4).keep hz3 (by simp)
 have hcmp : ∀ w,(binOp .eql 43 (.agg #[.int .i64 s,.int .i64 g]) (.agg #[.int .i64 t,.int .i64 u])).run Tryz.prog w = .ok (.bool false) w:=fun w => by rw [eqlHandle,eqB_ne hne]
 have h4:=h.below hB04
 have h1:=above_any f t u w2
 rw [hw3,hw4] at h1
 have hseq:=fun n => above_seq n h4 t u hp hch w2.heap.size (w2.heap.size + 1) hz34 (by rw [← hs3];exact hz4)
 obtain ⟨q0,q1,ql⟩:=cells2 hz02
 obtain ⟨v0,v1,vl⟩:=cells2 hz12
 have hlt4 : w2.heap.size < w4.heap.size:=blk_lt hz34
 obtain ⟨H,H1,Hseq,Hz04,Hz14,Hz24,H4,HB04,Hs0,Hs1,Hs2,Hs3,Hs4,Hch,Hlt4⟩:=hid15 h h1 hseq hz04 hz14 hz24 h4 hB04 hs0 hs1 hs2 hs3 hs4 hch hlt4
 clear h h1 hseq hz04 hz14 hz24 h4 hB04 hs0 hs1 hs2 hs3 hs4 hch hlt4
 clear hb0 hz0 hb1 hz1 hb2 hz2 hb3 hz3 hb4 hz4 hB12 hB02 hB24 hz02 hz12 hz34 hw3 hw4
 refine callsIn_wide.1 (callsIn_of_wp_marks (n:=5) Tryz.func29 rfl trivial (wpIn_wide.2 ?_) rfl)
 simp only [Tryz.ntmps29,List.size_toArray,List.length_cons,List.length_nil,Nat.reduceAdd,Nat.reduceSub,Array.replicate_succ,Array.replicate_zero,List.push_toArray,List.append_toArray,List.nil_append,List.cons_append]
 go_wp2_with fail
 clear hw0 hw1 hw2
 refine H1.out.mono ?_
 rintro e w' ⟨rfl,rfl⟩
 go_wp2_with fail
 have hnu : (t,u) ≠ (s,g):=Ne.symm hne
 refine wp_rangeW 5 (by omega) (gf:=87) (lb:=#[.pointer (some ⟨w2.heap.size,0,none⟩),.pointer (some ⟨w2.heap.size + 1,0,none⟩)]) rfl (enters_of Tryz.func87 (by kernel_rfl) rfl) (Hseq.out 4) (Below.refl _ _) (fun _ => rfl)
  (fun pre W => Below w'.heap.size w' W ∧ (s,g) ∉ pre)
  (fun cd pre W => cd = .ret ∧ (s,g) ∈ pre ∧ Mod [w1.heap.size] w' W ∧ W.heap[w1.heap.size]? = some (.cells #[.int .i64 8] 32 (0,0)))
  (fun _ _ _ h k => ⟨h.1.trans k,h.2⟩) (fun _ _ _ _ h k => ⟨h.1,h.2.1,?_,?_⟩) ⟨Below.refl _ _,by simp⟩
  (fun (x : Hd) a' W => ∃ Bx,W.heap[Bx]? = some (.cells (handleC x).toArray 43 (0,0)) ∧ a' = { tmps:=#[.pointer (some ⟨f,0,none⟩),.agg #[.int .i64 s,.int .i64 g],.agg #[.int .i64 t,.int .i64 u],undef,.pointer (some ⟨w.heap.size,0,none⟩),.pointer (some ⟨w0.heap.size,0,none⟩),.pointer (some ⟨w1.heap.size,0,none⟩),.pointer (some ⟨Bx,0,none⟩),.agg #[.int .i64 s,.int .i64 g],.agg #[.int .i64 t,.int .i64 u],.bool false,.pointer (some ⟨f,0,none⟩),.agg #[.int .i64 t,.int .i64 u],.func (.func 87) #[] #[.pointer (some ⟨w2.heap.size,0,none⟩),.pointer (some ⟨w2.heap.size + 1,0,none⟩)],hdV x,undef,undef,undef,undef,undef,undef,undef,undef,undef],defers:=[] })
  (fun x a' X Y h _ k => ?_) ?assign ?body ?done ?stop
 case assign =>
  rintro l pre ⟨x0,x1⟩ W K hl hI hK
  simp only [hdV,handleC]
  gi_wp2
  exact hK _ _ ((Mod.refl _ _).alloc _) ⟨W.heap.size,heap_alloc_new W _,rfl⟩
 case body =>
  rintro l pre ⟨x0,x1⟩ a' W hl ⟨hB,hn⟩ ⟨Bx,hx,rfl⟩ hlen
  simp only [hdV,handleC] at hx ⊢
  have hzW:=(Mod.ofBelow hB).keep Hz04.out (by simp)
  have hyW:=(Mod.ofBelow hB).keep Hz24.out (by simp)
  have heq:=fun w => eqlHandle w x0 x1 s g
  have hb6 : w1.heap.size < w'.heap.size:=blk_lt Hz24.out
  clear q0 q1 ql v0 v1 vl hcmp
  obtain ⟨q0,q1,ql⟩:=cells2 hx
  obtain ⟨v0,v1,vl⟩:=cells2 hzW
  obtain ⟨y0,yl⟩:=cells1 hyW
  have f0:=blk_free hyW 0
  cases hr : eqB (x0,x1) (s,g) with
  | true =>
   have hxs : (x0,x1) = (s,g):=by simpa [eqB] using hr
   rw [hr] at heq
   obtain ⟨HB,HyW,Hb6,Hl⟩:=hid4 hB hyW hb6 hl
   clear hB hyW hb6 hl
   clear hx hzW hn hr hlen
   gi_wp2
   refine ⟨?_,rfl,?_,(Mod.ofBelow HB.out).mono (by simp) |>.setCell (by simp) _,blk_set HyW.out 0 _⟩
   ·intro k o hk ho
    rw [blk_set_ne (by have:=Hb6.out;simp;omega)];exact ho
   ·rw [hxs];simp
  | false =>
   have hxs : (s,g) ≠ (x0,x1):=fun e => by rw [e,eqB_self] at hr;cases hr
   rw [hr] at heq
   have HB:=Lib.hid hB
   clear hB
   clear hx hzW hr hlen hyW
   gi_wp2
   exact ⟨Mod.refl _ _,HB.out,by simp [hn,hxs]⟩
 case done =>
  rintro D xs W hD rfl ⟨hB,hn⟩ hK
  have hnup : ¬ Up B (t,u) (s,g):=fun hu => by
   rcases (Hch.out.mem H.out.ok.so _).2 hu with e | e
   ·exact hnu e
   ·exact hn e
  have hzs:=(Mod.ofBelow hB).keep Hz04.out (by simp)
  have hzt:=(Mod.ofBelow hB).keep Hz14.out (by simp)
  have hy:=(Mod.ofBelow hB).keep Hz24.out (by simp)
  have h5:=H4.out.below hB
  obtain ⟨m,w5,hF,hcm,hfl,hrun,h6,hm6⟩:=(h5.below below_drew).upd hc hp (insB_ok H.out.ok hnup)
  simp only [hdV,handleC] at hrun
  have hcm' : W.cell? ⟨f,0,none⟩ = some (.map (some m)):=hcm
  have hfl' : f < W.heap.size:=hfl
  have hmF : m ∈ F:=by rw [hF];simp
  have hml:=H.out.lt m hmF
  have hy5:=hm6.keep (blk_drew hy) (by have:=Hs0.out;have:=Hs1.out;simp;omega)
  have hK5:=hm6.keep (blk_drew hK) (by have:=HB04.out.size;simp;omega)
  have hM5 : Mod F w w5:=(((Mod.ofBelow (HB04.out.trans (hB.mono HB04.out.size))).mono (by simp) : Mod F w W).andBelow below_drew).step (hm6.mono (by simp [hmF]))
  have hDb : D ≠ w1.heap.size:=by have:=blk_lt Hz24.out;omega
  have hw1F : ∀ y ∈ F,y ≠ w1.heap.size ∧ y ≠ D:=fun y hy => by
   have:=H.out.lt y hy;have:=Hs0.out;have:=Hs1.out;have:=HB04.out.size
   exact ⟨by omega,by omega⟩
  have hfin : FRet (adoB B (s,g) (t,u)) (.int .i64 (adoE B (s,g) (t,u))) f F w (.returned (.int .i64 0)) ((w5.setCell ⟨w1.heap.size,0,none⟩ (.int .i64 0)).putObj D (.deferred none)):=by
   have e1 : adoB B (s,g) (t,u) = insB B ((s,g),(t,u)):=by unfold adoB;rw [if_neg hnup]
   have e2 : adoE B (s,g) (t,u) = 0:=by unfold adoE;rw [if_neg hnup]
   rw [e1,e2]
   refine ⟨rfl,h6.mod (G:=[w1.heap.size,D]) (((Mod.refl _ _).setCell (by simp) _).putObj (by simp) _) (fun y hy => by simpa using hw1F y hy),?_⟩
   exact (hM5.setCell (.inr (by have:=Hs0.out;have:=Hs1.out;simp;omega)) _).putObj (.inr (by have:=HB04.out.size;omega)) _
  obtain ⟨y0,yl⟩:=cells1 hy5
  have f0:=blk_free hy5 0
  have hyf : ((w5.setCell ⟨w1.heap.size,0,none⟩ (.int .i64 0)).putObj D (.deferred none)).heap[w1.heap.size]? = some (.cells #[.int .i64 0] 32 (0,0)):=(World.putObj_heap_other (by omega)).trans (blk_set hy5 0 _)
  have hKf : (w5.setCell ⟨w1.heap.size,0,none⟩ (.int .i64 0)).heap[D]? = some (.deferred (some [])):=(blk_set_ne (by simpa using hDb) _).trans hK5
  clear q0 q1 ql v0 v1 vl hcmp
  obtain ⟨q0,q1,ql⟩:=cells2 hzs
  obtain ⟨v0,v1,vl⟩:=cells2 hzt
  obtain ⟨Hfin,Hyf,HKf⟩:=hid3 hfin hyf hKf
  clear hfin hyf hKf
  clear hzs hzt hy h5 hcm hfl h6 hm6 hml hy5 hK5 hM5 hDb hw1F hB hn hK hF hmF
  go_wp2_with fail
  refine wp_planR 6 [0] [some 18,some 19,some 20,some 21,some 22,some 23,none] [[],[0],[0,1],[0,1,2],[],[],[0,1,2,3,4,5]] [0,1,2,3,4,5] mixed rfl (by kernel_rfl) (by decide) (by decide) rfl ?_
  iterate 6 apply Exists.intro
  refine ⟨rfl,?_,?_⟩
  ·simp only [tS,List.take_zero,AllFrom.cons_eq,AllFrom.nil_eq,OpGoalQ]
   refine ⟨?_,?_,?_,?_,?_,?_,trivial⟩
   all_goals (intro σ hp;(try simp only [gZ,gS,mC,mN,preF_cons,preF_nil,isV,and_true] at hp);(first | (have hq : True:=hp;clear hq hp) | skip))
   all_goals (go_simp;exact ⟨rfl,rfl⟩)
  intro σ hp
  simp only [gZ,gS,mC,mN,preF_cons,preF_nil,isV,and_true] at hp
  simp only [dS,List.drop_zero]
  go_simp
  clear hp
  go_wp2
  refine ⟨rfl,?_⟩
  go_wp2
  refine ⟨by simp,.inl ⟨_,_,rfl,run_takeDeferred HKf.out,?_⟩⟩
  have e0:=blk_cell Hyf.out 0
  simp only [eA,eZ] at e0
  have el:=blk_lt Hyf.out
  refine ⟨.int .i64 0,?_,Hfin.out⟩
  unfold results;go_simp
 case stop =>
  rintro D cd pre W hD hpre ⟨rfl,hmem,hmod,hb8⟩ hK
  have hup : Up B (t,u) (s,g):=(Hch.out.mem H.out.ok.so _).1 (.inr (hpre.subset hmem))
  have hD' : D ≠ w1.heap.size:=by have:=blk_lt Hz24.out;omega
  have hb9 : (W.putObj D (.deferred none)).heap[w1.heap.size]? = some (.cells #[.int .i64 8] 32 (0,0)):=(World.putObj_heap_other (by omega)).trans hb8
  have hfin : FRet (adoB B (s,g) (t,u)) (.int .i64 (adoE B (s,g) (t,u))) f F w (.returned (.int .i64 8)) (W.putObj D (.deferred none)):=by
   have e1 : adoB B (s,g) (t,u) = B:=by unfold adoB;rw [if_pos hup]
   have e2 : adoE B (s,g) (t,u) = 8:=by unfold adoE;rw [if_pos hup]
   rw [e1,e2]
   have hM0 : Mod [] w (W.putObj D (.deferred none)):=(((Mod.ofBelow HB04.out).trans hmod (fun x hx => by
    simp only [List.mem_cons,List.not_mem_nil,or_false] at hx
    have:=Hs0.out;have:=Hs1.out
    exact .inr (by omega))).putObj (.inr (by have:=HB04.out.size;omega)) _)
   exact ⟨rfl,H.out.mod hM0 (by simp),hM0.mono (by simp)⟩
  obtain ⟨Hfin,HK,Hb9⟩:=hid3 hfin hK hb9
  clear hfin hK hb9
  clear hmod hb8 hmem hpre hup q0 q1 ql v0 v1 vl hcmp
  go_wp2
  refine ⟨by simp,.inl ⟨_,_,rfl,run_takeDeferred HK.out,?_⟩⟩
  have e0:=blk_cell Hb9.out 0
  simp only [eA,eZ] at e0
  have el:=blk_lt Hb9.out
  refine ⟨.int .i64 8,?_,Hfin.out⟩
  unfold results;go_simp
 ·exact h.2.2.1.thenBelow k
 ·exact (k.block _ (blk_lt Hz24.out)).trans h.2.2.2
 ·obtain ⟨Bx,h1,h2⟩:=h
  exact ⟨Bx,k _ _ h1 rfl,h2⟩
theorem adopt_any (h : RepF w f B F) (s g t u : Int) (hc : HdR (s,g)) (hp : HdR (t,u)) : Calls Tryz.prog 29 #[.pointer (some ⟨f,0,none⟩),.agg #[.int .i64 s,.int .i64 g],.agg #[.int .i64 t,.int .i64 u]] w (FRet (adoB B (s,g) (t,u)) (.int .i64 (adoE B (s,g) (t,u))) f F w):=by
 by_cases e : (s,g) = (t,u)
 ·obtain ⟨rfl,rfl⟩:=Prod.mk.inj e
  rw [show adoB B (s,g) (s,g) = B by unfold adoB;rw [if_pos (Up.refl _)],show adoE B (s,g) (s,g) = 8 by unfold adoE;rw [if_pos (Up.refl _)]]
  exact adopt_same h s g
 ·exact adopt_diff h s g t u e hc hp
end
end Go.Proofs.YtidbcolnkcbkoaaGreat
namespace Go.Proofs.YtidbcolnkcbkoaaGreat
open Go Go.RowKit
attribute [local go_sem] AllFrom.cons_eq AllFrom.nil_eq putF_nil putF_cons wantedL_none wantedL_some OpGoalT OpGoalV OpGoalQ OpGoalA OpGoalK YieldsR preF_nil preF_cons
section
variable {vg vl vr : Value}
end
section
variable {vg vl vr : Value} {w : World} {q : Nat} {B : List Bd} {F : List Nat}
end
theorem app_handleG {w : World} {ops : Array Oper} {rest : List Oper} {o : Oper} {a : Act} {Q : Exit → Act → World → Prop} (hgd : o.guard = none) (s x : Operand)
  (ho : o.op = .call { callee:=.builtin .append,args:=#[s,x],argTypes:=#[75,75] }) (base : Nat) (v : Value) (l : List Hd) (y : Hd) (ad : Addr) (c : Nat)
  (hs : a.eval s = v) (hown : w.ownsRow base 43 2 v l.length (l.flatMap handleC)) (hx : a.eval x = .slice (some ad) 1 c) (hc : ∀ j u,(handleC y)[j]? = some u → w.cell? (ad.add j) = some u)
  (hlen : l.length < 8796093022207) (hbase : base ≤ w.heap.size)
  (h : ∀ v' w',w'.ownsRow base 43 2 v' (l ++ [y]).length ((l ++ [y]).flatMap handleC) → w.grownBy w' v.ownBlock → wpList Tryz.prog ops Q rest (a.put o.dst v') w') : wpList Tryz.prog ops Q (o :: rest) a w:=by
 refine app_rec (enc:=handleC) (n:=2) (z:=.agg #[.int .i64 0,.int .i64 0]) (bytes:=16) hgd s x 75 43 ho Tryz.underlying75 info_handle rfl (by omega) (by omega) handleC_one handleC_len base v l y ad c hs hown hx hc (by omega) hbase ?_
 intro v' w' h1 h2 _
 exact h v' w' h1 h2
theorem wpList_app {P : Program} {w w' : World} {ops : Array Oper} {rest : List Oper} {o : Oper} {a : Act} {Q : Exit → Act → World → Prop} (hgd : o.guard = none) (s x : Operand) (T : TypeId)
  (ho : o.op = .call { callee:=.builtin .append,args:=#[s,x],argTypes:=#[T,T] }) {v1 v2 v' : Value} (hs : a.eval s = v1) (hx : a.eval x = v2)
  (hr : (Builtin.append_ #[T,T] o.type #[v1,v2]).run P w = .ok v' w') (h : wpList P ops Q rest (a.put o.dst v') w') : wpList P ops Q (o :: rest) a w:=by
 refine wpList_plain hgd fun K hK => ?_
 unfold Oper.wp execOp
 simp only [ho,resolve,invoke,builtin,Sem.run_bind,Sem.run_pure,Result.andThen_ok,List.map_toArray,mC,mN,hs,hx,hr]
 exact hK _ _ h
theorem run_appH {w : World} (base B2 : Nat) (v v2 : Value) (l l2 : List Hd) (ty : TypeId) (hown : w.ownsRow base 43 2 v l.length (l.flatMap handleC)) (hrow : w.ownsRow B2 43 2 v2 l2.length (l2.flatMap handleC))
  (hlen : l.length + l2.length < 8796093022207) (hbase : base ≤ w.heap.size) :
  ∃ v' w',(Builtin.append_ #[75,75] ty #[v,v2]).run Tryz.prog w = .ok v' w' ∧ w'.ownsRow base 43 2 v' (l ++ l2).length ((l ++ l2).flatMap handleC) ∧ w.grownBy w' v.ownBlock:=by
 obtain ⟨i0,hi,hz0,hz1,hz2⟩:=info_parts info_handle
 rcases hrow with ⟨hx,⟨rfl,h2⟩ | ⟨g,cap2,cur,rfl,h3⟩⟩
 ·have hl2 : l2 = []:=List.eq_nil_of_length_eq_zero h2
  subst hl2
  exact ⟨v,w,run_append_owned_none (P:=Tryz.prog) w base 75 ty 43 i0 2 Tryz.underlying75 hi v l.length _ hown,by simpa using hown,⟨rfl,rfl,rfl,Nat.le_refl _,fun _ _ _ => rfl⟩⟩
 ·have hrow2 : w.ownsRow B2 43 2 (.slice (some ⟨g,0,none⟩) l2.length cap2) l2.length (l2.flatMap handleC):=⟨hx,.inr ⟨g,cap2,cur,rfl,h3⟩⟩
  obtain ⟨v',w',hr,h4,h5,-,-⟩:=run_append_own_at (P:=Tryz.prog) w base 75 ty 43 i0 _ 2 16 Tryz.underlying75 hi hz0 hz1 hz2 rfl (by omega) v l.length _ hown ⟨g,0,none⟩ l2.length cap2 (l2.flatMap handleC) (flatV_length handleC_len l2) (fun j u hu => by
   have h5:=row_cell hrow2 hu
   rw [Addr.add_mid,Nat.zero_add];exact h5) (flat_one handleC_one _) (by unfold maxLen;omega) (by omega) hbase
  refine ⟨v',w',hr,?_,h5⟩
  rw [List.length_append,List.flatMap_append]
  exact h4
theorem app_list {w : World} {ops : Array Oper} {rest : List Oper} {o : Oper} {a : Act} {Q : Exit → Act → World → Prop} (hgd : o.guard = none) (s x : Operand)
  (ho : o.op = .call { callee:=.builtin .append,args:=#[s,x],argTypes:=#[75,75] }) (base B2 : Nat) (v v2 : Value) (l l2 : List Hd)
  (hs : a.eval s = v) (hown : w.ownsRow base 43 2 v l.length (l.flatMap handleC)) (hx : a.eval x = v2) (hrow : w.ownsRow B2 43 2 v2 l2.length (l2.flatMap handleC))
  (hlen : l.length + l2.length < 8796093022207) (hbase : base ≤ w.heap.size)
  (h : ∀ v' w',w'.ownsRow base 43 2 v' (l ++ l2).length ((l ++ l2).flatMap handleC) → w.grownBy w' v.ownBlock → wpList Tryz.prog ops Q rest (a.put o.dst v') w') : wpList Tryz.prog ops Q (o :: rest) a w:=by
 obtain ⟨v',w',hr,h1,h2⟩:=run_appH base B2 v v2 l l2 o.type hown hrow hlen hbase
 exact wpList_app hgd s x _ ho hs hx hr (h v' w' h1 h2)
theorem underN_len {B : List Bd} (h : FamOk B) {n : Nat} {x : Hd} (hl : Low B n x) : (underN B n x).length ≤ B.length:=by
 have h1:=nodup_le (under_nodup h hl) (ys:=B.map (·.1)) (fun y hy => by
  obtain ⟨p,h1,-⟩:=(mem_under hl).1 hy
  exact List.mem_map.2 ⟨_,h1,rfl⟩)
 rw [List.length_map] at h1
 exact h1
def undP (B : List Bd) (n : Nat) (ks : List Hd) (k : Nat) : List Hd:=(ks.take k).flatMap (fun c => c :: underN B n c)
theorem undP_succ (B : List Bd) (n : Nat) (ks : List Hd) (k : Nat) (hk : k < ks.length) : undP B n ks (k + 1) = (undP B n ks k ++ [ks[k]]) ++ underN B n ks[k]:=by
 unfold undP;rw [take_succ_get ks k hk,List.flatMap_append];simp
theorem undP_all (B : List Bd) (n : Nat) (h : Hd) : undP B n (kidsB B h) (kidsB B h).length = underN B (n + 1) h:=by
 unfold undP;rw [List.take_length];rfl
theorem undP_len (B : List Bd) (n : Nat) (ks : List Hd) (k : Nat) : (undP B n ks k).length ≤ (undP B n ks ks.length).length:=by
 unfold undP
 rw [List.take_length]
 conv => rhs;rw [← List.take_append_drop k ks]
 rw [List.flatMap_append,List.length_append];omega
section
variable {vg vl vr : Value} {w : World} {q : Nat} {B : List Bd} {F : List Nat}
end
section
variable {w5 V V' : World} {l1 l2 : List Bd} {x : Bd} {L : Nat → Bool} {σ : Nat → Value}
end
section
variable {vg vl vr : Value} {w : World} {q : Nat} {B : List Bd} {F : List Nat}
end
section
variable {vg vl vr : Value} {w : World} {q : Nat} {B : List Bd} {F : List Nat}
end
end Go.Proofs.YtidbcolnkcbkoaaGreat
namespace Go.Proofs.YtidbcolnkcbkoaaGreat
open Go Go.RowKit
attribute [local go_sem] AllFrom.cons_eq AllFrom.nil_eq putF_nil putF_cons wantedL_none wantedL_some OpGoalQ YieldsR preF_nil preF_cons
end Go.Proofs.YtidbcolnkcbkoaaGreat
namespace Go.Proofs.YtidbcolnkcbkoaaGreat
open Go Go.RowKit
attribute [local go_sem] AllFrom.cons_eq AllFrom.nil_eq putF_nil putF_cons wantedL_none wantedL_some OpGoalT OpGoalV OpGoalQ OpGoalA OpGoalK YieldsR preF_nil preF_cons
section
variable {vg vl vr : Value} {Lo : Nat} {Z : List Nat} {f q : Nat} {B B' : List Bd} {w : World}
end
end Go.Proofs.YtidbcolnkcbkoaaGreat
namespace Go.Proofs.YtidbcolnkcbkoaaGreat
open Go Go.RowKit Go.Maps Go.Sort
attribute [local go_sem] AllFrom.cons_eq AllFrom.nil_eq putF_nil putF_cons wantedL_none wantedL_some OpGoalT OpGoalV OpGoalQ OpGoalA OpGoalK YieldsR preF_nil preF_cons
theorem kids_sorted {B : List Bd} (h : SortB B) (x : Hd) : (kidsB B x).Pairwise (fun a b => ltH a b = true):=by
 unfold kidsB
 rw [List.pairwise_map]
 exact h.sublist List.filter_sublist
theorem kids_eq {B C : List Bd} {x : Hd} {l : List Hd} (h : SortB B) (hC : C.Perm B) (hp : l.Perm (kidsB C x)) (hs : l.Pairwise (fun a b => ltH b a = false)) : l = kidsB B x:=by
 have hk:=kids_sorted h x
 have hp2 : l.Perm (kidsB B x):=hp.trans ((hC.filter _).map _)
 have hne : l.Pairwise (fun a b => a ≠ b):=(List.Perm.pairwise_iff (fun h => Ne.symm h) hp2).2 (hk.imp fun h => ltH_ne h)
 have hl : l.Pairwise (fun a b => ltH a b = true):=(hs.and hne).imp (by
  rintro a b ⟨h1,h2⟩
  cases e : ltH a b with
  | true => rfl
  | false => exact absurd (ltH_tri e h1) h2)
 refine List.Perm.eq_of_pairwise (le:=fun a b : Hd => ltH a b = true) (fun a b ha hb h1 h2 => ?_) hl hk hp2
 rw [ltH_asymm h1] at h2;cases h2
theorem kids_app (C D : List Bd) (x : Hd) : kidsB (C ++ D) x = kidsB C x ++ kidsB D x:=by unfold kidsB;rw [List.filter_append,List.map_append]
theorem kids_one (b : Bd) (x : Hd) : kidsB [b] x = if eqB b.2 x = true then [b.1] else []:=by
 unfold kidsB eqB
 by_cases e : b.2 = x <;> simp [e]
theorem kids_len (B : List Bd) (x : Hd) : (kidsB B x).length ≤ B.length:=by
 unfold kidsB
 rw [List.length_map]
 exact List.length_filter_le _ _
section
variable {w : World} {f : Nat} {B : List Bd} {F : List Nat}
set_option maxRecDepth 20000 in
set_option maxHeartbeats 4000000 in
theorem fkids_any (h : RepF w f B F) (hB : B.length ≤ 1200000000000) (s g : Int) : Calls Tryz.prog 81 #[.pointer (some ⟨f,0,none⟩),.agg #[.int .i64 s,.int .i64 g]] w (MadeRecs 43 2 handleC (kidsB B (s,g)) w):=by
 obtain ⟨w0,hw0,hb0,hz0,hs0⟩:=box1 w (.cells #[.int .i64 s,.int .i64 g] 43)
 obtain ⟨ho,hr,m,l,h1,h2,h3,hF,h5⟩:=h.below hb0
 obtain ⟨o,hrun,hR⟩:=h2.range Tryz.underlying116
 obtain ⟨w1,hw1,hb1,-,hs1⟩:=box1 w0 o
 rw [hw1] at hR
 have e0:=blk_cell h1 0
 simp only [eA,eZ] at e0
 have hfl:=blk_lt h1
 have hll : l.length ≤ 1200000000000:=by rw [h3.length_eq];exact hB
 obtain ⟨HR,Hb0,Hb1,Hz0,Hs0,Hs1,Ho,H3,Hll⟩:=hid9 hR hb0 hb1 hz0 hs0 hs1 ho h3 hll
 clear hR hb0 hb1 hz0 hs0 hs1 ho h3 hll
 clear h h1 h2 hr hF h5 hB
 go_enter Tryz.func81,Tryz.ntmps81
 go_wp2_with fail
 clear hrun hw1 hw0 e0 hfl
 go_loopw [5,14] (fun v _ wr => ∃ (D ts : List Bd),RangeAt Tryz.prog 43 wr m w0.heap.size (l.map bdPr) (ts.map bdPr) ∧ (D ++ ts).Perm l ∧ wr.ownsRow w0.heap.size 43 2 v (kidsB D (s,g)).length ((kidsB D (s,g)).flatMap handleC) ∧ Below w0.heap.size w0 wr) (fun _ _ wr => wr.rangeLeft m w0.heap.size)
 case atStart => exact ⟨[],l,HR.out,.refl _,⟨rfl,.inl ⟨rfl,rfl⟩⟩,Hb1.out⟩
 case round =>
  obtain ⟨D,ts,hR,hp,hown,hB⟩:=hrel
  obtain ⟨A,cap,rfl,-,-⟩:=row_slice hown
  have hlen : D.length + ts.length = l.length:=by rw [← List.length_append];exact hp.length_eq
  have hkl:=kids_len D (s,g)
  have hzr:=(Mod.ofBelow hB).keep Hz0.out (by simp)
  by_cases hts : ts = []
  ·subst hts
   have hov:=fun ty => RangeAt.over (P:=Tryz.prog) (by simpa using hR) ty
   simp only [List.append_nil] at hp
   have H1:=Lib.hid (sortHandles_any hown (by have:=Hll.out;simp at hlen;omega))
   obtain ⟨Hp,HB,Hown⟩:=hid3 hp hB hown
   clear hp hB hown
   clear hR hlen hzr
   go_wp2_with fail
   refine H1.out.mono ?_
   rintro e w2 ⟨rfl,l',hp',hs',hown',hmod⟩
   have hl' : l' = kidsB B (s,g):=kids_eq Ho.out.so (Hp.out.trans H3.out) hp' (hs'.imp fun {x y} h => by
    have h : ltOf cmpH y x = false:=h
    rw [ltHd_eq] at h;exact h)
   have hB2 : Below w0.heap.size w0 w2:=HB.out.trans (hmod.toBelow (fun x hx => own_ge Hown.out x (by simpa using hx)) HB.out.size)
   rw [hl'] at hown'
   have hown2:=row_base hown' (B':=w.heap.size) (fun k hk => by have:=own_ge hown' k hk;have:=Hs0.out;omega)
   have hBw:=Hb0.out.trans (hB2.mono Hb0.out.size)
   obtain ⟨HBw,HO2⟩:=hid2 hBw hown2
   clear hBw hown2
   clear hp' hs' hmod hl' hown' hB2
   go_wp2
   refine bodyPost_ret (v:=.slice A (kidsB D (s,g)).length cap) (by unfold results;try go_simp) rfl ?_
   exact ⟨_,rfl,HO2.out,HBw.out⟩
  ·obtain ⟨t1,x,t2,w2,rfl,hn,hen,hx,hR2,hm2,hs2⟩:=hR.nextE hts
   have hmeas:=hR.left_eq
   obtain ⟨⟨c0,c1⟩,p0,p1⟩:=x
   have hne:=own_ne_range hown hR
   have hrl:=hR.lt
   have hown2:=row_mod hown hm2 (fun k hk e => by
    have hk' : k = w0.heap.size:=by simpa using e
    subst hk';exact hne.1 (by rw [hk];simp))
   have hB2 : Below w0.heap.size w0 w2:=hB.trans (hm2.toBelow (by simp) hB.size)
   simp only [bdPr,hdV,handleC] at hn hen
   have hDl : (kidsB D (s,g)).length < 1200000000000:=by have:=Hll.out;simp at hlen;omega
   have hzr2:=hm2.keep hzr (by have:=Hs0.out;simp;omega)
   have hb24 : Below w2.heap.size w2 ((w2.alloc (.cells #[.int .i64 c0,.int .i64 c1] 43)).alloc (.cells #[.int .i64 p0,.int .i64 p1] 43)):=((Below.refl _ _).alloc (Nat.le_refl _) _).alloc (by simp) _
   have hB4:=hB2.trans (hb24.mono hB2.size)
   have hown4:=row_mod hown2 (Mod.ofBelow hb24) (by simp)
   have hR4:=hR2.mod (Mod.ofBelow hb24) (by simp) (by simp)
   have heq:=fun w => eqlHandle w p0 p1 s g
   have hka:=kids_app D [((c0,c1),(p0,p1))] (s,g)
   rw [kids_one] at hka
   simp only at hka
   obtain ⟨q0,q1,ql⟩:=cells2 hzr2
   have HR:=Lib.hid hR;have Hp:=Lib.hid hp;have Hown:=Lib.hid hown;have HB:=Lib.hid hB;have HR2:=Lib.hid hR2;have Hm2:=Lib.hid hm2;have Hs2:=Lib.hid hs2;have Hmeas:=Lib.hid hmeas;have HNe:=Lib.hid hne;have Hown2:=Lib.hid hown2;have HB2:=Lib.hid hB2;have Hx:=Lib.hid hx;have HDl:=Lib.hid hDl;have HR4:=Lib.hid hR4;have Hown4:=Lib.hid hown4;have HB4:=Lib.hid hB4;have Hka:=Lib.hid hka;have HKl:=Lib.hid hkl
   clear hR hp hown hB hR2 hm2 hs2 hmeas hne hown2 hB2 hx hDl hR4 hown4 hB4 hka hkl
   clear hlen hzr hb24 hzr2
   cases hr : eqB (p0,p1) (s,g) with
   | false =>
    rw [hr] at heq
    have Hr:=Lib.hid hr
    clear hr
    go_wp2_with fail
    go_roundw
    case rel =>
     refine ⟨D ++ [((c0,c1),(p0,p1))],t1 ++ t2,HR4.out,(mid_perm D t1 t2 _).symm.trans Hp.out,?_,HB4.out⟩
     rw [Hka.out,if_neg (by rw [Hr.out];simp),List.append_nil]
     exact Hown4.out
    case measure => rw [HR4.out.left_eq,Hmeas.out];simp
   | true =>
    rw [hr] at heq
    have Hr:=Lib.hid hr
    clear hr
    go_wp2_with (at_builtin;refine app_handleG rfl _ _ rfl w0.heap.size (.slice A (kidsB D (s,g)).length cap) (kidsB D (s,g)) (c0,c1) ⟨w2.heap.size + 2,0,none⟩ 1 rfl (Hown4.out.alloc _) rfl (new_rec (by simp) rfl) (by have:=HDl.out;omega) (by have:=HB2.out.size;simp;omega) ?_;intro v' w5 hown5 hg5)
    go_roundw
    case rel =>
     refine ⟨D ++ [((c0,c1),(p0,p1))],t1 ++ t2,?_,(mid_perm D t1 t2 _).symm.trans Hp.out,?_,?_⟩
     ·exact (HR4.out.mod ((Mod.refl [] _).alloc _) (by simp) (by simp)).mod (grown_mod hg5) HNe.out.2 HNe.out.1
     ·rw [Hka.out,if_pos Hr.out];exact hown5
     ·exact (HB4.out.alloc HB4.out.size _).trans ((Below.refl _ _).grown hg5 (by have:=HB2.out.size;simp;omega) (own_ge Hown.out))
    case measure =>
     have h3:=(HR4.out.mod ((Mod.refl [] _).alloc _) (by simp) (by simp)).mod (grown_mod hg5) HNe.out.2 HNe.out.1
     rw [h3.left_eq,Hmeas.out];simp
end
end Go.Proofs.YtidbcolnkcbkoaaGreat
namespace Go.Proofs.YtidbcolnkcbkoaaGreat
open Go Go.RowKit Go.Maps
attribute [local go_sem] AllFrom.cons_eq AllFrom.nil_eq putF_nil putF_cons wantedL_none wantedL_some OpGoalT OpGoalV OpGoalQ OpGoalA OpGoalK YieldsR preF_nil preF_cons
structure IPuH (w0 : World) (base : Nat) (v : Value) (M : List Hd) (x : Hd) (L : Nat → Bool) (σ : Nat → Value) (V : World) : Prop where
 b : L 3 = false → Below w0.heap.size w0 V
 o : L 2 = true → L 3 = false → oneR w0.heap.size (handleC x).toArray 43 (σ 2) V
 a : L 3 = true → (∃ V0,Below w0.heap.size w0 V0 ∧ V0.grownBy V v.ownBlock) ∧ V.ownsRow base 43 2 (σ 3) (M ++ [x]).length ((M ++ [x]).flatMap handleC)
section
variable {w0 V V' : World} {base : Nat} {v : Value} {M : List Hd} {x : Hd} {L : Nat → Bool} {σ : Nat → Value}
theorem IPuH.start (h : Below w0.heap.size w0 V) : IPuH w0 base v M x (fun _ => false) σ V:=⟨fun _ => h,fun e => (by cases e),fun e => (by cases e)⟩
theorem IPuH.read (h : IPuH w0 base v M x L σ V) {i : Nat} (h1 : 2 ≠ i ∧ 3 ≠ i) (u : Value) : IPuH w0 base v M x (upd L i) (updv σ i u) V:=by
 obtain ⟨n1,n2⟩:=h1
 have eL : ∀ j,j ≠ i → upd L i j = L j:=fun j hj => by unfold upd;simp [hj]
 have es : ∀ j,j ≠ i → updv σ i u j = σ j:=fun j hj => by unfold updv;rw [if_neg hj]
 refine ⟨?_,?_,?_⟩
 ·rw [eL 3 n2];exact h.b
 ·rw [eL 2 n1,eL 3 n2,es 2 n1];exact h.o
 ·rw [eL 3 n2,es 3 n2];exact h.a
theorem IPuH.oned (h : IPuH w0 base v M x L σ V) (h3 : L 3 = false) : IPuH w0 base v M x (upd L 2) (updv σ 2 (.slice (some ⟨V.heap.size,0,none⟩) 1 1)) (V.alloc (.cells (handleC x).toArray 43)):=by
 have eL : upd L 2 3 = L 3:=by unfold upd;simp
 have hs:=(h.b h3).size
 refine ⟨fun _ => (h.b h3).alloc hs _,fun _ _ => oneR_new hs,?_⟩
 rw [eL,h3];intro e;cases e
theorem IPuH.apped (h : IPuH w0 base v M x L σ V) (h3 : L 3 = false) {u : Value} (hg : V.grownBy V' v.ownBlock) (hv : V'.ownsRow base 43 2 u (M ++ [x]).length ((M ++ [x]).flatMap handleC)) : IPuH w0 base v M x (upd L 3) (updv σ 3 u) V':=by
 refine ⟨fun e => by simp [upd] at e,fun _ e => by simp [upd] at e,fun _ => ⟨⟨V,h.b h3,hg⟩,?_⟩⟩
 simpa [updv] using hv
theorem IPuH.mod (h : IPuH w0 base v M x L σ V) : Mod v.ownBlock.toList w0 V:=by
 cases e : L 3 with
 | false => exact (Mod.ofBelow (h.b e)).mono (by simp)
 | true =>
  obtain ⟨⟨V0,h1,h2⟩,-⟩:=h.a e
  exact ((Mod.ofBelow h1).mono (by simp) : Mod v.ownBlock.toList w0 V0).step (grown_mod h2)
end
section
variable {f : Nat} {B : List Bd} {F : List Nat}
set_option maxRecDepth 20000 in
set_option maxHeartbeats 8000000 in
theorem funder_any (hl : B.length ≤ 1200000000000) : ∀ (n : Nat) (s g : Int) (w : World),Low B n (s,g) → RepF w f B F → Calls Tryz.prog 52 #[.pointer (some ⟨f,0,none⟩),.agg #[.int .i64 s,.int .i64 g]] w (MadeRecs 43 2 handleC (underN B n (s,g)) w):=by
 intro n
 induction n with
 | zero => intro s g w hl0;exact hl0.elim
 | succ n ih =>
  intro s g w hlow h
  obtain ⟨w0,hw0,hb0,hz0,hs0⟩:=box1 w (.cells #[.int .i64 s,.int .i64 g] 43)
  have h0:=h.below hb0
  have hO:=h.ok
  have H1:=Lib.hid (fkids_any h0 hl s g)
  have hlen:=underN_len hO hlow
  have hall:=undP_all B n (s,g)
  have hplen:=undP_len B n (kidsB B (s,g))
  rw [hall] at hplen
  obtain ⟨q0,q1,ql⟩:=cells2 hz0
  obtain ⟨HZ0,Hb0,HLB,Hs0,IH,Hlow,Hlen,Hall,Hplen⟩:=hid9 h0 hb0 hl hs0 ih hlow hlen hall hplen
  clear h0 hb0 hl hs0 ih hlow hlen hall hplen
  clear h hz0 hO
  go_enter Tryz.func52,Tryz.ntmps52
  go_wp2_with fail
  clear hw0 q0 q1 ql
  refine H1.out.mono ?_
  rintro e w2 ⟨vk,rfl,hk,hb2⟩
  have h2:=HZ0.out.below hb2
  have hkl : (kidsB B (s,g)).length ≤ 1200000000000:=by
   have h1:=kids_len B (s,g)
   have:=HLB.out
   omega
  have hBw2:=Hb0.out.trans (hb2.mono Hb0.out.size)
  have hkl2 : (kidsB B (s,g)).length ≤ 9223372036854775807:=by omega
  have hlow' : ∀ c ∈ kidsB B (s,g),Low B n c:=Hlow.out
  generalize kidsB B (s,g) = ks at *
  obtain ⟨A,cap,rfl,-,-⟩:=row_slice hk
  obtain ⟨H2,Hk,HBw2,Hlow',HKL⟩:=hid5 h2 hk hBw2 hlow' hkl
  clear h2 hk hBw2 hlow' hkl
  clear hb2 H1
  go_wp2_with fail
  go_loopw [5,12] (fun v i wr => ∃ k : Nat,k ≤ ks.length ∧ i = .int .i64 k ∧ wr.ownsRow w2.heap.size 43 2 v (undP B n ks k).length ((undP B n ks k).flatMap handleC) ∧ Below w2.heap.size w2 wr) (fun _ i _ => ks.length - (Go.RowKit.intOf i).toNat)
  case atStart => exact ⟨0,by omega,rfl,⟨rfl,.inl ⟨rfl,rfl⟩⟩,Below.refl _ _⟩
  case round =>
   obtain ⟨k,hkk,rfl,hown,hbel⟩:=hrel
   have hsz:=hbel.size
   by_cases hlt : k < ks.length
   ·have hro:=row_mod Hk.out (Mod.ofBelow hbel) (by simp)
    obtain ⟨g0,cap0,cur0,hv,-,-,-⟩:=row_some hro (by omega)
    cases hv
    have hpc:=row_piece handleC_len hro hlt 0 (handleC ks[k]) (fun j u hu => by rw [Nat.zero_add];exact hu)
    have hg0:=row_lt hro g0 rfl
    have hki : (k : Int) < (ks.length : Int):=by omega
    have hst:=undP_succ B n ks k hlt
    have hlowx:=Hlow'.out _ (List.getElem_mem hlt)
    have hl1:=Hplen.out (k + 1)
    have hl0:=Hplen.out k
    obtain ⟨A5,cap5,rfl,-,-⟩:=row_slice hown
    rw [hst,List.length_append,List.length_append] at hl1
    generalize undP B n ks k = M at *
    generalize ks[k] = x at *
    obtain ⟨c0,c1⟩:=x
    obtain ⟨w3,hw3,hb3,hz3,hs3⟩:=box1 wr (.cells #[.int .i64 c0,.int .i64 c1] 43)
    have hO3:=hown.alloc (.cells #[.int .i64 c0,.int .i64 c1] 43)
    rw [hw3] at hO3
    have hb03:=hbel.trans (hb3.mono hsz)
    have hvlt : ∀ y,(Value.slice A5 M.length cap5).ownBlock = some y → y < wr.heap.size:=row_lt hown
    have hge:=own_ge hO3
    generalize hvv : Value.slice A5 M.length cap5 = vv at *
    have hnb : wr.heap.size ∉ vv.ownBlock.toList:=fun e => by have:=hvlt _ (by simpa using e);omega
    have hF2 : ∀ y ∈ F,y ∉ vv.ownBlock.toList:=fun y hy e => by
     have h1:=H2.out.lt y hy
     have h2:=hge y (by simpa using e)
     omega
    obtain ⟨HP,Hst,Hlowx,Hl1,Hl0,HO3,Hb03,Hs3,Hz3,Hge,Hnb,HF2,Hvv⟩:=hid13 hpc hst hlowx hl1 hl0 hO3 hb03 hs3 hz3 hge hnb hF2 hvv
    clear hpc hst hlowx hl1 hl0 hO3 hb03 hs3 hz3 hge hnb hF2 hvv
    clear hro hown hbel hb3 hvlt
    go_wp2_with (refine wpList_load_flat rfl 43 (.tmp 14) rfl _ rfl [.int .i64 c0,.int .i64 c1] _ Tryz.underlying43 rfl (by kernel_rfl) HP.out ?_)
    clear hw3
    refine wp_planK [2,3] 6 [4] [some 16,some 17,some 18,some 19,some 20,some 21,some 22,some 23,some 5] [[],[],[1],[0,1,2],[],[],[0,1,2,3,4,5],[0,1,2,3,4,5,6],[0,1,2,3,4,5,6,7]] [0,1,2,3,4,5] (fun Lf σ V => IPuH w3 w2.heap.size vv M (c0,c1) Lf σ V) mixed rfl (by kernel_rfl) (by decide) (by decide) (by decide) (IPuH.start below_drew) rfl ?_
    iterate 6 apply Exists.intro
    refine ⟨rfl,?_,?_⟩
    ·simp only [tS,List.take_zero,AllFrom.cons_eq,AllFrom.nil_eq,OpGoalK]
     refine ⟨?_,?_,?_,?_,?_,?_,trivial⟩
     all_goals (intro L' σ V h1 h2 h3 hI hp;have HA1:=Lib.hid h1;have HA2:=Lib.hid h2;have HA3:=Lib.hid h3;clear h1 h2 h3;(try simp only [gZ,gS,preK_cons,preK_nil] at hp);(try simp only [List.mem_cons,List.not_mem_nil,or_false,eq_self,Nat.reduceEqDiff,Nat.reduceAdd,Nat.zero_add,false_or,true_or,true_and,and_true] at hp);(first | (have hq : True:=hp;clear hq hp) | skip);have HI:=Lib.hid hI;clear hI)
     all_goals (
      have hzV:=HI.out.mod.keep Hz3.out Hnb.out
      have q0:=blk_cell hzV 0
      have q1:=blk_cell hzV 1
      simp only [eA,eZ,eS] at q0 q1
      have ql:=blk_lt hzV
      clear hzV)
     iterate 2 · (go_simp;exact ⟨.inr rfl,HI.out.read (by decide) _⟩)
     ·go_simp
      exact PostK.mk (c:=undef) (.inl (by decide)) (HI.out.oned (HA3.out 3 (by decide)))
     ·simp only [wantedL_none,if_true]
      have hbb:=HI.out.b HA1.out
      have ha:=HI.out.o (HA2.out 2 (by decide)) HA1.out
      have hrw:=row_mod HO3.out (Mod.ofBelow hbb) (by simp)
      obtain ⟨Ha,Hrw⟩:=hid2 ha hrw
      have Hlen2:=Lib.hid (show (M.length + 1) * 16 ≤ 140737488355328 by have:=Hl0.out;have:=Hlen.out;have:=HLB.out;omega)
      have Hbs:=Lib.hid (show w2.heap.size ≤ V.heap.size from Nat.le_trans Hb03.out.size hbb.size)
      clear ha hrw hbb
      refine yr_app (enc:=handleC) (n:=2) (bytes:=16) (.tmp 16) (.tmp 18) 75 43 rfl Tryz.underlying75 info_handle rfl (by omega) (by omega) handleC_one handleC_len w2.heap.size vv M (c0,c1) w3.heap.size (handleC (c0,c1)).toArray 43 (by go_simp) Hrw.out (by go_simp;exact Ha.out) rfl Hlen2.out Hbs.out ?_
      intro v' V' hv hg _
      exact PostK.mk (c:=undef) (.inl (by decide)) (HI.out.apped HA1.out hg hv)
     iterate 2 · (go_simp;exact ⟨.inr rfl,HI.out.read (by decide) _⟩)
    ·intro L' σ V h1 hI hp
     have hA3:=(hI.a (h1 3 (by decide))).2
     have hmV:=hI.mod
     clear h1 hI
     simp only [preK_cons,preK_nil,gZ,gS] at hp;simp only [List.mem_cons,List.not_mem_nil,or_false,eq_self,Nat.reduceEqDiff,false_or,true_or,true_and,and_true] at hp
     have hFV:=(H2.out.below Hb03.out).mod hmV HF2.out
     have H6:=Lib.hid (IH.out c0 c1 V Hlowx.out hFV)
     have hbV : Below w2.heap.size w2 V:=Hb03.out.trans (hmV.toBelow (fun x hx => Hge.out x (by simpa using hx)) Hb03.out.size)
     obtain ⟨HA3,HbV⟩:=hid2 hA3 hbV
     clear hA3 hbV
     clear hmV hFV
     simp only [dS,List.drop_zero]
     go_simp
     clear hp
     generalize σ 3 = v3 at *
     generalize σ 2 = v2 at *
     go_wp2_with fail
     refine H6.out.mono ?_
     rintro e w6 ⟨v6,rfl,hown6,hb6⟩
     have hown56:=row_mod HA3.out (Mod.ofBelow hb6) (by simp)
     have hb06:=HbV.out.trans (hb6.mono HbV.out.size)
     obtain ⟨Hown6,Hb06,Hown56⟩:=hid3 hown6 hb06 hown56
     clear hown6 hb06 hown56
     clear hb6
     go_wp2_with (at_builtin;refine app_list rfl _ _ rfl w2.heap.size V.heap.size v3 _ (M ++ [(c0,c1)]) (underN B n (c0,c1)) rfl Hown56.out rfl Hown6.out (by have:=Hl1.out;have:=Hlen.out;have:=HLB.out;rw [List.length_append];omega) Hb06.out.size ?_;intro v7 w7 hown7 hg7)
     refine ⟨rfl,?_⟩
     go_wp2_with fail
     go_roundw
     case rel => exact ⟨k + 1,by omega,by go_num,by rw [Hst.out];exact hown7,Hb06.out.trans ((Below.refl _ _).grown hg7 Hb06.out.size (own_ge Hown56.out))⟩
     case measure => simp [Go.RowKit.intOf];omega
    all_goals exact undef
   ·obtain rfl : k = ks.length:=by omega
    rw [Hall.out] at hown
    have hBf:=HBw2.out.trans (hbel.mono HBw2.out.size)
    have hown:=row_base hown (B':=w.heap.size) (fun k hk => by have:=own_ge hown k hk;have:=HBw2.out.size;omega)
    obtain ⟨Hown,HBf⟩:=hid2 hown hBf
    clear hown hBf
    clear hbel
    go_wp2
    go_ret
    exact ⟨_,rfl,Hown.out,HBf.out⟩
end
end Go.Proofs.YtidbcolnkcbkoaaGreat
namespace Go.Proofs.YtidbcolnkcbkoaaGreat
open Go Go.RowKit
variable {vB : Value}
attribute [local go_sem] AllFrom.cons_eq AllFrom.nil_eq putF_nil putF_cons wantedL_none wantedL_some OpGoalT OpGoalV OpGoalQ YieldsR preF_nil preF_cons
def rowsM (L : List Rw) (n t a : Int) : List Rw:=L.filter (fun x => matchesB x.2.1 n t a)
def RowsPost (B : Nat) (L : List Rw) (n t a : Int) (w : World) (e : Ending) (w' : World) : Prop :=
 ∃ v,e = .returned (.tuple #[v,.int .i64 (qcheck n t a)]) ∧ w'.ownsRow B 63 11 v (if qcheck n t a = 0 then rowsM L n t a else []).length ((if qcheck n t a = 0 then rowsM L n t a else []).flatMap rwC) ∧ Below w.heap.size w w'
end Go.Proofs.YtidbcolnkcbkoaaGreat
