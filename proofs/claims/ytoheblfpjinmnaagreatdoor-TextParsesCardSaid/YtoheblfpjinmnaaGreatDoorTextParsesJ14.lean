import Derived.Test.YtoheblfpjinmnaaGreatDoorTextParsesJ13
set_option linter.unusedVariables false
set_option linter.unusedSimpArgs false
/- A part of the proof that TextParses returns true. -/
namespace Go.Proofs.YtoheblfpjinmnaaGreatDoor
open Go Go.RowKit Go.Maps Go.Shelf
attribute [local go_sem] AllFrom.cons_eq AllFrom.nil_eq putF_nil putF_cons wantedL_none wantedL_some OpGoalT OpGoalV OpGoalQ OpGoalA OpGoalK YieldsR preF_nil preF_cons
attribute [local go_sem] Oper.semAt_some
inductive Chain (B : List Bd) : Hd → List Hd → Prop
 | nil {h : Hd} : parB B h = none → Chain B h []
 | cons {h p : Hd} {xs : List Hd} : parB B h = some p → Chain B p xs → Chain B h (p :: xs)
theorem Acy.chain {B : List Bd} (h : Acy B) (x : Hd) : ∃ xs,Chain B x xs:=by
 obtain ⟨rk,hr⟩:=h
 have key : ∀ n x,rk x ≤ n → ∃ xs,Chain B x xs:=by
  intro n
  induction n with
  | zero =>
   intro x hx
   cases hp : parB B x with
   | none => exact ⟨[],.nil hp⟩
   | some p =>
    have h1:=hr _ (parB_some hp)
    simp only at h1
    omega
  | succ n ih =>
   intro x hx
   cases hp : parB B x with
   | none => exact ⟨[],.nil hp⟩
   | some p =>
    have h1:=hr _ (parB_some hp)
    simp only at h1
    obtain ⟨xs,hx⟩:=ih p (by omega)
    exact ⟨p :: xs,.cons hp hx⟩
 exact key _ x (Nat.le_refl _)
theorem Chain.mem {B : List Bd} (hs : SortB B) {x : Hd} {xs : List Hd} (h : Chain B x xs) (a : Hd) : (x = a ∨ a ∈ xs) ↔ Up B x a:=by
 induction h with
 | nil hp => rw [up_none hp];simp
 | cons hp _ ih => rw [up_some hs hp,← ih,List.mem_cons];constructor <;> (rintro (h | h) <;> simp_all) <;> (rcases h with h | h <;> simp_all)
theorem Chain.fn {B : List Bd} {x : Hd} {xs ys : List Hd} (h : Chain B x xs) (k : Chain B x ys) : xs = ys:=by
 induction h generalizing ys with
 | nil hp => cases k with
  | nil => rfl
  | cons hq _ => rw [hp] at hq;cases hq
 | cons hp _ ih => cases k with
  | nil hq => rw [hp] at hq;cases hq
  | cons hq k => rw [hp] at hq;cases hq;rw [ih k]
open Classical in
noncomputable def chLen (B : List Bd) (x : Hd) : Nat:=if h : ∃ xs,Chain B x xs then h.choose.length else 0
theorem chLen_eq {B : List Bd} {x : Hd} {xs : List Hd} (h : Chain B x xs) : chLen B x = xs.length:=by
 unfold chLen
 rw [dif_pos ⟨xs,h⟩]
 rw [Chain.fn (Exists.choose_spec (⟨xs,h⟩ : ∃ xs,Chain B x xs)) h]
def boxH (wr : World) (p : Value) : Hd:=match p with
 | .pointer (some a) => (match wr.cell? a,wr.cell? (a.add 1) with | some (.int _ s),some (.int _ g) => (s,g) | _,_ => (0,0))
 | _ => (0,0)
theorem boxH_eq {wr : World} {b : Nat} {y : Hd} (h : wr.heap[b]? = some (.cells (handleC y).toArray 46 (0,0))) : boxH wr (.pointer (some ⟨b,0,none⟩)) = y:=by
 have e0:=blk_cell h 0
 have e1:=blk_cell h 1
 simp only [handleC,eA,eZ,eS] at e0 e1
 have ha : (⟨b,0,none⟩ : Addr).add 1 = ⟨b,1,none⟩:=rfl
 simp only [boxH,ha,e0,e1]
def Nxt (B : List Bd) (v : Bool) (y : Hd) (rest : List Hd) : Prop:=(v = false ∧ rest = []) ∨ (v = true ∧ ∃ r,rest = y :: r ∧ Chain B y r ∧ HdR y)
theorem nxt_of {B : List Bd} {x : Hd} {rest : List Hd} (hr : ∀ b ∈ B,HdR b.1 ∧ HdR b.2) (h : Chain B x rest) : Nxt B (parB B x).isSome (parV (parB B x)) rest:=by
 cases h with
 | nil hp => exact .inl ⟨by rw [hp];rfl,rfl⟩
 | cons hp k => exact .inr ⟨by rw [hp];rfl,_,by rw [hp];rfl,by rw [hp];exact k,by rw [hp];exact (hr _ (parB_some hp)).2⟩
noncomputable def nxtM (B : List Bd) (v4 v5 : Value) (wr : World) : Nat:=match v5 with
 | .bool true => 1 + chLen B (boxH wr v4)
 | _ => 0
theorem nxtM_eq {B : List Bd} {v : Bool} {y : Hd} {rest : List Hd} {b : Nat} {wr : World} (h : Nxt B v y rest) (hb : wr.heap[b]? = some (.cells (handleC y).toArray 46 (0,0))) : nxtM B (.pointer (some ⟨b,0,none⟩)) (.bool v) wr = rest.length:=by
 rcases h with ⟨rfl,rfl⟩ | ⟨rfl,r,rfl,hc,-⟩
 ·rfl
 ·unfold nxtM
  simp only
  rw [boxH_eq hb,chLen_eq hc,List.length_cons]
  omega
structure IOne (m g : Nat) (w2 : World) (zs row : Array Value) (T : TypeId) (L : Nat → Bool) (V : World) : Prop where
 b : Below w2.heap.size w2 V
 ge : w2.heap.size ≤ g
 blk : V.heap[g]? = some (.cells (if L m = true then row else zs) T (0,0))
theorem IOne.read {m g : Nat} {w2 : World} {zs row : Array Value} {T : TypeId} {L : Nat → Bool} {V : World} (h : IOne m g w2 zs row T L V) {i : Nat} (h1 : m ≠ i) : IOne m g w2 zs row T (upd L i) V:=by
 have e : upd L i m = L m:=by unfold upd;simp [h1]
 exact ⟨h.b,h.ge,by rw [e];exact h.blk⟩
theorem IOne.yr_stored {P : Program} {o : Oper} {ρ : Operand → Value} {J : Value → World → Prop} {m g : Nat} {w2 V : World} {zl rl : List Value} {T : TypeId} {L : Nat → Bool}
  (h : IOne m g w2 zl.toArray rl.toArray T L V) (hm : L m = false) (hl : rl.length = zl.length) (ty : TypeId) (x y : Operand) (ho : o.op = .store ty x y) (hx : ρ x = .pointer (some ⟨g,0,none⟩)) (hy : ρ y = .agg rl.toArray)
  (hi : (P.info? ty).map (·.size) = some rl.length) (h1 : ∀ u ∈ rl,u.oneCell' = true) (hJ : ∀ V',IOne m g w2 zl.toArray rl.toArray T (upd L m) V' → J undef V') : YieldsR P o ρ V J:=by
 have q3:=h.blk
 rw [hm] at q3
 simp only [Bool.false_eq_true,if_false] at q3
 have hst:=setCells_block (w:=V) rl 0 V zl q3
 rw [setL_all rl zl hl] at hst
 have hmod:=mod_setCells (F:=[g]) (g:=g) (.inl (by simp)) rl 0 V (Mod.refl _ V)
 refine yr_store ty x y ho g 0 rl hx hy (hl ▸ blk_there q3 (Nat.le_refl _)) hi h1 (hJ _ ⟨h.b.trans (hmod.toBelow (by simpa using h.ge) h.b.size),h.ge,?_⟩)
 have e2 : upd L m m = true:=by simp [upd]
 rw [e2];exact hst
section
variable {w : World} {f : Nat} {B : List Bd} {F : List Nat}
set_option maxRecDepth 20000 in
theorem above_any (f : Nat) (s g : Int) (w : World) : Calls Tryz.prog 73 #[.pointer (some ⟨f,0,none⟩),.agg #[.int .i64 s,.int .i64 g]] w fun e w' => e = .returned (.func (.func 106) #[] #[.pointer (some ⟨w.heap.size,0,none⟩),.pointer (some ⟨w.heap.size + 1,0,none⟩)]) ∧ w' = (w.alloc (.cells #[.pointer (some ⟨f,0,none⟩)] 97)).alloc (.cells #[.int .i64 s,.int .i64 g] 46):=by
 go_enter Tryz.func73,Tryz.ntmps73
 go_wp2
 go_ret
 exact ⟨rfl,rfl⟩
set_option maxRecDepth 20000 in
set_option maxHeartbeats 4000000 in
theorem above_seq (n : Nat) (h : RepF w f B F) (s g : Int) (hr : HdR (s,g)) {ch : List Hd} (hc : Chain B (s,g) ch) (bf bh : Nat) (hf : w.heap[bf]? = some (.cells #[.pointer (some ⟨f,0,none⟩)] 97 (0,0))) (hh : w.heap[bh]? = some (.cells #[.int .i64 s,.int .i64 g] 46 (0,0))) :
  SeqR Fence.wide n Tryz.prog 106 #[.pointer (some ⟨bf,0,none⟩),.pointer (some ⟨bh,0,none⟩)] (fun x : Hd => #[hdV x]) (fun xs => xs = ch) (fun pre => pre <+: ch) ch.length w:=by
 intro l J Jx W hW hlw hlt hJ hY h0
 have hFlt:=h.lt
 refine callsIn_of_wp Tryz.func106 rfl trivial (wpIn_wide.2 ?_) rfl
 simp only [Tryz.ntmps106,List.size_toArray,List.length_cons,List.length_nil,Nat.reduceAdd,Nat.reduceSub,Array.replicate_succ,Array.replicate_zero,List.push_toArray,List.append_toArray,List.nil_append,List.cons_append]
 have hRW:=h.below hW
 obtain ⟨m,hF,hL⟩:=hRW.look
 have hfW:=(Mod.ofBelow hW).keep hf (by simp)
 have hhW:=(Mod.ofBelow hW).keep hh (by simp)
 have hL1:=fun W' (hW' : Below W.heap.size W W') => (⟨(hL W' hW').1,(hL W' hW').2.1,(hL W' hW').2.2 s g hr⟩ : _ ∧ _ ∧ _)
 obtain ⟨⟨ps,pg⟩,hps⟩ : ∃ x,parV (parB B (s,g)) = x:=⟨_,rfl⟩
 simp only [hdV,handleC,hps] at hL1
 have hbf:=blk_lt hf
 generalize hbo : (parB B (s,g)).isSome = bo at hL1
 obtain ⟨zl,hzl⟩ : ∃ zl,zl = ints [0,0]:=⟨_,rfl⟩
 obtain ⟨rl,hrl⟩ : ∃ rl,rl = ints [ps,pg]:=⟨_,rfl⟩
 have HW:=Lib.hid hW;have Hlw:=Lib.hid hlw;have Hlt:=Lib.hid hlt;have HJ:=Lib.hid hJ;have HY:=Lib.hid hY;have H0:=Lib.hid h0;have HRW:=Lib.hid hRW;have HfW:=Lib.hid hfW;have Hz:=Lib.hid hhW;have HL:=Lib.hid hL1;have Hps:=Lib.hid hps;have Hbo:=Lib.hid hbo;have Hzl:=Lib.hid hzl;have Hrl:=Lib.hid hrl;have HF:=Lib.hid hF;have Hc:=Lib.hid hc;have Hbf:=Lib.hid hbf;have HFlt:=Lib.hid hFlt
 clear hW hlw hlt hJ hY h0 hRW hfW hhW hL1 hps hbo hzl hrl hF hc hbf hFlt
 clear hL
 clear h hf hh hr
 go_wp2_with fail
 refine wp_planK [9] 11 [] [some 7,some 8,some 9,some 10,some 11,some 12,some 6,some 13,some 14,some 4,none,some 5] [[],[0],[0,1],[0,1,2],[],[0,1,2,3,4],[0,1,2,3,4,5],[0,1,2,3,4,5,6],[0,1,2,3,4,5,6],[],[0,1,2,3,4,5,6,7,9],[0,1,2,3,4,5,6,7,8,9,10]] [0,1,2,3,4,5,6,7,8,9,10] (fun L σ V => IGet 9 10 W zl.toArray rl.toArray 46 L σ V) mixed rfl (by kernel_rfl) (by decide) (by decide) (by decide) (IGet.start (Below.refl _ _).drew) rfl ?_
 iterate 11 apply Exists.intro
 refine ⟨rfl,?_,?_⟩
 ·simp only [tS,List.take_zero,AllFrom.cons_eq,AllFrom.nil_eq,OpGoalK]
  refine ⟨?_,?_,?_,?_,?_,?_,?_,?_,?_,?_,?_,trivial⟩
  all_goals (intro L' σ V h1 h2 h3 hI hp;have HA1:=Lib.hid h1;have HA2:=Lib.hid h2;have HA3:=Lib.hid h3;clear h1 h2 h3;(try simp only [gZ,gS,preK_cons,preK_nil] at hp);(try simp only [List.mem_cons,List.not_mem_nil,or_false,eq_self,Nat.reduceEqDiff,Nat.reduceAdd,Nat.zero_add,false_or,true_or,true_and,and_true] at hp);(first | (have hq : True:=hp;clear hq hp) | skip);have HI:=Lib.hid hI;clear hI)
  all_goals (
   have hLV:=HL.out V HI.out.b
   have hc:=hLV.1;have hl:=hLV.2.1;have hk:=hLV.2.2
   have hzV:=(Mod.ofBelow HI.out.b).keep Hz.out (by simp)
   have q0:=blk_cell hzV 0
   have q1:=blk_cell hzV 1
   simp only [eA,eZ,eS] at q0 q1
   have ql:=blk_lt hzV
   have hfV:=(Mod.ofBelow HI.out.b).keep HfW.out (by simp)
   have u0:=blk_cell hfV 0
   simp only [eA,eZ,eS] at u0
   have ul:=blk_lt hfV
   clear hfV
   clear hLV hzV)
  iterate 9 · (go_simp;exact ⟨.inr rfl,HI.out.read (by decide) (by decide) _⟩)
  ·go_simp
   have hmk:=HI.out.made (by decide) (HA3.out 10 (by decide))
   rw [Hzl.out] at hmk ⊢
   exact PostK.mk (c:=undef) (.inl (by decide)) hmk
  ·simp only [wantedL_none,if_true,Nat.reduceAdd,Nat.zero_add]
   have x3:=HA1.out
   simp only [Nat.reduceAdd,Nat.zero_add] at x3
   generalize hρ : Act.eval _ = ρ
   refine IGet.yr_stored HI.out (by decide) (HA2.out 9 (by decide)) x3 (by rw [Hzl.out,Hrl.out];rfl) 46 (.tmp 4) (.tmp 13) rfl ?_ ?_ (by rw [Hrl.out];kernel_rfl) (by rw [Hrl.out];exact ints_one _) (fun V' hV' => PostK.mk (c:=undef) (.inr rfl) hV')
   ·rw [← hρ]
    go_simp
   ·rw [← hρ]
    go_simp
    rw [Hrl.out]
    rfl
 ·intro L' σ V h1 hI hp
  obtain ⟨r,s9,hr,hst⟩:=hI.blk (h1 9 (by decide))
  rw [if_pos (h1 10 (by decide)),Hrl.out] at hst
  clear h1
  simp only [preK_cons,preK_nil,gZ,gS] at hp;simp only [List.mem_cons,List.not_mem_nil,or_false,eq_self,Nat.reduceEqDiff,false_or,true_or,true_and,and_true] at hp
  have HB:=Lib.hid hI.b
  have Hr:=Lib.hid hr
  have Hst:=Lib.hid hst
  clear hI hst hr
  simp only [dS,List.drop_zero]
  go_simp
  clear hp
  generalize σ 9 = v9 at *
  subst s9
  go_wp2_with fail
  refine ⟨rfl,?_⟩
  go_wp2_with fail
  go_loopw [4,5] (fun v4 v5 wr => ∃ (pre rest : List Hd) (b : Nat) (v : Bool) (y : Hd),v4 = .pointer (some ⟨b,0,none⟩) ∧ v5 = .bool v ∧ ch = pre ++ rest ∧ J pre wr ∧ Mod [l] W wr ∧ W.heap.size ≤ b ∧ wr.heap[b]? = some (.cells (handleC y).toArray 46 (0,0)) ∧ Nxt B v y rest) (fun v4 v5 wr => nxtM B v4 v5 wr)
  case atStart =>
   refine ⟨[],ch,r,bo,(ps,pg),rfl,rfl,rfl,HJ.out _ _ _ H0.out HB.out,(Mod.ofBelow HB.out).mono (by simp),Hr.out,Hst.out,?_⟩
   rw [← Hps.out,← Hbo.out]
   exact nxt_of HRW.out.r Hc.out
  case round =>
   obtain ⟨pre,rest,b,v,⟨y0,y1⟩,rfl,rfl,hch,hJp,hmod,hbge,hbb,hnx⟩:=hrel
   have hmeas:=nxtM_eq hnx hbb
   rcases hnx with ⟨rfl,rfl⟩ | ⟨rfl,rest,rfl,hcy,hyr⟩
   ·have hfin : (∃ v : Value,Ending.returned (.tuple #[]) = .returned v) ∧ ((∃ xs,xs = ch ∧ J xs wr) ∨ (∃ pre,pre <+: ch ∧ Jx pre wr)):=⟨⟨_,rfl⟩,.inl ⟨pre,by rw [hch];simp,hJp⟩⟩
    have Hfin:=Lib.hid hfin
    clear hfin
    clear hch hJp hmod hbge hbb hmeas
    go_wp2
    refine bodyPost_end (v:=.tuple #[]) ?_ rfl Hfin.out
    unfold results;try go_simp
   ·have hll : pre.length < ch.length:=by rw [hch];simp
    have hyl:=HY.out pre (y0,y1) wr hJp hll
    obtain ⟨fn,tmps,assign,body,hy,hR⟩:=hyl
    simp only [hdV,handleC] at hy
    obtain ⟨HR,Hch,HJp,Hmod,Hbge,Hbb,Hmeas,Hcy,Hyr⟩:=hid9 hR hch hJp hmod hbge hbb hmeas hcy hyr
    clear hR hch hJp hmod hbge hbb hmeas hcy hyr
    have e0:=blk_cell Hbb.out 0
    have e1:=blk_cell Hbb.out 1
    simp only [handleC,eA,eZ,eS] at e0 e1
    have el:=blk_lt Hbb.out
    clear hll
    refine (wpIn_wide (n:=n)).1 ?_
    gi_wp2_with fail
    refine ⟨fun h => (by simp [Fence.wide] at h),HR.out.mono ?_⟩
    rintro e W3 (⟨rfl,hJ3,hm3⟩ | ⟨rfl,hJx3⟩)
    ·have hb3:=hm3.keep Hbb.out (by have:=Hbge.out;have:=Hlt.out;simp;omega)
     have e0:=blk_cell hb3 0
     have e1:=blk_cell hb3 1
     simp only [handleC,eA,eZ,eS] at e0 e1
     have el:=blk_lt hb3
     have hm03:=Hmod.out.step hm3
     have hFl : ∀ y ∈ F,y ∉ [l]:=fun y hy e => by
      have h1:=HFlt.out y hy
      have h2:=Hlw.out
      simp only [List.mem_cons,List.not_mem_nil,or_false] at e
      omega
     have hR3:=HRW.out.mod hm03 hFl
     obtain ⟨m3,hF3,hL3⟩:=hR3.look
     obtain rfl : m3 = m:=by
      have:=hF3.symm.trans HF.out
      simpa using this
     have hbf3:=hm03.keep HfW.out (by have:=Hbf.out;have:=Hlw.out;simp;omega)
     have hL4:=fun W' (hW' : Below W3.heap.size W3 W') => (⟨(hL3 W' hW').1,(hL3 W' hW').2.1,(hL3 W' hW').2.2 y0 y1 Hyr.out⟩ : _ ∧ _ ∧ _)
     obtain ⟨⟨qs,qg⟩,has⟩ : ∃ x,parV (parB B (y0,y1)) = x:=⟨_,rfl⟩
     simp only [hdV,handleC,has] at hL4
     have hnx:=nxt_of HRW.out.r Hcy.out
     rw [has] at hnx
     generalize (parB B (y0,y1)).isSome = bo2 at hL4 hnx
     obtain ⟨zl2,hzl2⟩ : ∃ zl,zl = ints [y0,y1]:=⟨_,rfl⟩
     obtain ⟨rl2,hrl2⟩ : ∃ rl,rl = ints [qs,qg]:=⟨_,rfl⟩
     have hst : IOne 9 W3.heap.size W3 zl2.toArray rl2.toArray 46 (fun _ => false) (W3.alloc (.cells #[.int .i64 y0,.int .i64 y1] 46)).drew:=by
      rw [hzl2]
      exact ⟨((Below.refl _ W3).alloc (Nat.le_refl _) _).drew,Nat.le_refl _,blk_drew (heap_alloc_new W3 _)⟩
     have hsz3:=hm03.size
     obtain ⟨Hb3,HJ3,Hm3,Hm03,Hbf3,HL4,Has,Hnx,Hzl2,Hrl2,Hst2,Hsz3⟩:=hid12 hb3 hJ3 hm3 hm03 hbf3 hL4 has hnx hzl2 hrl2 hst hsz3
     clear hb3 hJ3 hm3 hm03 hbf3 hL4 has hnx hzl2 hrl2 hst hsz3
     clear hR3 hF3 hL3 hFl
     gi_wp2_with fail
     clear e0 e1 el hy
     refine wpIn_wide.2 ?_
     refine wp_planK [] 10 [] [some 17,some 18,some 19,some 20,some 21,some 22,some 16,some 23,some 24,none,some 5] [[],[0],[0,1],[0,1,2],[],[0,1,2,3,4],[0,1,2,3,4,5],[0,1,2,3,4,5,6],[0,1,2,3,4,5,6],[0,1,2,3,4,5,6,7],[0,1,2,3,4,5,6,7,8,9]] [0,1,2,3,4,5,6,7,8,9] (fun L σ V => IOne 9 W3.heap.size W3 zl2.toArray rl2.toArray 46 L V) mixed rfl (by kernel_rfl) (by decide) (by decide) (by decide) Hst2.out rfl ?_
     iterate 10 apply Exists.intro
     refine ⟨rfl,?_,?_⟩
     ·simp only [tS,List.take_zero,AllFrom.cons_eq,AllFrom.nil_eq,OpGoalK]
      refine ⟨?_,?_,?_,?_,?_,?_,?_,?_,?_,?_,trivial⟩
      all_goals (intro L' σ V h1 h2 h3 hI hp;have HA1:=Lib.hid h1;have HA2:=Lib.hid h2;have HA3:=Lib.hid h3;clear h1 h2 h3;(try simp only [gZ,gS,preK_cons,preK_nil] at hp);(try simp only [List.mem_cons,List.not_mem_nil,or_false,eq_self,Nat.reduceEqDiff,Nat.reduceAdd,Nat.zero_add,false_or,true_or,true_and,and_true] at hp);(first | (have hq : True:=hp;clear hq hp) | skip);have HI:=Lib.hid hI;clear hI)
      all_goals (
       have hLV:=HL4.out V HI.out.b
       have hc:=hLV.1;have hl:=hLV.2.1;have hk:=hLV.2.2
       have hfV:=(Mod.ofBelow HI.out.b).keep Hbf3.out (by simp)
       have u0:=blk_cell hfV 0
       simp only [eA,eZ,eS] at u0
       have ul:=blk_lt hfV
       clear hLV hfV)
      iterate 4 · (go_simp;exact ⟨.inr rfl,HI.out.read (by decide)⟩)
      ·have hzV:=HI.out.blk
       rw [if_neg (by rw [HA3.out 9 (by decide)];simp),Hzl2.out] at hzV
       have hzV : V.heap[W3.heap.size]? = some (.cells #[.int .i64 y0,.int .i64 y1] 46 (0,0)):=hzV
       obtain ⟨q0,q1,ql⟩:=cells2 hzV
       clear hzV
       go_simp
       exact ⟨.inr rfl,HI.out.read (by decide)⟩
      iterate 4 · (go_simp;exact ⟨.inr rfl,HI.out.read (by decide)⟩)
      ·simp only [wantedL_none,if_true,Nat.reduceAdd,Nat.zero_add]
       have x3:=HA1.out
       simp only [Nat.reduceAdd,Nat.zero_add] at x3
       generalize hρ : Act.eval _ = ρ
       refine IOne.yr_stored HI.out x3 (by rw [Hzl2.out,Hrl2.out];rfl) 46 (.tmp 4) (.tmp 23) rfl ?_ ?_ (by rw [Hrl2.out];kernel_rfl) (by rw [Hrl2.out];exact ints_one _) (fun V' hV' => PostK.mk (c:=undef) (.inr rfl) hV')
       ·rw [← hρ]
        go_simp
       ·rw [← hρ]
        go_simp
        rw [Hrl2.out]
        rfl
     ·intro L' σ V h1 hI hp
      have hst2:=hI.blk
      rw [if_pos (h1 9 (by decide)),Hrl2.out] at hst2
      clear h1
      simp only [preK_cons,preK_nil,gZ,gS] at hp;simp only [List.mem_cons,List.not_mem_nil,or_false,eq_self,Nat.reduceEqDiff,false_or,true_or,true_and,and_true] at hp
      have HB4:=Lib.hid hI.b
      have Hst3:=Lib.hid hst2
      clear hI hst2
      simp only [dS,List.drop_zero]
      go_simp
      clear hp
      go_wp2_with fail
      refine ⟨rfl,?_⟩
      go_wp2_with fail
      go_roundw
      case rel =>
       refine ⟨pre ++ [(y0,y1)],rest,W3.heap.size,bo2,(qs,qg),rfl,rfl,by rw [Hch.out];simp,HJ.out _ _ _ HJ3.out (HB4.out.mono Hsz3.out),(Hm03.out.andBelow HB4.out),Hsz3.out,Hst3.out,Hnx.out⟩
      case measure =>
       rw [nxtM_eq Hnx.out Hst3.out,Hmeas.out];simp
    ·have hfin : (∃ v : Value,Ending.returned (.tuple #[]) = .returned v) ∧ ((∃ xs,xs = ch ∧ J xs W3) ∨ (∃ pre,pre <+: ch ∧ Jx pre W3)):=⟨⟨_,rfl⟩,.inr ⟨pre ++ [(y0,y1)],⟨rest,by rw [Hch.out];simp⟩,hJx3⟩⟩
     have Hfin:=Lib.hid hfin
     clear hfin
     clear hJx3 e0 e1 el hy
     gi_wp2
     refine bodyPost_ret (v:=.tuple #[]) ?_ rfl Hfin.out
     unfold results;try go_simp
 all_goals exact undef
end
theorem Mod.thenBelow {F : List Nat} {a b c : World} (h : Mod F a b) (k : Below a.heap.size b c) : Mod F a c :=
 ⟨k.os.trans h.os,k.tape.trans h.tape,k.output.trans h.output,Nat.le_trans h.size k.size,fun i hi hF => (k.block i hi).trans (h.block i hi hF)⟩
open Classical in
noncomputable def adoE (B : List Bd) (c p : Hd) : Int:=if Up B p c then 8 else 0
open Classical in
noncomputable def adoB (B : List Bd) (c p : Hd) : List Bd:=if Up B p c then B else insB B (c,p)
section
variable {w : World} {f : Nat} {B : List Bd} {F : List Nat}
set_option maxRecDepth 20000 in
set_option maxHeartbeats 4000000 in
theorem adopt_same (h : RepF w f B F) (s g : Int) : Calls Tryz.prog 51 #[.pointer (some ⟨f,0,none⟩),.agg #[.int .i64 s,.int .i64 g],.agg #[.int .i64 s,.int .i64 g]] w (FRet B (.int .i64 8) f F w):=by
 have hcmp : ∀ w,(binOp .eql 46 (.agg #[.int .i64 s,.int .i64 g]) (.agg #[.int .i64 s,.int .i64 g])).run Tryz.prog w = .ok (.bool true) w:=fun w => by rw [eqlHandle,eqB_self]
 have HF:=Lib.hid h
 go_enter Tryz.func51,Tryz.ntmps51
 go_wp2
 refine bodyPost_ret (v:=.int .i64 8) (by unfold results;try go_simp) rfl ?_
 have hb : Below w.heap.size w (((w.alloc (.cells #[.int .i64 s,.int .i64 g] 46)).alloc (.cells #[.int .i64 s,.int .i64 g] 46)).alloc (.cells #[.int .i64 8] 27)):=(((Below.refl _ _).alloc (Nat.le_refl _) _).alloc (by simp) _).alloc (by simp;omega) _
 exact ⟨rfl,h.below hb,(Mod.ofBelow hb).mono (by simp)⟩
set_option maxRecDepth 20000 in
set_option maxHeartbeats 8000000 in
theorem adopt_diff (h : RepF w f B F) (s g t u : Int) (hne : (s,g) ≠ (t,u)) (hc : HdR (s,g)) (hp : HdR (t,u)) : Calls Tryz.prog 51 #[.pointer (some ⟨f,0,none⟩),.agg #[.int .i64 s,.int .i64 g],.agg #[.int .i64 t,.int .i64 u]] w (FRet (adoB B (s,g) (t,u)) (.int .i64 (adoE B (s,g) (t,u))) f F w):=by
 obtain ⟨ch,hch⟩:=h.ok.ac.chain (t,u)
 obtain ⟨w0,hw0,hb0,hz0,hs0⟩:=box1 w (.cells #[.int .i64 s,.int .i64 g] 46)
 obtain ⟨w1,hw1,hb1,hz1,hs1⟩:=box1 w0 (.cells #[.int .i64 t,.int .i64 u] 46)
 obtain ⟨w2,hw2,hb2,hz2,hs2⟩:=box1 w1 (.cells #[.int .i64 0] 27)
 obtain ⟨w3,hw3,hb3,hz3,hs3⟩:=box1 w2 (.cells #[.pointer (some ⟨f,0,none⟩)] 97)
 obtain ⟨w4,hw4,hb4,hz4,hs4⟩:=box1 w3 (.cells #[.int .i64 t,.int .i64 u] 46)
 have hB12 : Below w0.heap.size w0 w2:=hb1.trans (hb2.mono hb1.size)
 have hB02 : Below w.heap.size w w2:=hb0.trans (hB12.mono hb0.size)
 have hB24 : Below w2.heap.size w2 w4:=hb3.trans (hb4.mono hb3.size)
 have hB04 : Below w.heap.size w w4:=hB02.trans (hB24.mono hB02.size)
 have hz02:=(Mod.ofBelow hB12).keep hz0 (by simp)
 have hz12:=(Mod.ofBelow hb2).keep hz1 (by simp)
 have hz04:=(Mod.ofBelow hB24).keep hz02 (by simp)
 have hz14:=(Mod.ofBelow hB24).keep hz12 (by simp)
 have hz24:=(Mod.ofBelow hB24).keep hz2 (by simp)
 have hz34:=(Mod.ofBelow hb4).keep hz3 (by simp)
 have hcmp : ∀ w,(binOp .eql 46 (.agg #[.int .i64 s,.int .i64 g]) (.agg #[.int .i64 t,.int .i64 u])).run Tryz.prog w = .ok (.bool false) w:=fun w => by rw [eqlHandle,eqB_ne hne]
 have h4:=h.below hB04
 have h1:=above_any f t u w2
 rw [hw3,hw4] at h1
 have hseq:=fun n => above_seq n h4 t u hp hch w2.heap.size (w2.heap.size + 1) hz34 (by rw [← hs3];exact hz4)
 obtain ⟨q0,q1,ql⟩:=cells2 hz02
 obtain ⟨v0,v1,vl⟩:=cells2 hz12
 have hlt4 : w2.heap.size < w4.heap.size:=blk_lt hz34
 obtain ⟨H,H1,Hseq,Hz04,Hz14,Hz24,H4,HB04,Hs0,Hs1,Hs2,Hs3,Hs4,Hch,Hlt4⟩:=hid15 h h1 hseq hz04 hz14 hz24 h4 hB04 hs0 hs1 hs2 hs3 hs4 hch hlt4
 clear h h1 hseq hz04 hz14 hz24 h4 hB04 hs0 hs1 hs2 hs3 hs4 hch hlt4
 clear hb0 hz0 hb1 hz1 hb2 hz2 hb3 hz3 hb4 hz4 hB12 hB02 hB24 hz02 hz12 hz34 hw3 hw4
 refine callsIn_wide.1 (callsIn_of_wp_marks (n:=5) Tryz.func51 rfl trivial (wpIn_wide.2 ?_) rfl)
 simp only [Tryz.ntmps51,List.size_toArray,List.length_cons,List.length_nil,Nat.reduceAdd,Nat.reduceSub,Array.replicate_succ,Array.replicate_zero,List.push_toArray,List.append_toArray,List.nil_append,List.cons_append]
 go_wp2_with fail
 clear hw0 hw1 hw2
 refine H1.out.mono ?_
 rintro e w' ⟨rfl,rfl⟩
 go_wp2_with fail
 have hnu : (t,u) ≠ (s,g):=Ne.symm hne
 refine wp_rangeW 5 (by omega) (gf:=106) (lb:=#[.pointer (some ⟨w2.heap.size,0,none⟩),.pointer (some ⟨w2.heap.size + 1,0,none⟩)]) rfl (enters_of Tryz.func106 (by kernel_rfl) rfl) (Hseq.out 4) (Below.refl _ _) (fun _ => rfl)
  (fun pre W => Below w'.heap.size w' W ∧ (s,g) ∉ pre)
  (fun cd pre W => cd = .ret ∧ (s,g) ∈ pre ∧ Mod [w1.heap.size] w' W ∧ W.heap[w1.heap.size]? = some (.cells #[.int .i64 8] 27 (0,0)))
  (fun _ _ _ h k => ⟨h.1.trans k,h.2⟩) (fun _ _ _ _ h k => ⟨h.1,h.2.1,?_,?_⟩) ⟨Below.refl _ _,by simp⟩
  (fun (x : Hd) a' W => ∃ Bx,W.heap[Bx]? = some (.cells (handleC x).toArray 46 (0,0)) ∧ a' = { tmps:=#[.pointer (some ⟨f,0,none⟩),.agg #[.int .i64 s,.int .i64 g],.agg #[.int .i64 t,.int .i64 u],undef,.pointer (some ⟨w.heap.size,0,none⟩),.pointer (some ⟨w0.heap.size,0,none⟩),.pointer (some ⟨w1.heap.size,0,none⟩),.pointer (some ⟨Bx,0,none⟩),.agg #[.int .i64 s,.int .i64 g],.agg #[.int .i64 t,.int .i64 u],.bool false,.pointer (some ⟨f,0,none⟩),.agg #[.int .i64 t,.int .i64 u],.func (.func 106) #[] #[.pointer (some ⟨w2.heap.size,0,none⟩),.pointer (some ⟨w2.heap.size + 1,0,none⟩)],hdV x,undef,undef,undef,undef,undef,undef,undef,undef,undef],defers:=[] })
  (fun x a' X Y h _ k => ?_) ?assign ?body ?done ?stop
 case assign =>
  rintro l pre ⟨x0,x1⟩ W K hl hI hK
  simp only [hdV,handleC]
  gi_wp2
  exact hK _ _ ((Mod.refl _ _).alloc _) ⟨W.heap.size,heap_alloc_new W _,rfl⟩
 case body =>
  rintro l pre ⟨x0,x1⟩ a' W hl ⟨hB,hn⟩ ⟨Bx,hx,rfl⟩ hlen
  simp only [hdV,handleC] at hx ⊢
  have hzW:=(Mod.ofBelow hB).keep Hz04.out (by simp)
  have hyW:=(Mod.ofBelow hB).keep Hz24.out (by simp)
  have heq:=fun w => eqlHandle w x0 x1 s g
  have hb6 : w1.heap.size < w'.heap.size:=blk_lt Hz24.out
  clear q0 q1 ql v0 v1 vl hcmp
  obtain ⟨q0,q1,ql⟩:=cells2 hx
  obtain ⟨v0,v1,vl⟩:=cells2 hzW
  obtain ⟨y0,yl⟩:=cells1 hyW
  have f0:=blk_free hyW 0
  cases hr : eqB (x0,x1) (s,g) with
  | true =>
   have hxs : (x0,x1) = (s,g):=by simpa [eqB] using hr
   rw [hr] at heq
   obtain ⟨HB,HyW,Hb6,Hl⟩:=hid4 hB hyW hb6 hl
   clear hB hyW hb6 hl
   clear hx hzW hn hr hlen
   gi_wp2
   refine ⟨?_,rfl,?_,(Mod.ofBelow HB.out).mono (by simp) |>.setCell (by simp) _,blk_set HyW.out 0 _⟩
   ·intro k o hk ho
    rw [blk_set_ne (by have:=Hb6.out;simp;omega)];exact ho
   ·rw [hxs];simp
  | false =>
   have hxs : (s,g) ≠ (x0,x1):=fun e => by rw [e,eqB_self] at hr;cases hr
   rw [hr] at heq
   have HB:=Lib.hid hB
   clear hB
   clear hx hzW hr hlen hyW
   gi_wp2
   exact ⟨Mod.refl _ _,HB.out,by simp [hn,hxs]⟩
 case done =>
  rintro D xs W hD rfl ⟨hB,hn⟩ hK
  have hnup : ¬ Up B (t,u) (s,g):=fun hu => by
   rcases (Hch.out.mem H.out.ok.so _).2 hu with e | e
   ·exact hnu e
   ·exact hn e
  have hzs:=(Mod.ofBelow hB).keep Hz04.out (by simp)
  have hzt:=(Mod.ofBelow hB).keep Hz14.out (by simp)
  have hy:=(Mod.ofBelow hB).keep Hz24.out (by simp)
  have h5:=H4.out.below hB
  obtain ⟨m,w5,hF,hcm,hfl,hrun,h6,hm6⟩:=(h5.below below_drew).upd hc hp (insB_ok H.out.ok hnup)
  simp only [hdV,handleC] at hrun
  have hcm' : W.cell? ⟨f,0,none⟩ = some (.map (some m)):=hcm
  have hfl' : f < W.heap.size:=hfl
  have hmF : m ∈ F:=by rw [hF];simp
  have hml:=H.out.lt m hmF
  have hy5:=hm6.keep (blk_drew hy) (by have:=Hs0.out;have:=Hs1.out;simp;omega)
  have hK5:=hm6.keep (blk_drew hK) (by have:=HB04.out.size;simp;omega)
  have hM5 : Mod F w w5:=(((Mod.ofBelow (HB04.out.trans (hB.mono HB04.out.size))).mono (by simp) : Mod F w W).andBelow below_drew).step (hm6.mono (by simp [hmF]))
  have hDb : D ≠ w1.heap.size:=by have:=blk_lt Hz24.out;omega
  have hw1F : ∀ y ∈ F,y ≠ w1.heap.size ∧ y ≠ D:=fun y hy => by
   have:=H.out.lt y hy;have:=Hs0.out;have:=Hs1.out;have:=HB04.out.size
   exact ⟨by omega,by omega⟩
  have hfin : FRet (adoB B (s,g) (t,u)) (.int .i64 (adoE B (s,g) (t,u))) f F w (.returned (.int .i64 0)) ((w5.setCell ⟨w1.heap.size,0,none⟩ (.int .i64 0)).putObj D (.deferred none)):=by
   have e1 : adoB B (s,g) (t,u) = insB B ((s,g),(t,u)):=by unfold adoB;rw [if_neg hnup]
   have e2 : adoE B (s,g) (t,u) = 0:=by unfold adoE;rw [if_neg hnup]
   rw [e1,e2]
   refine ⟨rfl,h6.mod (G:=[w1.heap.size,D]) (((Mod.refl _ _).setCell (by simp) _).putObj (by simp) _) (fun y hy => by simpa using hw1F y hy),?_⟩
   exact (hM5.setCell (.inr (by have:=Hs0.out;have:=Hs1.out;simp;omega)) _).putObj (.inr (by have:=HB04.out.size;omega)) _
  obtain ⟨y0,yl⟩:=cells1 hy5
  have f0:=blk_free hy5 0
  have hyf : ((w5.setCell ⟨w1.heap.size,0,none⟩ (.int .i64 0)).putObj D (.deferred none)).heap[w1.heap.size]? = some (.cells #[.int .i64 0] 27 (0,0)):=(World.putObj_heap_other (by omega)).trans (blk_set hy5 0 _)
  have hKf : (w5.setCell ⟨w1.heap.size,0,none⟩ (.int .i64 0)).heap[D]? = some (.deferred (some [])):=(blk_set_ne (by simpa using hDb) _).trans hK5
  clear q0 q1 ql v0 v1 vl hcmp
  obtain ⟨q0,q1,ql⟩:=cells2 hzs
  obtain ⟨v0,v1,vl⟩:=cells2 hzt
  obtain ⟨Hfin,Hyf,HKf⟩:=hid3 hfin hyf hKf
  clear hfin hyf hKf
  clear hzs hzt hy h5 hcm hfl h6 hm6 hml hy5 hK5 hM5 hDb hw1F hB hn hK hF hmF
  go_wp2_with fail
  refine wp_planR 6 [0] [some 18,some 19,some 20,some 21,some 22,some 23,none] [[],[0],[0,1],[0,1,2],[],[],[0,1,2,3,4,5]] [0,1,2,3,4,5] mixed rfl (by kernel_rfl) (by decide) (by decide) rfl ?_
  iterate 6 apply Exists.intro
  refine ⟨rfl,?_,?_⟩
  ·simp only [tS,List.take_zero,AllFrom.cons_eq,AllFrom.nil_eq,OpGoalQ]
   refine ⟨?_,?_,?_,?_,?_,?_,trivial⟩
   all_goals (intro σ hp;(try simp only [gZ,gS,mC,mN,preF_cons,preF_nil,isV,and_true] at hp);(first | (have hq : True:=hp;clear hq hp) | skip))
   all_goals (go_simp;exact ⟨rfl,rfl⟩)
  intro σ hp
  simp only [gZ,gS,mC,mN,preF_cons,preF_nil,isV,and_true] at hp
  simp only [dS,List.drop_zero]
  go_simp
  clear hp
  go_wp2
  refine ⟨rfl,?_⟩
  go_wp2
  refine ⟨by simp,.inl ⟨_,_,rfl,run_takeDeferred HKf.out,?_⟩⟩
  have e0:=blk_cell Hyf.out 0
  simp only [eA,eZ] at e0
  have el:=blk_lt Hyf.out
  refine ⟨.int .i64 0,?_,Hfin.out⟩
  unfold results;go_simp
 case stop =>
  rintro D cd pre W hD hpre ⟨rfl,hmem,hmod,hb8⟩ hK
  have hup : Up B (t,u) (s,g):=(Hch.out.mem H.out.ok.so _).1 (.inr (hpre.subset hmem))
  have hD' : D ≠ w1.heap.size:=by have:=blk_lt Hz24.out;omega
  have hb9 : (W.putObj D (.deferred none)).heap[w1.heap.size]? = some (.cells #[.int .i64 8] 27 (0,0)):=(World.putObj_heap_other (by omega)).trans hb8
  have hfin : FRet (adoB B (s,g) (t,u)) (.int .i64 (adoE B (s,g) (t,u))) f F w (.returned (.int .i64 8)) (W.putObj D (.deferred none)):=by
   have e1 : adoB B (s,g) (t,u) = B:=by unfold adoB;rw [if_pos hup]
   have e2 : adoE B (s,g) (t,u) = 8:=by unfold adoE;rw [if_pos hup]
   rw [e1,e2]
   have hM0 : Mod [] w (W.putObj D (.deferred none)):=(((Mod.ofBelow HB04.out).trans hmod (fun x hx => by
    simp only [List.mem_cons,List.not_mem_nil,or_false] at hx
    have:=Hs0.out;have:=Hs1.out
    exact .inr (by omega))).putObj (.inr (by have:=HB04.out.size;omega)) _)
   exact ⟨rfl,H.out.mod hM0 (by simp),hM0.mono (by simp)⟩
  obtain ⟨Hfin,HK,Hb9⟩:=hid3 hfin hK hb9
  clear hfin hK hb9
  clear hmod hb8 hmem hpre hup q0 q1 ql v0 v1 vl hcmp
  go_wp2
  refine ⟨by simp,.inl ⟨_,_,rfl,run_takeDeferred HK.out,?_⟩⟩
  have e0:=blk_cell Hb9.out 0
  simp only [eA,eZ] at e0
  have el:=blk_lt Hb9.out
  refine ⟨.int .i64 8,?_,Hfin.out⟩
  unfold results;go_simp
 ·exact h.2.2.1.thenBelow k
 ·exact (k.block _ (blk_lt Hz24.out)).trans h.2.2.2
 ·obtain ⟨Bx,h1,h2⟩:=h
  exact ⟨Bx,k _ _ h1 rfl,h2⟩
theorem adopt_any (h : RepF w f B F) (s g t u : Int) (hc : HdR (s,g)) (hp : HdR (t,u)) : Calls Tryz.prog 51 #[.pointer (some ⟨f,0,none⟩),.agg #[.int .i64 s,.int .i64 g],.agg #[.int .i64 t,.int .i64 u]] w (FRet (adoB B (s,g) (t,u)) (.int .i64 (adoE B (s,g) (t,u))) f F w):=by
 by_cases e : (s,g) = (t,u)
 ·obtain ⟨rfl,rfl⟩:=Prod.mk.inj e
  rw [show adoB B (s,g) (s,g) = B by unfold adoB;rw [if_pos (Up.refl _)],show adoE B (s,g) (s,g) = 8 by unfold adoE;rw [if_pos (Up.refl _)]]
  exact adopt_same h s g
 ·exact adopt_diff h s g t u e hc hp
end
end Go.Proofs.YtoheblfpjinmnaaGreatDoor
namespace Go.Proofs.YtoheblfpjinmnaaGreatDoor
open Go Go.RowKit
attribute [local go_sem] AllFrom.cons_eq AllFrom.nil_eq putF_nil putF_cons wantedL_none wantedL_some OpGoalT OpGoalV OpGoalQ OpGoalA OpGoalK YieldsR preF_nil preF_cons
def RepB (vg vl vr : Value) (w : World) (q : Nat) (B : List Bd) (F : List Nat) : Prop :=
 ∃ vB,w.heap[q]? = some (.cells #[vg,vl,vr,vB] 92 (0,0)) ∧ w.ownsRow 0 55 4 vB B.length (B.flatMap bdC) ∧ F = q :: vB.ownBlock.toList ∧ q ∉ vB.ownBlock.toList
section
variable {vg vl vr : Value}
theorem RepB.mod {w w' : World} {q : Nat} {B : List Bd} {F G : List Nat} (h : RepB vg vl vr w q B F) (hm : Mod G w w') (hd : ∀ y ∈ F,y ∉ G) : RepB vg vl vr w' q B F:=by
 obtain ⟨vB,h1,h2,rfl,h4⟩:=h
 exact ⟨vB,hm.keep h1 (hd q (by simp)),row_mod h2 hm (fun k hk => hd k (by simp [hk])),rfl,h4⟩
theorem RepB.below {w w' : World} {q : Nat} {B : List Bd} {F : List Nat} (h : RepB vg vl vr w q B F) (hb : Below w.heap.size w w') : RepB vg vl vr w' q B F:=h.mod (Mod.ofBelow hb) (by simp)
theorem RepB.open_ {w : World} {q : Nat} {B : List Bd} {F : List Nat} (h : RepB vg vl vr w q B F) : ∃ A cap,w.heap[q]? = some (.cells #[vg,vl,vr,.slice A B.length cap] 92 (0,0)) ∧ w.ownsRow 0 55 4 (.slice A B.length cap) B.length (B.flatMap bdC):=by
 obtain ⟨vB,h1,h2,-,-⟩:=h
 obtain ⟨A,cap,rfl,-,-⟩:=row_slice h2
 exact ⟨A,cap,h1,h2⟩
theorem RepB.put {w w1 : World} {q : Nat} {B B' : List Bd} {F : List Nat} {v' : Value} (h : RepB vg vl vr w q B F) (hb : Below w.heap.size w w1) (hv : w1.ownsRow w.heap.size 55 4 v' B'.length (B'.flatMap bdC)) :
  ∃ F',RepB vg vl vr (w1.setCell ⟨q,3,none⟩ v') q B' F' ∧ Turns w F F' (w1.setCell ⟨q,3,none⟩ v'):=by
 obtain ⟨vB,h1,h2,rfl,h4⟩:=h
 have hq:=(Mod.ofBelow hb).keep h1 (by simp)
 have hql:=blk_lt h1
 have hge:=own_ge hv
 refine ⟨q :: v'.ownBlock.toList,⟨v',blk_set hq 3 _,?_,rfl,?_⟩,?_,?_⟩
 ·refine row_base (row_mod hv ((Mod.refl [q] _).setCell (by simp) _) (fun k hk e => ?_)) (fun k _ => Nat.zero_le k)
  have:=hge k hk
  simp at e;omega
 ·intro e
  have:=hge q (by simpa using e)
  omega
 ·exact ((Mod.ofBelow hb).mono (by simp)).setCell (by simp) _
 ·intro k hk
  rcases List.mem_cons.1 hk with rfl | hk
  ·simp
  ·exact .inr (hge k (by simpa using hk))
theorem parB_succ {B : List Bd} {h : Hd} {n : Nat} (hn : n < B.length) (hno : parB (B.take n) h = none) : parB (B.take (n + 1)) h = if B[n].1 = h then some B[n].2 else none:=by
 unfold parB at *
 rw [Option.map_eq_none_iff] at hno
 rw [take_succ_get B n hn,List.find?_append,hno]
 by_cases e : B[n].1 = h <;> simp [e]
theorem parB_take {B : List Bd} {h p : Hd} {n : Nat} (e : parB (B.take n) h = some p) : parB B h = some p:=by
 unfold parB at *
 conv => lhs;rw [← List.take_append_drop n B]
 rw [List.find?_append]
 cases hf : (B.take n).find? (fun b => decide (b.1 = h)) with
 | none => rw [hf] at e;cases e
 | some b => rw [hf] at e;simpa using e
theorem kids_succ (B : List Bd) (h : Hd) (n : Nat) (hn : n < B.length) : kidsB (B.take (n + 1)) h = kidsB (B.take n) h ++ (if eqB B[n].2 h = true then [B[n].1] else []):=by
 unfold kidsB eqB
 rw [take_succ_get B n hn,List.filter_append,List.map_append,List.filter_cons]
 by_cases e : B[n].2 = h <;> simp [e]
theorem outB_succ (B : List Bd) (h : Hd) (n : Nat) (hn : n < B.length) : outB (B.take (n + 1)) h = outB (B.take n) h ++ (if eqB B[n].1 h = true then [] else [B[n]]):=by
 unfold outB eqB
 rw [take_succ_get B n hn,List.filter_append,List.filter_cons]
 by_cases e : B[n].1 = h <;> simp [e]
theorem app_bond1 {w : World} {ops : Array Oper} {rest : List Oper} {o : Oper} {a : Act} {Q : Exit → Act → World → Prop} (hgd : o.guard = none) (s x : Operand)
  (ho : o.op = .call { callee:=.builtin .append,args:=#[s,x],argTypes:=#[24,24] }) (base : Nat) (v : Value) (l : List Bd) (y : Bd) (ad : Addr) (c : Nat)
  (hs : a.eval s = v) (hown : w.ownsRow base 55 4 v l.length (l.flatMap bdC)) (hx : a.eval x = .slice (some ad) 1 c) (hc : ∀ j u,(bdC y)[j]? = some u → w.cell? (ad.add j) = some u)
  (hlen : l.length < 4000000000000) (hbase : base ≤ w.heap.size)
  (h : ∀ v' w',w'.ownsRow base 55 4 v' (l ++ [y]).length ((l ++ [y]).flatMap bdC) → Below base w w' → wpList Tryz.prog ops Q rest (a.put o.dst v') w') : wpList Tryz.prog ops Q (o :: rest) a w :=
 app_bond hgd s x ho base v l y ad c hs hown hx hc hlen hbase (fun v' w' h1 h2 => h v' w' h1 ((Below.refl base w).grown h2 hbase (own_ge hown)))
set_option maxRecDepth 20000 in
set_option maxHeartbeats 2000000 in
theorem cloAdopt_any (b0 b1 b2 b3 s g : Int) (hb : Nat) (w : World) (hh : w.heap[hb]? = some (.cells #[.int .i64 s,.int .i64 g] 46 (0,0))) :
  Calls Tryz.prog 89 #[.agg #[.int .i64 b0,.int .i64 b1,.int .i64 b2,.int .i64 b3],.pointer (some ⟨hb,0,none⟩)] w (BoolPost (eqB (b0,b1) (s,g)) w):=by
 obtain ⟨v0,v1,vl⟩:=cells2 hh
 have hB : ∀ o,Below w.heap.size w (w.alloc o):=fun o => (Below.refl _ _).alloc (Nat.le_refl _) o
 have HB:=Lib.hid hB
 clear hB
 clear hh
 have hq1:=fun w => eqlHandle w b0 b1 s g
 generalize eqB (b0,b1) (s,g) = r1 at *
 go_enter Tryz.func89,Tryz.ntmps89
 go_wp2
 go_ret
 exact ⟨rfl,HB.out _⟩
set_option maxRecDepth 20000 in
set_option maxHeartbeats 4000000 in
theorem withoutAdopt_any {w : World} {B : List Bd} {A : Option Addr} {cap : Nat} (hrow : w.ownsRow 0 55 4 (.slice A B.length cap) B.length (B.flatMap bdC)) (hl : B.length ≤ 1200000000000) (s g : Int) (b : Nat) (h0 : w.heap[b]? = some (.cells #[.int .i64 s,.int .i64 g] 46 (0,0))) :
  Calls Tryz.prog 88 #[.slice A B.length cap,.func (.func 89) #[] #[.pointer (some ⟨b,0,none⟩)]] w (MadeR 55 4 bdC (outB B (s,g)) w):=by
 have hle : B.length ≤ 9223372036854775807:=by omega
 have hbl:=blk_lt h0
 have HLL:=Lib.hid hl
 clear hl
 go_enter Tryz.func88,Tryz.ntmps88
 go_wp2
 go_loopw [5,10] (fun v i wr => ∃ n : Nat,n ≤ B.length ∧ i = .int .i64 n ∧ wr.ownsRow w.heap.size 55 4 v (outB (B.take n) (s,g)).length ((outB (B.take n) (s,g)).flatMap bdC) ∧ Below w.heap.size w wr) (fun _ i _ => B.length - (Go.RowKit.intOf i).toNat)
 case atStart => exact ⟨0,by omega,rfl,⟨rfl,.inl ⟨rfl,rfl⟩⟩,Below.refl _ _⟩
 case round =>
  obtain ⟨n,hn,rfl,hown,hbel⟩:=hrel
  have hsz:=hbel.size
  by_cases hlt : n < B.length
  ·have hro : wr.ownsRow 0 55 4 (.slice A B.length cap) B.length (B.flatMap bdC):=row_mod hrow (Mod.ofBelow hbel) (by simp)
   obtain ⟨g0,cap0,cur0,hv,-,-,-⟩:=row_some hro (by omega)
   cases hv
   have hpc:=row_piece bdC_len hro hlt 0 (bdC B[n]) (fun j u hu => by rw [Nat.zero_add];exact hu)
   have hst:=outB_succ B (s,g) n hlt
   have hlen : (outB (B.take n) (s,g)).length ≤ n:=by
    have h1 : (outB (B.take n) (s,g)).length ≤ (B.take n).length:=List.length_filter_le _ _
    rw [List.length_take] at h1;omega
   have hg0:=row_lt hro g0 rfl
   have hni : (n : Int) < (B.length : Int):=by omega
   generalize outB (B.take n) (s,g) = M at *
   obtain ⟨x,hx⟩ : ∃ x,B[n] = x:=⟨_,rfl⟩
   rw [hx] at hpc hst
   obtain ⟨⟨b0,b1⟩,b2,b3⟩:=x
   have hbz:=(Mod.ofBelow hbel).keep h0 (by simp)
   obtain ⟨w3,hw3,hb3,hz3,hs3⟩:=box1 wr (.cells #[.int .i64 b0,.int .i64 b1,.int .i64 b2,.int .i64 b3] 55)
   have hO3:=hown.alloc (.cells #[.int .i64 b0,.int .i64 b1,.int .i64 b2,.int .i64 b3] 55)
   rw [hw3] at hO3
   have hb03:=hbel.trans (hb3.mono hsz)
   have hbz3:=(Mod.ofBelow hb3).keep hbz (by simp)
   have hk1:=cloAdopt_any b0 b1 b2 b3 s g b w3 hbz3
   have hl3 : wr.heap.size < w3.heap.size:=by omega
   obtain ⟨r0,r1,r2,r3,rl⟩:=cells4 hz3
   obtain ⟨HP,Hst,Hlen,Hown,Hbel,HO3,Hb03,Hk,Hs3,Hz3,Hw3,H0,Hrow⟩:=hid13 hpc hst hlen hown hbel hO3 hb03 hk1 hs3 hz3 hw3 h0 hrow
   clear hpc hst hlen hown hbel hO3 hb03 hk1 hs3 hz3 hw3 h0 hrow
   clear hro hx hbz hbz3 hb3
   have HO:=Lib.hid (bdC_one ((b0,b1),(b2,b3)))
   go_wp2_with (first | (refine wpList_load_flat rfl 55 (.tmp 12) rfl _ rfl [.int .i64 b0,.int .i64 b1,.int .i64 b2,.int .i64 b3] _ Tryz.underlying55 rfl (by kernel_rfl) HP.out ?_) | (refine wpList_store_new rfl 55 (.tmp 7) (.tmp 13) rfl wr (ints [0,0,0,0]) [.int .i64 b0,.int .i64 b1,.int .i64 b2,.int .i64 b3] 55 rfl rfl rfl (by kernel_rfl) HO.out ?_;rw [show ([.int .i64 b0,.int .i64 b1,.int .i64 b2,.int .i64 b3] : List Value).toArray = #[.int .i64 b0,.int .i64 b1,.int .i64 b2,.int .i64 b3] from rfl,Hw3.out];clear HO))
   refine Hk.out.mono ?_
   rintro e w4 ⟨rfl,hb4⟩
   have hz4:=(Mod.ofBelow hb4).keep Hz3.out (by simp)
   have hs4:=hb4.size
   have hs3:=Hs3.out
   have hO4:=row_mod HO3.out (Mod.ofBelow hb4) (by simp)
   have hb04:=Hb03.out.trans (hb4.mono Hb03.out.size)
   have hbs:=Hb03.out.size
   cases hr : eqB (b0,b1) (s,g) with
   | true =>
    have hst:=Hst.out
    rw [if_pos hr,List.append_nil] at hst
    obtain ⟨Hst2,HO4,Hbel4,Hz4,Hs4,Hbs,Hr⟩:=hid7 hst hO4 hb04 hz4 hs4 hbs hr
    clear hst hO4 hb04 hz4 hs4 hbs hr
    clear hs3 hb4 r0 r1 r2 r3 rl
    go_wp2
    go_roundw
    case rel => exact ⟨n + 1,by omega,by go_num,by rw [Hst2.out];exact HO4.out,Hbel4.out⟩
    case measure => simp [Go.RowKit.intOf];omega
   | false =>
    have hst:=Hst.out
    rw [if_neg (by rw [hr];simp)] at hst
    clear r0 r1 r2 r3 rl
    obtain ⟨r0,r1,r2,r3,rl⟩:=cells4 hz4
    obtain ⟨Hst2,Hown4,Hbel4,Hs4,Hbs,Hr⟩:=hid6 hst hO4 hb04 hs4 hbs hr
    clear hst hO4 hb04 hs4 hbs hr
    clear hb4 hz4 hs3
    go_wp2_with (at_builtin;(refine app_bond1 rfl _ _ rfl w.heap.size _ M ((b0,b1),(b2,b3)) ⟨w4.heap.size,0,none⟩ 1 rfl (Hown4.out.alloc _) rfl (new_rec (by simp) rfl) (by have:=HLL.out;have:=Hlen.out;omega) (by have:=Hbel4.out.size;simp;omega) ?_);intro v' w5 hown5 hb5)
    go_roundw
    case rel => exact ⟨n + 1,by omega,by go_num,by rw [Hst2.out];exact hown5,(Hbel4.out.alloc Hbel4.out.size _).trans hb5⟩
    case measure => simp [Go.RowKit.intOf];omega
  ·obtain rfl : n = B.length:=by omega
   rw [List.take_length] at hown
   obtain ⟨Hown,Hbel⟩:=hid2 hown hbel
   clear hown hbel
   clear hrow h0
   go_wp2
   go_ret
   exact ⟨_,rfl,Hown.out,Hbel.out⟩
end
end Go.Proofs.YtoheblfpjinmnaaGreatDoor
