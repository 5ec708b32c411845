import Derived.Test.YtehjfmjibiafdaaGreatRunSerialsJ26
import Derived.Test.YtehjfmjibiafdaaGreatRunSerialsJ27
import Derived.Shelf.SlSortCmp.NoneTotal
import Derived.Shelf.SlSortCmp.QuietGrown
/- A part of the proof that RunSerials returns true. -/
namespace Go.Proofs.YtehjfmjibiafdaaGreat
open Go Go.RowKit
section
variable {vB : Value} {Lo : Nat} {Z : List Nat} {p q : Nat} {sl sl' : Sl} {L L' : List Rw} {w : World}
end
end Go.Proofs.YtehjfmjibiafdaaGreat
namespace Go.Proofs.YtehjfmjibiafdaaGreat
open Go Go.RowKit
attribute [local go_sem] AllFrom.cons_eq AllFrom.nil_eq putF_nil putF_cons wantedL_none wantedL_some OpGoalT OpGoalV OpGoalQ OpGoalA OpGoalK YieldsR preF_nil preF_cons
section
variable {a Lo : Nat} {Z : List Nat} {w0 : World} {S0 S1 : World → Prop} {L : Nat → Bool} {σ : Nat → Value} {V V' : World}
end
section
variable {vB : Value} {Lo : Nat} {Z : List Nat} {p q : Nat} {sl : Sl} {L : List Rw} {w : World}
end
end Go.Proofs.YtehjfmjibiafdaaGreat
namespace Go.Proofs.YtehjfmjibiafdaaGreat
open Go Go.RowKit Go.Maps
attribute [local go_sem] AllFrom.cons_eq AllFrom.nil_eq putF_nil putF_cons wantedL_none wantedL_some OpGoalT OpGoalV OpGoalQ OpGoalA OpGoalK YieldsR preF_nil preF_cons
def bdPr (b : Bd) : Value × Value:=(hdV b.1,hdV b.2)
theorem bdPr_keys : HdKeys (β:=Hd) bdPr:=⟨fun _ => rfl⟩
structure RepF (w : World) (f : Nat) (B : List Bd) (F : List Nat) : Prop where
 ok : FamOk B
 r : ∀ b ∈ B,HdR b.1 ∧ HdR b.2
 at_ : ∃ (m : Nat) (l : List Bd),w.heap[f]? = some (.cells #[.map (some m)] 117 (0,0)) ∧ MapAt Tryz.prog 41 w m (l.map bdPr) ∧ l.Perm B ∧ F = [f,m] ∧ f ≠ m
theorem RepF.mod {w w' : World} {f : Nat} {B : List Bd} {F G : List Nat} (h : RepF w f B F) (hm : Mod G w w') (hd : ∀ y ∈ F,y ∉ G) : RepF w' f B F:=by
 obtain ⟨ho,hr,m,l,h1,h2,h3,rfl,h5⟩:=h
 exact ⟨ho,hr,m,l,hm.keep h1 (hd f (by simp)),h2.mod hm (hd m (by simp)),h3,rfl,h5⟩
theorem RepF.below {w w' : World} {f : Nat} {B : List Bd} {F : List Nat} (h : RepF w f B F) (hb : Below w.heap.size w w') : RepF w' f B F:=h.mod (Mod.ofBelow hb) (by simp)
theorem RepF.lt {w : World} {f : Nat} {B : List Bd} {F : List Nat} (h : RepF w f B F) : ∀ y ∈ F,y < w.heap.size:=by
 obtain ⟨ho,hr,m,l,h1,h2,h3,rfl,h5⟩:=h
 intro y hy
 simp only [List.mem_cons,List.not_mem_nil,or_false] at hy
 rcases hy with rfl | rfl
 ·exact blk_lt h1
 ·exact h2.lt
theorem MapAt.freshH {w' : World} {b : Nat} (h : w'.heap[b]? = some (.map #[] 0)) : MapAt Tryz.prog 41 w' b []:=⟨#[],0,h,⟨Go.MapKept.stamped_empty 0,by simp,rfl⟩⟩
def NewF (w : World) (e : Ending) (w' : World) : Prop:=∃ f F,e = .returned (.pointer (some ⟨f,0,none⟩)) ∧ RepF w' f [] F ∧ (∀ y ∈ F,w.heap.size ≤ y) ∧ Below w.heap.size w w'
set_option maxRecDepth 20000 in
theorem famNew_any (w : World) : Calls Tryz.prog 29 #[] w (NewF w):=by
 have hmm:=@run_makeMap Tryz.prog
 obtain ⟨w2,hw2⟩ : ∃ w2,(w.alloc (.map #[] 0)).alloc (.cells #[.map (some w.heap.size)] 117) = w2:=⟨_,rfl⟩
 have h0 : w2.heap[w.heap.size]? = some (.map #[] 0):=by rw [← hw2];exact blk_alloc (MapKept.heap_alloc w _).1 _
 have h1 : w2.heap[w.heap.size + 1]? = some (.cells #[.map (some w.heap.size)] 117 (0,0)):=by
  rw [← hw2];have:=heap_alloc_new (w.alloc (.map #[] 0)) (.cells #[.map (some w.heap.size)] 117);simpa using this
 have hb2 : Below w.heap.size w w2:=by rw [← hw2];exact ((Below.refl _ _).alloc (Nat.le_refl _) _).alloc (by simp) _
 obtain ⟨Hw2,H0,H1,Hb2⟩:=hid4 hw2 h0 h1 hb2
 clear hw2 h0 h1 hb2
 go_enter Tryz.func29,Tryz.ntmps29
 go_wp2
 go_ret
 rw [Hw2.out]
 refine ⟨w.heap.size + 1,[w.heap.size + 1,w.heap.size],rfl,⟨famOk_nil,by simp,w.heap.size,[],H1.out,MapAt.freshH H0.out,.refl _,rfl,by omega⟩,?_,Hb2.out⟩
 intro y hy
 simp only [List.mem_cons,List.not_mem_nil,or_false] at hy
 omega
section
variable {w : World} {f : Nat} {B : List Bd} {F : List Nat}
def parV (o : Option Hd) : Hd:=o.getD (0,0)
theorem RepF.look (h : RepF w f B F) : ∃ m,F = [f,m] ∧ (∀ W,Below w.heap.size w W → W.cell? ⟨f,0,none⟩ = some (.map (some m)) ∧ f < W.heap.size ∧ ∀ s g,HdR (s,g) →
  (Instr.lookup 115 (.map (some m)) (.agg #[.int .i64 s,.int .i64 g]) true).run Tryz.prog W = .ok (.tuple #[hdV (parV (parB B (s,g))),.bool (parB B (s,g)).isSome]) W):=by
 obtain ⟨ho,hr,m,l,h1,h2,h3,rfl,h5⟩:=h
 refine ⟨m,rfl,fun W hb => ?_⟩
 have hm:=Mod.ofBelow hb
 have h1':=hm.keep h1 (by simp)
 have h2':=h2.mod hm (by simp)
 have e0:=blk_cell h1' 0
 simp only [eA,eZ] at e0
 refine ⟨e0,blk_lt h1',fun s g hsg => ?_⟩
 rw [show (.agg #[.int .i64 s,.int .i64 g] : Value) = hdV (s,g) from rfl]
 cases hp : parB B (s,g) with
 | some p => exact mh_in bdPr_keys Tryz.underlying115 h2' hsg (h3.mem_iff.2 (parB_some hp)) true
 | none => exact mh_out bdPr_keys Tryz.underlying115 (Tryz.zeroValue41 _) h2' hsg (fun x hx => parB_none hp x (h3.mem_iff.1 hx)) true
def ParPost (o : Option Hd) (w : World) (e : Ending) (w' : World) : Prop:=e = .returned (.tuple #[hdV (parV o),.bool o.isSome]) ∧ Below w.heap.size w w'
theorem RepF.del {k p : Hd} (h : RepF w f B F) (hm : (k,p) ∈ B) (ty : TypeId) : ∃ (m : Nat) (w' : World),F = [f,m] ∧ w.cell? ⟨f,0,none⟩ = some (.map (some m)) ∧ f < w.heap.size ∧
  (Builtin.delete_ #[115,41] ty #[.map (some m),hdV k]).run Tryz.prog w = .ok (.tuple #[]) w' ∧ RepF w' f (outB B k) F ∧ Mod [m] w w':=by
 obtain ⟨ho,hr,m,l,h1,h2,h3,rfl,h5⟩:=h
 obtain ⟨w',l',a1,a2,rfl,a4,-⟩:=mh_del (ty:=ty) bdPr_keys Tryz.underlying115 h2 (hr _ hm).1 (h3.mem_iff.2 hm)
 have e0:=blk_cell h1 0
 simp only [eA,eZ] at e0
 refine ⟨m,w',rfl,e0,blk_lt h1,a1,⟨ho.sub List.filter_sublist,fun b hb => hr b (List.mem_filter.1 hb).1,m,_,a4.keep h1 (by simpa using h5),a2,h3.filter _,rfl,h5⟩,a4⟩
theorem RepF.upd {k p : Hd} (h : RepF w f B F) (hk : HdR k) (hp : HdR p) (ho' : FamOk (insB B (k,p))) : ∃ (m : Nat) (w' : World),F = [f,m] ∧ w.cell? ⟨f,0,none⟩ = some (.map (some m)) ∧ f < w.heap.size ∧
  (Instr.mapUpdate 115 (.map (some m)) (hdV k) (hdV p)).run Tryz.prog w = .ok () w' ∧ RepF w' f (insB B (k,p)) F ∧ Mod [m] w w':=by
 obtain ⟨ho,hr,m,l,h1,h2,h3,rfl,h5⟩:=h
 obtain ⟨w',l',a1,a2,a3,a4,-⟩:=mh_upd bdPr_keys Tryz.underlying115 h2 hk p
 have e0:=blk_cell h1 0
 simp only [eA,eZ] at e0
 refine ⟨m,w',rfl,e0,blk_lt h1,a1,⟨ho',fun b hb => ?_,m,_,a4.keep h1 (by simpa using h5),a2,?_,rfl,h5⟩,a4⟩
 ·rcases mem_insB.1 hb with rfl | ⟨hb,-⟩
  ·exact ⟨hk,hp⟩
  ·exact hr b hb
 ·exact a3.trans (((h3.filter _).cons _).trans (insB_perm B (k,p)).symm)
def looE (o : Option Hd) : Int:=if o.isSome then 0 else 5
def FRet (B' : List Bd) (r : Value) (f : Nat) (F : List Nat) (w : World) (e : Ending) (w' : World) : Prop:=e = .returned r ∧ RepF w' f B' F ∧ Mod F w w'
theorem outB_none {k : Hd} (h : parB B k = none) : outB B k = B:=List.filter_eq_self.2 fun b hb => by simpa using parB_none h b hb
set_option maxRecDepth 20000 in
set_option maxHeartbeats 4000000 in
theorem loosen_any (h : RepF w f B F) (s g : Int) (hr : HdR (s,g)) : Calls Tryz.prog 47 #[.pointer (some ⟨f,0,none⟩),.agg #[.int .i64 s,.int .i64 g]] w (FRet (outB B (s,g)) (.int .i64 (looE (parB B (s,g)))) f F w):=by
 obtain ⟨m,hF,hL⟩:=h.look
 obtain ⟨w0,hw0,hb0,hz0,hs0⟩:=box1 w (.cells #[.int .i64 s,.int .i64 g] 41)
 have hL1:=fun W (hW : Below w0.heap.size w0 W) => (⟨(hL W (hb0.trans (hW.mono hb0.size))).1,(hL W (hb0.trans (hW.mono hb0.size))).2.1,(hL W (hb0.trans (hW.mono hb0.size))).2.2 s g hr⟩ : _ ∧ _ ∧ _)
 have ho : parB B (s,g) = parB B (s,g):=rfl
 generalize hoo : parB B (s,g) = o at hL1 ⊢
 obtain ⟨⟨ps,pg⟩,hps⟩ : ∃ x,parV o = x:=⟨_,rfl⟩
 simp only [hdV,handleC,hps] at hL1
 have h0:=h.below hb0
 obtain ⟨zl,hzl⟩ : ∃ zl,zl = ints [0,0]:=⟨_,rfl⟩
 obtain ⟨rl,hrl⟩ : ∃ rl,rl = ints [ps,pg]:=⟨_,rfl⟩
 generalize hbo : o.isSome = bo at hL1
 obtain ⟨Hb0,Hs0,Hz,HL,Hzl,Hrl,H0,Hps,Hoo,HF,Hbo⟩:=hid11 hb0 hs0 hz0 hL1 hzl hrl h0 hps hoo hF hbo
 clear hb0 hs0 hz0 hL1 hzl hrl h0 hps hoo hF hbo
 clear hL h ho hr
 go_enter Tryz.func47,Tryz.ntmps47
 go_wp2_with fail
 clear hw0
 refine wp_planK [9] 11 [0] [some 8,some 9,some 10,some 11,some 12,some 13,some 7,some 14,some 15,some 5,none,some 6] [[],[0],[0,1],[0,1,2],[],[0,1,2,3,4],[0,1,2,3,4,5],[0,1,2,3,4,5,6],[0,1,2,3,4,5,6],[],[0,1,2,3,4,5,6,7,9],[0,1,2,3,4,5,6,7,8,9,10]] [0,1,2,3,4,5,6,7,8,9,10] (fun L σ V => IGet 9 10 w0 zl.toArray rl.toArray 41 L σ V) mixed rfl (by kernel_rfl) (by decide) (by decide) (by decide) (IGet.start (Below.refl _ _).drew) rfl ?_
 iterate 11 apply Exists.intro
 refine ⟨rfl,?_,?_⟩
 ·simp only [tS,List.take_zero,AllFrom.cons_eq,AllFrom.nil_eq,OpGoalK]
  refine ⟨?_,?_,?_,?_,?_,?_,?_,?_,?_,?_,?_,trivial⟩
  all_goals (intro L' σ V h1 h2 h3 hI hp;have HA1:=Lib.hid h1;have HA2:=Lib.hid h2;have HA3:=Lib.hid h3;clear h1 h2 h3;(try simp only [gZ,gS,preK_cons,preK_nil] at hp);(try simp only [List.mem_cons,List.not_mem_nil,or_false,eq_self,Nat.reduceEqDiff,Nat.reduceAdd,Nat.zero_add,false_or,true_or,true_and,and_true] at hp);(first | (have hq : True:=hp;clear hq hp) | skip);have HI:=Lib.hid hI;clear hI)
  all_goals (
   have hLV:=HL.out V HI.out.b
   have hc:=hLV.1;have hl:=hLV.2.1;have hk:=hLV.2.2
   have hzV:=(Mod.ofBelow HI.out.b).keep Hz.out (by simp)
   have q0:=blk_cell hzV 0
   have q1:=blk_cell hzV 1
   simp only [eA,eZ,eS] at q0 q1
   have ql:=blk_lt hzV
   clear hLV hzV)
  iterate 9 · (go_simp;exact ⟨.inr rfl,HI.out.read (by decide) (by decide) _⟩)
  ·go_simp
   have hmk:=HI.out.made (by decide) (HA3.out 10 (by decide))
   rw [Hzl.out] at hmk ⊢
   exact PostK.mk (c:=undef) (.inl (by decide)) hmk
  ·simp only [wantedL_none,if_true,Nat.reduceAdd,Nat.zero_add]
   have x3:=HA1.out
   simp only [Nat.reduceAdd,Nat.zero_add] at x3
   generalize hρ : Act.eval _ = ρ
   refine IGet.yr_stored HI.out (by decide) (HA2.out 9 (by decide)) x3 (by rw [Hzl.out,Hrl.out];rfl) 41 (.tmp 5) (.tmp 14) rfl ?_ ?_ (by rw [Hrl.out];kernel_rfl) (by rw [Hrl.out];exact ints_one _) (fun V' hV' => PostK.mk (c:=undef) (.inr rfl) hV')
   ·rw [← hρ]
    go_simp
   ·rw [← hρ]
    go_simp
    rw [Hrl.out]
    rfl
 ·intro L' σ V h1 hI hp
  obtain ⟨r,s9,hr,hst⟩:=hI.blk (h1 9 (by decide))
  rw [if_pos (h1 10 (by decide)),Hrl.out] at hst
  clear h1
  simp only [preK_cons,preK_nil,gZ,gS] at hp;simp only [List.mem_cons,List.not_mem_nil,or_false,eq_self,Nat.reduceEqDiff,false_or,true_or,true_and,and_true] at hp
  have HB:=Lib.hid hI.b
  have Hr:=Lib.hid hr
  have Hst:=Lib.hid hst
  clear hI hst hr
  simp only [dS,List.drop_zero]
  go_simp
  clear hp
  generalize σ 9 = v9 at *
  subst s9
  have hz:=(Mod.ofBelow HB.out).keep Hz.out (by simp)
  have h1:=H0.out.below HB.out
  have hBf : Below w.heap.size w V:=Hb0.out.trans (HB.out.mono Hb0.out.size)
  go_wp2_with fail
  refine ⟨rfl,?_⟩
  cases o with
  | none =>
   obtain rfl : bo = false:=Hbo.out.symm
   have HX:=Lib.hid h1
   have HBf:=Lib.hid hBf
   clear hBf
   clear hz h1
   go_wp2
   go_ret
   rw [outB_none Hoo.out]
   exact ⟨rfl,HX.out,Mod.ofBelow (HBf.out) |>.mono (by simp)⟩
  | some q =>
   obtain rfl : bo = true:=Hbo.out.symm
   obtain ⟨m1,w4,hF1,hc,hl,hrun,h4,hm4⟩:=(h1.below below_drew).del (parB_some Hoo.out) 0
   obtain rfl : m1 = m:=by
    have:=hF1.symm.trans HF.out
    simpa using this
   have hM : Mod F w w4:=(((Mod.ofBelow hBf).mono (by simp) : Mod F w V).andBelow below_drew).step (hm4.mono (by rw [HF.out];intro x hx;exact .inl (by simp at hx;simp [hx])))
   simp only [hdV,handleC] at hrun
   obtain ⟨q0,q1,ql⟩:=cells2 hz
   have hc' : V.cell? ⟨f,0,none⟩ = some (.map (some m1)):=hc
   have hl' : f < V.heap.size:=hl
   obtain ⟨H4,HM⟩:=hid2 h4 hM
   clear h4 hM
   clear hz h1 hBf hm4 hF1 hc hl
   go_wp2_with fail
   refine wp_planR 5 [0] [some 18,some 19,some 20,some 21,some 22,none] [[],[0],[0,1],[0,1,2],[],[0,1,2,3,4]] [0,1,2,3,4] mixed rfl (by kernel_rfl) (by decide) (by decide) rfl ?_
   iterate 5 apply Exists.intro
   refine ⟨rfl,?_,?_⟩
   ·simp only [tS,List.take_zero,AllFrom.cons_eq,AllFrom.nil_eq,OpGoalQ]
    refine ⟨?_,?_,?_,?_,?_,trivial⟩
    all_goals (intro σ hp;(try simp only [gZ,gS,mC,mN,preF_cons,preF_nil,isV,and_true] at hp);(first | (have hq : True:=hp;clear hq hp) | skip))
    all_goals (go_simp;exact ⟨rfl,rfl⟩)
   intro σ hp
   simp only [gZ,gS,mC,mN,preF_cons,preF_nil,isV,and_true] at hp
   simp only [dS,List.drop_zero]
   go_simp
   clear hp
   go_wp2
   refine ⟨rfl,?_⟩
   go_wp2
   go_ret
   exact ⟨rfl,H4.out,HM.out⟩
 all_goals exact undef
end
end Go.Proofs.YtehjfmjibiafdaaGreat
namespace Go.Proofs.YtehjfmjibiafdaaGreat
open Go Go.RowKit Go.Shelf Go.Sort
section
variable {α : Type} [Inhabited α] {enc : α → List Value} {k : Nat}
theorem get_bang {l : List α} {i : Nat} (h : i < l.length) : l.toArray[i]! = l[i]:=by
 rw [getElem!_pos _ i (by simpa using h)];simp
theorem flat_bang (hk : ∀ x, (enc x).length = k) (l : List α) (t : Nat) (ht : t < l.length * k) : (l.flatMap enc)[t]? = some (flatK enc k l.toArray)[t]! := by
  have k0 : 0 < k := by rcases Nat.eq_zero_or_pos k with h | h
                        · subst h; simp at ht
                        · exact h
  have hq : t / k < l.length := Nat.div_lt_of_lt_mul (by rw [Nat.mul_comm]; exact ht)
  have hr : t % k < k := Nat.mod_lt _ k0
  rw [get_flatK _ _ _ _ (by simpa using ht), get_bang hq]
  have h1 := flatV_get hk l (t / k) hq (t % k) hr
  rw [show t / k * k + t % k = t by rw [Nat.mul_comm]; exact Nat.div_add_mod t k] at h1
  rw [h1, List.getElem?_eq_getElem (by rw [hk]; exact hr), getElem!_pos _ _ (by rw [hk]; exact hr)]
theorem own_putRowK (hk : ∀ x,(enc x).length = k) {w : World} {B E g cap : Nat} {l l' : List α} (hown : w.ownsRow B E k (.slice (some ⟨g,0,none⟩) l.length cap) l.length (l.flatMap enc)) (hl : l'.length = l.length) (m : Nat) (os : Array Obj) :
  (sortWorldK enc k w g 0 m l'.toArray os).ownsRow B E k (.slice (some ⟨g,0,none⟩) l'.length cap) l'.length (l'.flatMap enc) ∧ Mod [g] w (sortWorldK enc k w g 0 m l'.toArray os):=by
 obtain ⟨hx,⟨h,-⟩ | ⟨g',cap',cur,h,hB,hb,hn,hc,hs,ht⟩⟩:=hown
 ·cases h
 simp only [Value.slice.injEq,Option.some.injEq,Addr.mk.injEq,true_and] at h
 obtain ⟨⟨rfl,-⟩,rfl⟩:=h
 have hgl:=blk_lt hb
 have hput : (putRowK enc k (Sort.ahead w m) g 0 l'.toArray).heap[g]? = some (.cells (putCells id 0 (flatK enc k l'.toArray) cur) E (0,0)):=by
  unfold putRowK putRow mapBlock
  show (w.heap.modify g _)[g]? = _
  rw [Array.getElem?_modify,if_pos rfl,hb]
  rfl
 have hsz : (putRowK enc k (Sort.ahead w m) g 0 l'.toArray).heap.size = w.heap.size:=by
  unfold putRowK
  rw [size_putRow]
  rfl
 have hmod : Mod [g] w (sortWorldK enc k w g 0 m l'.toArray os):=by
  refine ⟨rfl,rfl,rfl,?_,fun j hj hn => ?_⟩
  ·show _ ≤ ((putRowK enc k (Sort.ahead w m) g 0 l'.toArray).heap ++ os).size
   rw [Array.size_append,hsz];omega
  ·show ((putRowK enc k (Sort.ahead w m) g 0 l'.toArray).heap ++ os)[j]? = _
   rw [Array.getElem?_append_left (by rw [hsz];exact hj)]
   unfold putRowK putRow mapBlock
   show (w.heap.modify g _)[j]? = _
   rw [Array.getElem?_modify,if_neg (fun e => hn (by simp [e]))]
 have hnk : l.length * k ≤ cap * k:=Nat.mul_le_mul_right k hn
 refine ⟨⟨by rw [flatV_length hk],.inr ⟨g,cap,putCells id 0 (flatK enc k l'.toArray) cur,rfl,hB,?_,by omega,hc,by rw [putCells,Array.size_mapIdx];exact hs,?_⟩⟩,hmod⟩
 ·show ((putRowK enc k (Sort.ahead w m) g 0 l'.toArray).heap ++ os)[g]? = _
  rw [Array.getElem?_append_left (by rw [hsz];exact hgl)]
  exact hput
 ·apply List.ext_getElem?
  intro t
  rw [List.getElem?_take]
  by_cases h1 : t < l'.length * k
  ·rw [if_pos h1,flat_bang hk l' t h1]
   have h2 : t < cur.size:=by rw [hs];rw [hl] at h1;omega
   rw [Array.getElem?_toList,putCells,Array.getElem?_mapIdx,Array.getElem?_eq_getElem h2]
   simp only [Option.map_some,Nat.zero_le,true_and,Nat.zero_add,size_flatK,List.size_toArray,id,Nat.sub_zero]
   rw [if_pos h1]
  ·rw [if_neg h1,List.getElem?_eq_none (by rw [flatV_length hk];omega)]
def SortedRow (enc : α → List Value) (k B E : Nat) (lt : α → α → Bool) (l : List α) (v : Value) (w : World) (e : Ending) (w' : World) : Prop :=
 e = .returned (.tuple #[]) ∧ ∃ l' : List α,l'.Perm l ∧ l'.Pairwise (fun x y => lt y x = false) ∧ w'.ownsRow B E k v l'.length (l'.flatMap enc) ∧ Mod v.ownBlock.toList w w'
theorem sort_own {P : Program} {ρ : Ren} (L : SlLaysF0.n6 P ρ) (aE : ∀ w,(isAgg (ρ.t 24)).run P w = .ok true w) (zE : ∀ w,(Go.sizeOf (ρ.t 24)).run P w = .ok k w) (hk : ∀ x,(enc x).length = k) (h1 : ∀ x,∀ v ∈ enc x,v.oneCell' = true)
  (cf : α → α → Int) (hO : SWO (ltOf cf)) (g : Nat) (eg : ∀ args w,(callFunc g args).run P w = .ok (.enter g args) w)
  (hcmp : ∀ x y W,Calls P g #[.agg (enc x).toArray,.agg (enc y).toArray] W fun e w' => e = .returned (.int .i64 (cf x y)) ∧ ∃ q os,w' = grow (W.drewN q) os)
  {w : World} {B E : Nat} {v : Value} {l : List α} (hown : w.ownsRow B E k v l.length (l.flatMap enc)) (hl : l.length < 4611686018427387904) :
  Calls P (ρ.f 6) #[v,.func (.func g) #[] #[]] w (SortedRow enc k B E (ltOf cf) l v w):=by
 obtain ⟨A,cap,rfl,-,-⟩:=row_slice hown
 by_cases h0 : l.length = 0
 ·have hn : l = []:=List.eq_nil_of_length_eq_zero h0
  subst hn
  refine (AnyF.slices_SortFunc_none L A cap _ w).mono ?_
  rintro e w' ⟨rfl,rfl⟩
  exact ⟨rfl,[],.refl _,.nil,hown,Mod.refl _ _⟩
 ·obtain ⟨g0,cap0,cur,hv,hB,hb,hn,hc,hs,ht⟩:=row_some hown (by omega)
  simp only [Value.slice.injEq,true_and] at hv
  obtain ⟨rfl,rfl⟩:=hv
  have hH : HoldsK enc k w g0 0 l.toArray:=by
   intro j hj
   rw [size_flatK,List.size_toArray] at hj
   have:=flat_bang hk l j hj
   refine ⟨?_,?_⟩
   ·rw [Nat.zero_add];exact row_cell hown this
   ·rw [Nat.zero_add];exact row_free hown j
  have hcon:=AnyQ.slices_SortFunc L k aE zE enc hk h1 cf hO g #[] g0 0 cap l.toArray w eg (fun m os dk _ x y => by simpa using hcmp x y _) hH (blk_lt hb) (by simpa using hl)
  rw [List.size_toArray] at hcon
  refine hcon.mono ?_
  rintro e w' ⟨rfl,d',n,os,hp,hsd,rfl⟩
  obtain ⟨hp1,-,hp3⟩:=hp
  rw [List.size_toArray] at hp1
  have e1 : d' = d'.toList.toArray:=by simp
  have hlen : d'.toList.length = l.length:=by simpa using hp1
  obtain ⟨h3,h4⟩:=own_putRowK (l':=d'.toList) hk hown hlen n os
  rw [← e1] at h3 h4
  refine ⟨rfl,d'.toList,?_,?_,?_,?_⟩
  ·have hp2 : d'.size = l.length:=by simpa using hp1
   have a1 : (d'.extract 0 l.length) = d':=by rw [← hp2];exact Array.extract_size
   have a2 : (l.toArray.extract 0 l.length) = l.toArray:=by
    have : l.toArray.size = l.length:=by simp
    rw [← this];exact Array.extract_size
   rw [a1,a2] at hp3
   exact hp3
  ·refine List.pairwise_iff_getElem.2 fun i j hi hj hij => ?_
   have:=hsd i j (Nat.zero_le _) hij (by rw [hlen] at hj;exact hj)
   rw [getElem!_pos d' i (by simpa using hi),getElem!_pos d' j (by simpa using hj)] at this
   simpa using this
  ·rw [hlen] at h3 ⊢;exact h3
  ·exact h4
end
end Go.Proofs.YtehjfmjibiafdaaGreat
namespace Go.Proofs.YtehjfmjibiafdaaGreat
open Go Go.RowKit Go.Shelf Go.Sort
attribute [local go_sem] AllFrom.cons_eq AllFrom.nil_eq putF_nil putF_cons wantedL_none wantedL_some OpGoalT OpGoalV OpGoalQ OpGoalA OpGoalK YieldsR preF_nil preF_cons
def Grown (W V : World) : Prop:=∃ q os,V = grow (W.drewN q) os
theorem Grown.refl (W : World) : Grown W W:=⟨0,#[],by rw [grow_empty];rfl⟩
theorem Grown.alloc {W V : World} (h : Grown W V) (o : Obj) : Grown W (V.alloc o):=by
 obtain ⟨q,os,rfl⟩:=h
 exact ⟨q,os ++ #[o],by rw [alloc_eq_grow,grow_grow]⟩
theorem Grown.drew {W V : World} (h : Grown W V) : Grown W V.drew:=by
 obtain ⟨q,os,rfl⟩:=h
 exact ⟨q + 1,os,rfl⟩
theorem Grown.trans {W V U : World} (h : Grown W V) (k : Grown V U) : Grown W U:=by
 obtain ⟨q,os,rfl⟩:=h
 obtain ⟨q',os',rfl⟩:=k
 exact ⟨q + q',os ++ os',by simp [grow,World.drewN,Array.append_assoc,Nat.add_assoc]⟩
def cmpH (a b : Hd) : Int:=if Lib.compareInt a.1 b.1 ≠ 0 then Lib.compareInt a.1 b.1 else Lib.compareInt a.2 b.2
theorem cmpH_lt (a b : Hd) : cmpH a b < 0 ↔ ltH a b = true:=by
 rw [ltH_iff]
 unfold cmpH Lib.compareInt
 repeat' split
 all_goals omega
set_option maxRecDepth 20000 in
theorem compareI_any (x y : Int) (w : World) : Calls Tryz.prog 64 #[.int .i64 x,.int .i64 y] w fun e w' => e = .returned (.int .i64 (Lib.compareInt x y)) ∧ w = w':=by
 unfold Lib.compareInt
 by_cases h1 : x < y
 ·rw [if_pos h1]
  go_enter Tryz.func64,Tryz.ntmps64
  go_wp2
  go_ret
  exact ⟨rfl,rfl⟩
 ·rw [if_neg h1]
  by_cases h2 : y < x
  ·rw [if_pos h2]
   go_enter Tryz.func64,Tryz.ntmps64
   go_wp2
   go_ret
   exact ⟨rfl,rfl⟩
  ·rw [if_neg h2]
   go_enter Tryz.func64,Tryz.ntmps64
   go_wp2
   go_ret
   exact ⟨rfl,rfl⟩
def orI (x y : Int) : Int:=if x ≠ 0 then x else y
set_option maxRecDepth 20000 in
theorem or_any (b : Nat) (x y : Int) (w : World) (h0 : w.cell? ⟨b,0,none⟩ = some (.int .i64 x)) (h1 : w.cell? ⟨b,1,none⟩ = some (.int .i64 y)) (hb : b < w.heap.size) :
  Calls Tryz.prog 135 #[.slice (some ⟨b,0,none⟩) 2 2] w fun e w' => e = .returned (.int .i64 (orI x y)) ∧ w = w':=by
 have h1' : x ≠ 0 → orI x y = x:=fun h => by unfold orI;rw [if_pos h]
 have h2' : x = 0 → orI x y = y:=fun h => by unfold orI;rw [if_neg (by simpa using h)]
 obtain ⟨H1,H2⟩:=hid2 h1' h2'
 clear h1' h2'
 generalize orI x y = r at *
 go_enter Tryz.func135,Tryz.ntmps135
 go_wp2_with fail
 go_loopw [8] (fun i wr => ∃ k : Nat,i = .int .i64 k ∧ k ≤ 2 ∧ (k ≠ 0 → x = 0) ∧ (k = 2 → y = 0) ∧ wr = w) (fun i _ => 2 - (Go.RowKit.intOf i).toNat)
 case atStart => exact ⟨0,rfl,by omega,by simp,by simp,rfl⟩
 case round =>
  obtain ⟨k,rfl,hk,hx,hy,rfl⟩:=hrel
  have h3 : k = 0 ∨ k = 1 ∨ k = 2:=by omega
  rcases h3 with rfl | rfl | rfl
  ·clear hx hy hk
   by_cases hx0 : x = 0
   ·go_wp2
    go_roundw
    case rel => exact ⟨1,rfl,by omega,fun _ => hx0,fun h => by omega,by first | rfl | trivial⟩
    case measure => simp [Go.RowKit.intOf]
   ·obtain rfl : r = x:=H1.out hx0
    clear H1 H2
    go_wp2
    go_ret
    exact ⟨rfl,by first | rfl | trivial⟩
  ·have hx0:=hx (by omega)
   clear hx hy hk
   by_cases hy0 : y = 0
   ·go_wp2
    go_roundw
    case rel => exact ⟨2,rfl,by omega,fun _ => hx0,fun _ => hy0,by first | rfl | trivial⟩
    case measure => simp [Go.RowKit.intOf]
   ·obtain rfl : r = y:=H2.out hx0
    clear H1 H2
    go_wp2
    go_ret
    exact ⟨rfl,by first | rfl | trivial⟩
  ·have hx0:=hx (by omega)
   have hy0:=hy rfl
   obtain rfl : r = 0:=(H2.out hx0).trans hy0
   clear hx hy hk H1 H2
   go_wp2
   go_ret
   exact ⟨rfl,by first | rfl | trivial⟩
def CmpPost (r : Int) (w : World) (e : Ending) (w' : World) : Prop:=e = .returned (.int .i64 r) ∧ Grown w w'
set_option maxRecDepth 20000 in
set_option maxHeartbeats 2000000 in
theorem cmpHd_any (s g t u : Int) (w : World) : Calls Tryz.prog 90 #[.agg #[.int .i64 s,.int .i64 g],.agg #[.int .i64 t,.int .i64 u]] w (CmpPost (cmpH (s,g) (t,u)) w):=by
 obtain ⟨w0,hw0,hb0,hz0,hs0⟩:=box1 w (.cells #[.int .i64 s,.int .i64 g] 41)
 obtain ⟨w1,hw1,hb1,hz1,hs1⟩:=box1 w0 (.cells #[.int .i64 t,.int .i64 u] 41)
 have hz01:=(Mod.ofBelow hb1).keep hz0 (by simp)
 have hG : Grown w w1:=by rw [← hw1,← hw0];exact ((Grown.refl w).alloc _).alloc _
 have hc1:=compareI_any s t
 have hc2:=compareI_any g u
 have hfin : cmpH (s,g) (t,u) = orI (Lib.compareInt s t) (Lib.compareInt g u):=rfl
 rw [hfin]
 generalize Lib.compareInt s t = c1 at *
 generalize Lib.compareInt g u = c2 at *
 obtain ⟨q0,q1,ql⟩:=cells2 hz01
 obtain ⟨u0,u1,ul⟩:=cells2 hz1
 obtain ⟨HC1,HC2,HG⟩:=hid3 hc1 hc2 hG
 clear hc1 hc2 hG
 clear hz0 hz01 hz1 hb0 hb1 hs0 hs1 hfin
 go_enter Tryz.func90,Tryz.ntmps90
 go_wp2_with fail
 clear hw0 hw1
 refine wp_planR 10 [] [some 5,some 6,some 7,some 8,some 9,some 10,some 11,some 12,some 13,some 14,some 15,some 16,some 4] [[],[0],[],[2],[0,1,2,3],[],[5],[],[7],[0,1,2,3,4,5,6,7,8],[0,1,2,3,4,5,6,7,8,9],[0,1,2,3,4,5,6,7,8,9,10],[0,1,2,3,4,5,6,7,8,9,10,11]] [0,1,2,3,4,5,6,7,8,9] mixed rfl (by kernel_rfl) (by decide) (by decide) rfl ?_
 iterate 10 apply Exists.intro
 refine ⟨rfl,?_,?_⟩
 ·simp only [tS,List.take_zero,AllFrom.cons_eq,AllFrom.nil_eq,OpGoalQ]
  refine ⟨?_,?_,?_,?_,?_,?_,?_,?_,?_,?_,trivial⟩
  all_goals (intro σ hp;(try simp only [gZ,gS,mC,mN,preF_cons,preF_nil,isV,and_true] at hp);(first | (have hq : True:=hp;clear hq hp) | skip))
  iterate 4 · (go_simp;exact ⟨rfl,rfl⟩)
  ·(go_simp;refine (HC1.out _).mono ?_;rintro e w' ⟨rfl,rfl⟩;exact ⟨_,rfl,rfl,rfl⟩)
  iterate 4 · (go_simp;exact ⟨rfl,rfl⟩)
  ·(go_simp;refine (HC2.out _).mono ?_;rintro e w' ⟨rfl,rfl⟩;exact ⟨_,rfl,rfl,rfl⟩)
 intro σ hp
 simp only [gZ,gS,mC,mN,preF_cons,preF_nil,isV,and_true] at hp
 simp only [dS,List.drop_zero]
 go_simp
 clear hp
 obtain ⟨w2,hw2,-,hz2,-⟩:=box1 w1.drew (.cells #[.int .i64 c1,.int .i64 c2] 3)
 have hG2 : Grown w w2:=by rw [← hw2];exact (HG.out.drew).alloc _
 have e0:=blk_cell hz2 0
 have e1:=blk_cell hz2 1
 simp only [eA,eZ,eS] at e0 e1
 have HOr:=Lib.hid (or_any _ c1 c2 w2 e0 e1 (blk_lt hz2))
 have HG2:=Lib.hid hG2
 clear hG2
 clear e0 e1 hz2
 go_wp2_with fail
 clear hw2
 refine HOr.out.mono ?_
 rintro e w' ⟨rfl,rfl⟩
 go_wp2
 refine ⟨rfl,?_⟩
 go_wp2
 go_ret
 exact ⟨rfl,HG2.out⟩
 all_goals exact undef
theorem ltHd_eq (x y : Hd) : ltOf cmpH x y = ltH x y:=by
 unfold ltOf
 cases h : ltH x y with
 | true => exact decide_eq_true ((cmpH_lt x y).2 h)
 | false => exact decide_eq_false (fun e => by rw [(cmpH_lt x y).1 e] at h;cases h)
theorem swoHd {α : Type} (f : α → Hd) : SWO (ltOf fun x y : α => cmpH (f x) (f y)) where
 irrefl x:=by show ltOf cmpH (f x) (f x) = _;rw [ltHd_eq];exact ltH_irrefl _
 trans x y z h1 h2:=by
  have h1 : ltOf cmpH (f x) (f y) = true:=h1
  have h2 : ltOf cmpH (f y) (f z) = true:=h2
  show ltOf cmpH (f x) (f z) = true
  rw [ltHd_eq] at *
  exact ltH_trans h1 h2
 ntrans x y z h1 h2:=by
  have h1 : ltOf cmpH (f x) (f y) = false:=h1
  have h2 : ltOf cmpH (f y) (f z) = false:=h2
  show ltOf cmpH (f x) (f z) = false
  rw [ltHd_eq] at *
  cases h3 : ltH (f x) (f z) with
  | false => rfl
  | true =>
   cases h4 : ltH (f y) (f x) with
   | true => rw [ltH_trans h4 h3] at h2;cases h2
   | false =>
    have e:=ltH_tri h1 h4
    rw [e] at h3;rw [h3] at h2;cases h2
def sortBondL_ren : Go.Shelf.Ren:=⟨fun | 6 => 88 | 15 => 115 | 14 => 134 | 28 => 154 | 29 => 155 | 20 => 162 | 21 => 163 | 22 => 164 | 23 => 165 | 24 => 166 | 25 => 167 | 26 => 168 | 27 => 169 | 46 => 178 | 47 => 174 | 48 => 175 | 49 => 179 | 50 => 180 | 57 => 183 | n => n,fun | 22 => 24 | 24 => 84 | 25 => 162 | 3 => 3 | 39 => 184 | 0 => 0 | 53 => 213 | 55 => 215 | 4 => 4 | 46 => 206 | 45 => 205 | 50 => 210 | 5 => 5 | 9 => 9 | 66 => 228 | 70 => 232 | 76 => 238 | 77 => 239 | n => n,fun | n => n⟩
theorem sortBondL : Go.Proofs.SlLaysF0.n6 Tryz.prog sortBondL_ren:={
 mixed:=by kernel_rfl,
 f6:=⟨Tryz.f88.name,by decide,Tryz.func88.trans (congrArg some (by kernel_rfl))⟩,
 f14:=⟨Tryz.f134.name,by decide,Tryz.func134.trans (congrArg some (by kernel_rfl))⟩,
 f15:=Tryz.func115.trans (congrArg some (by kernel_rfl)),
 f20:=⟨Tryz.f162.name,by decide,Tryz.func162.trans (congrArg some (by kernel_rfl))⟩,
 f21:=⟨Tryz.f163.name,by decide,Tryz.func163.trans (congrArg some (by kernel_rfl))⟩,
 f22:=⟨Tryz.f164.name,by decide,Tryz.func164.trans (congrArg some (by kernel_rfl))⟩,
 f23:=⟨Tryz.f165.name,by decide,Tryz.func165.trans (congrArg some (by kernel_rfl))⟩,
 f24:=⟨Tryz.f166.name,by decide,Tryz.func166.trans (congrArg some (by kernel_rfl))⟩,
 f25:=⟨Tryz.f167.name,by decide,Tryz.func167.trans (congrArg some (by kernel_rfl))⟩,
 f26:=⟨Tryz.f168.name,by decide,Tryz.func168.trans (congrArg some (by kernel_rfl))⟩,
 f27:=⟨Tryz.f169.name,by decide,Tryz.func169.trans (congrArg some (by kernel_rfl))⟩,
 f28:=Tryz.func154.trans (congrArg some (by kernel_rfl)),
 f29:=Tryz.func155.trans (congrArg some (by kernel_rfl)),
 f46:=⟨Tryz.f178.name,by decide,Tryz.func178.trans (congrArg some (by kernel_rfl))⟩,
 f47:=Tryz.func174.trans (congrArg some (by kernel_rfl)),
 f48:=Tryz.func175.trans (congrArg some (by kernel_rfl)),
 f49:=⟨Tryz.f179.name,by decide,Tryz.func179.trans (congrArg some (by kernel_rfl))⟩,
 f50:=⟨Tryz.f180.name,by decide,Tryz.func180.trans (congrArg some (by kernel_rfl))⟩,
 f57:=⟨Tryz.f183.name,by decide,Tryz.func183.trans (congrArg some (by kernel_rfl))⟩,
 t0:=Tryz.underlying0,
 a0:=Tryz.isAgg0,
 z0:=Tryz.sizeOf0,
 v0:=Tryz.zeroValue0,
 t3:=Tryz.underlying3,
 a3:=Tryz.isAgg3,
 z3:=Tryz.sizeOf3,
 v3:=Tryz.zeroValue3,
 t4:=Tryz.underlying4,
 a4:=Tryz.isAgg4,
 z4:=Tryz.sizeOf4,
 v4:=Tryz.zeroValue4,
 t5:=Tryz.underlying5,
 a5:=Tryz.isAgg5,
 z5:=Tryz.sizeOf5,
 v5:=Tryz.zeroValue5,
 t9:=Tryz.underlying9,
 a9:=Tryz.isAgg9,
 z9:=Tryz.sizeOf9,
 v9:=Tryz.zeroValue9,
 t22:=Tryz.underlying24,
 a22:=Tryz.isAgg24,
 z22:=Tryz.sizeOf24,
 v22:=Tryz.zeroValue24,
 t25:=Tryz.underlying162,
 a25:=Tryz.isAgg162,
 z25:=Tryz.sizeOf162,
 v25:=Tryz.zeroValue162,
 t39:=Tryz.underlying184,
 a39:=Tryz.isAgg184,
 z39:=Tryz.sizeOf184,
 v39:=Tryz.zeroValue184,
 t45:=Tryz.underlying205,
 a45:=Tryz.isAgg205,
 z45:=Tryz.sizeOf205,
 v45:=Tryz.zeroValue205,
 t46:=Tryz.underlying206,
 a46:=Tryz.isAgg206,
 z46:=Tryz.sizeOf206,
 v46:=Tryz.zeroValue206,
 t50:=Tryz.underlying210,
 a50:=Tryz.isAgg210,
 z50:=Tryz.sizeOf210,
 v50:=Tryz.zeroValue210,
 t53:=Tryz.underlying213,
 a53:=Tryz.isAgg213,
 z53:=Tryz.sizeOf213,
 v53:=Tryz.zeroValue213,
 t55:=Tryz.underlying215,
 a55:=Tryz.isAgg215,
 z55:=Tryz.sizeOf215,
 v55:=Tryz.zeroValue215,
 t66:=Tryz.underlying228,
 a66:=Tryz.isAgg228,
 z66:=Tryz.sizeOf228,
 v66:=Tryz.zeroValue228,
 t70:=Tryz.underlying232,
 a70:=Tryz.isAgg232,
 z70:=Tryz.sizeOf232,
 v70:=Tryz.zeroValue232,
 t76:=Tryz.underlying238,
 a76:=Tryz.isAgg238,
 z76:=Tryz.sizeOf238,
 v76:=Tryz.zeroValue238,
 t77:=Tryz.underlying239,
 a77:=Tryz.isAgg239,
 z77:=Tryz.sizeOf239,
 v77:=Tryz.zeroValue239 }
def sortHandleL_ren : Go.Shelf.Ren:=⟨fun | 6 => 170 | 15 => 115 | 14 => 181 | 28 => 154 | 29 => 155 | 20 => 184 | 21 => 185 | 22 => 186 | 23 => 187 | 24 => 188 | 25 => 189 | 26 => 190 | 27 => 191 | 46 => 192 | 47 => 174 | 48 => 175 | 49 => 193 | 50 => 194 | 57 => 195 | n => n,fun | 22 => 55 | 24 => 41 | 25 => 161 | 3 => 3 | 39 => 184 | 0 => 0 | 53 => 213 | 55 => 215 | 4 => 4 | 46 => 206 | 45 => 205 | 50 => 210 | 5 => 5 | 9 => 9 | 66 => 228 | 70 => 232 | 76 => 238 | 77 => 239 | n => n,fun | n => n⟩
theorem sortHandleL : Go.Proofs.SlLaysF0.n6 Tryz.prog sortHandleL_ren:={
 mixed:=by kernel_rfl,
 f6:=⟨Tryz.f170.name,by decide,Tryz.func170.trans (congrArg some (by kernel_rfl))⟩,
 f14:=⟨Tryz.f181.name,by decide,Tryz.func181.trans (congrArg some (by kernel_rfl))⟩,
 f15:=Tryz.func115.trans (congrArg some (by kernel_rfl)),
 f20:=⟨Tryz.f184.name,by decide,Tryz.func184.trans (congrArg some (by kernel_rfl))⟩,
 f21:=⟨Tryz.f185.name,by decide,Tryz.func185.trans (congrArg some (by kernel_rfl))⟩,
 f22:=⟨Tryz.f186.name,by decide,Tryz.func186.trans (congrArg some (by kernel_rfl))⟩,
 f23:=⟨Tryz.f187.name,by decide,Tryz.func187.trans (congrArg some (by kernel_rfl))⟩,
 f24:=⟨Tryz.f188.name,by decide,Tryz.func188.trans (congrArg some (by kernel_rfl))⟩,
 f25:=⟨Tryz.f189.name,by decide,Tryz.func189.trans (congrArg some (by kernel_rfl))⟩,
 f26:=⟨Tryz.f190.name,by decide,Tryz.func190.trans (congrArg some (by kernel_rfl))⟩,
 f27:=⟨Tryz.f191.name,by decide,Tryz.func191.trans (congrArg some (by kernel_rfl))⟩,
 f28:=Tryz.func154.trans (congrArg some (by kernel_rfl)),
 f29:=Tryz.func155.trans (congrArg some (by kernel_rfl)),
 f46:=⟨Tryz.f192.name,by decide,Tryz.func192.trans (congrArg some (by kernel_rfl))⟩,
 f47:=Tryz.func174.trans (congrArg some (by kernel_rfl)),
 f48:=Tryz.func175.trans (congrArg some (by kernel_rfl)),
 f49:=⟨Tryz.f193.name,by decide,Tryz.func193.trans (congrArg some (by kernel_rfl))⟩,
 f50:=⟨Tryz.f194.name,by decide,Tryz.func194.trans (congrArg some (by kernel_rfl))⟩,
 f57:=⟨Tryz.f195.name,by decide,Tryz.func195.trans (congrArg some (by kernel_rfl))⟩,
 t0:=Tryz.underlying0,
 a0:=Tryz.isAgg0,
 z0:=Tryz.sizeOf0,
 v0:=Tryz.zeroValue0,
 t3:=Tryz.underlying3,
 a3:=Tryz.isAgg3,
 z3:=Tryz.sizeOf3,
 v3:=Tryz.zeroValue3,
 t4:=Tryz.underlying4,
 a4:=Tryz.isAgg4,
 z4:=Tryz.sizeOf4,
 v4:=Tryz.zeroValue4,
 t5:=Tryz.underlying5,
 a5:=Tryz.isAgg5,
 z5:=Tryz.sizeOf5,
 v5:=Tryz.zeroValue5,
 t9:=Tryz.underlying9,
 a9:=Tryz.isAgg9,
 z9:=Tryz.sizeOf9,
 v9:=Tryz.zeroValue9,
 t22:=Tryz.underlying55,
 a22:=Tryz.isAgg55,
 z22:=Tryz.sizeOf55,
 v22:=Tryz.zeroValue55,
 t25:=Tryz.underlying161,
 a25:=Tryz.isAgg161,
 z25:=Tryz.sizeOf161,
 v25:=Tryz.zeroValue161,
 t39:=Tryz.underlying184,
 a39:=Tryz.isAgg184,
 z39:=Tryz.sizeOf184,
 v39:=Tryz.zeroValue184,
 t45:=Tryz.underlying205,
 a45:=Tryz.isAgg205,
 z45:=Tryz.sizeOf205,
 v45:=Tryz.zeroValue205,
 t46:=Tryz.underlying206,
 a46:=Tryz.isAgg206,
 z46:=Tryz.sizeOf206,
 v46:=Tryz.zeroValue206,
 t50:=Tryz.underlying210,
 a50:=Tryz.isAgg210,
 z50:=Tryz.sizeOf210,
 v50:=Tryz.zeroValue210,
 t53:=Tryz.underlying213,
 a53:=Tryz.isAgg213,
 z53:=Tryz.sizeOf213,
 v53:=Tryz.zeroValue213,
 t55:=Tryz.underlying215,
 a55:=Tryz.isAgg215,
 z55:=Tryz.sizeOf215,
 v55:=Tryz.zeroValue215,
 t66:=Tryz.underlying228,
 a66:=Tryz.isAgg228,
 z66:=Tryz.sizeOf228,
 v66:=Tryz.zeroValue228,
 t70:=Tryz.underlying232,
 a70:=Tryz.isAgg232,
 z70:=Tryz.sizeOf232,
 v70:=Tryz.zeroValue232,
 t76:=Tryz.underlying238,
 a76:=Tryz.isAgg238,
 z76:=Tryz.sizeOf238,
 v76:=Tryz.zeroValue238,
 t77:=Tryz.underlying239,
 a77:=Tryz.isAgg239,
 z77:=Tryz.sizeOf239,
 v77:=Tryz.zeroValue239 }
theorem cmpHd_sort (x y : Hd) (W : World) : Calls Tryz.prog 90 #[.agg (handleC x).toArray,.agg (handleC y).toArray] W fun e w' => e = .returned (.int .i64 (cmpH x y)) ∧ ∃ q os,w' = grow (W.drewN q) os :=
 cmpHd_any x.1 x.2 y.1 y.2 W
set_option maxRecDepth 20000 in
set_option maxHeartbeats 2000000 in
theorem cmpBd_sort (x y : Bd) (W : World) : Calls Tryz.prog 89 #[.agg (bdC x).toArray,.agg (bdC y).toArray] W (CmpPost (cmpH x.1 y.1) W):=by
 obtain ⟨⟨s,g⟩,⟨s1,g1⟩⟩:=x
 obtain ⟨⟨t,u⟩,⟨t1,u1⟩⟩:=y
 show Calls Tryz.prog 89 #[.agg #[.int .i64 s,.int .i64 g,.int .i64 s1,.int .i64 g1],.agg #[.int .i64 t,.int .i64 u,.int .i64 t1,.int .i64 u1]] W (CmpPost (cmpH (s,g) (t,u)) W)
 have HC:=Lib.hid (cmpHd_any s g t u)
 go_enter Tryz.func89,Tryz.ntmps89
 go_wp2_with fail
 refine (HC.out _).mono ?_
 rintro e w' ⟨rfl,hG⟩
 have HG:=Lib.hid ((((Grown.refl W).alloc _).alloc _).trans hG)
 clear hG
 go_wp2
 go_ret
 exact ⟨rfl,HG.out⟩
theorem sortBonds_any {w : World} {B : Nat} {v : Value} {l : List Bd} (hown : w.ownsRow B 84 4 v l.length (l.flatMap bdC)) (hl : l.length ≤ 1200000000000) :
  Calls Tryz.prog 88 #[v,.func (.func 89) #[] #[]] w (SortedRow bdC 4 B 84 (ltOf fun x y : Bd => cmpH x.1 y.1) l v w) :=
 sort_own sortBondL Tryz.isAgg84 Tryz.sizeOf84 bdC_len bdC_one _ (swoHd (fun x : Bd => x.1)) 89 (enters_of Tryz.func89 (by kernel_rfl) rfl) cmpBd_sort hown (by omega)
theorem sortHandles_any {w : World} {B : Nat} {v : Value} {l : List Hd} (hown : w.ownsRow B 41 2 v l.length (l.flatMap handleC)) (hl : l.length ≤ 1200000000000) :
  Calls Tryz.prog 170 #[v,.func (.func 90) #[] #[]] w (SortedRow handleC 2 B 41 (ltOf fun x y : Hd => cmpH x y) l v w) :=
 sort_own sortHandleL Tryz.isAgg41 Tryz.sizeOf41 (fun _ => rfl) handleC_one _ (swoHd (fun x : Hd => x)) 90 (enters_of Tryz.func90 (by kernel_rfl) rfl) cmpHd_sort hown (by omega)
end Go.Proofs.YtehjfmjibiafdaaGreat
