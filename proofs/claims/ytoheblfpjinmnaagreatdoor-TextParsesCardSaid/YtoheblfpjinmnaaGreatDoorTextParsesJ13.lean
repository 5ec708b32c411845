import Derived.Test.YtoheblfpjinmnaaGreatDoorTextParsesJ12
import Derived.DeepKeys4
import Derived.Shelf.SlSortCmp.NoneTotal
import Derived.Shelf.SlSortCmp.QuietGrown
set_option linter.unusedVariables false
set_option linter.unusedSimpArgs false
/- A part of the proof that TextParses returns true. -/
namespace Go.Proofs.YtoheblfpjinmnaaGreatDoor
open Go Go.RowKit
attribute [local go_sem] AllFrom.cons_eq AllFrom.nil_eq putF_nil putF_cons wantedL_none wantedL_some OpGoalT OpGoalV OpGoalQ OpGoalA OpGoalK YieldsR preF_nil preF_cons
theorem or_add8 : ∀ m : Fin 256,∀ x : Fin 8,m.val.testBit x.val = false → bits .or .i64 (m.val : Int) (wrap64 (2 ^ x.val)) = (m.val : Int) + pw x.val:=by decide +kernel
section
variable {w : World} {p : Nat} {sl : Sl} {L : List Rw} {F : List Nat}
end
end Go.Proofs.YtoheblfpjinmnaaGreatDoor
namespace Go.Proofs.YtoheblfpjinmnaaGreatDoor
open Go Go.RowKit
variable {vB : Value}
attribute [local go_sem] AllFrom.cons_eq AllFrom.nil_eq putF_nil putF_cons wantedL_none wantedL_some OpGoalT OpGoalV OpGoalQ OpGoalK YieldsR preF_nil preF_cons
section
variable {w5 V V' : World} {l1 l2 : List Rw} {x : Rw} {L : Nat → Bool} {σ : Nat → Value}
end
section
variable {w : World} {q : Nat} {sl : Sl} {L : List Rw} {F : List Nat}
end
end Go.Proofs.YtoheblfpjinmnaaGreatDoor
namespace Go.Proofs.YtoheblfpjinmnaaGreatDoor
open Go Go.RowKit
structure Own (A : World → List Nat → Prop) : Prop where
 mod : ∀ {w w' : World} {F G : List Nat},A w F → Mod G w w' → (∀ y ∈ F,y ∉ G) → A w' F
 lt : ∀ {w : World} {F : List Nat},A w F → ∀ y ∈ F,y < w.heap.size
def OwnPost (A' : World → List Nat → Prop) (F : List Nat) (w w' : World) : Prop:=∃ F',A' w' F' ∧ Turns w F F' w'
section
variable {Lo : Nat} {Z : List Nat} {A B A' B' : World → List Nat → Prop} {w w' : World}
end
section
variable {vB : Value} {Lo : Nat} {Z : List Nat} {p q : Nat} {sl sl' : Sl} {L L' : List Rw} {w : World}
end
end Go.Proofs.YtoheblfpjinmnaaGreatDoor
namespace Go.Proofs.YtoheblfpjinmnaaGreatDoor
open Go Go.RowKit
attribute [local go_sem] AllFrom.cons_eq AllFrom.nil_eq putF_nil putF_cons wantedL_none wantedL_some OpGoalT OpGoalV OpGoalQ OpGoalA OpGoalK YieldsR preF_nil preF_cons
section
variable {a Lo : Nat} {Z : List Nat} {w0 : World} {S0 S1 : World → Prop} {L : Nat → Bool} {σ : Nat → Value} {V V' : World}
end
section
variable {vB : Value} {Lo : Nat} {Z : List Nat} {p q : Nat} {sl : Sl} {L : List Rw} {w : World}
end
end Go.Proofs.YtoheblfpjinmnaaGreatDoor
namespace Go.Proofs.YtoheblfpjinmnaaGreatDoor
open Go Go.RowKit Go.Maps
def HdR (h : Hd) : Prop:=InR h.1 ∧ InR h.2
def hdV (h : Hd) : Value:=.agg (handleC h).toArray
theorem hdV_inj {a b : Hd} (h : hdV a = hdV b) : a = b:=by
 have h1 : (handleC a).toArray = (handleC b).toArray:=Value.agg.inj h
 have h2 : handleC a = handleC b:=by simpa using congrArg Array.toList h1
 unfold handleC at h2
 simp only [List.cons.injEq,Value.int.injEq,true_and,and_true] at h2
 exact Prod.ext h2.1 h2.2
theorem hd_keyed : Keyed Tryz.prog 46 :=
 Keyed.of_law (deep_law_laid laid_ (m:=3) (by decide) (of_decide_eq_true (by kernel_rfl)) (by kernel_rfl) (by rw [Tryz.underlying46]))
theorem wf_of_inR {z : Int} (h : InR z) : (Lit.int .i64 z).wf = true:=by
 unfold InR at h
 simp [Lit.wf,IntKind.min,IntKind.max,IntKind.bits,IntKind.signed]
 omega
theorem hd_lits (s g : Int) (hs : InR s) (hg : InR g) (d : Nat) : Tryz.prog.keyLits (d + 2) 46 [.int .i64 s,.int .i64 g] = some [.int .i64 s,.int .i64 g]:=by
 have h1 : ∀ z : Int,InR z → Tryz.prog.keyLits (d + 1) 3 [.int .i64 z] = some [.int .i64 z]:=fun z hz => by
  unfold Program.keyLits
  rw [Tryz.underlying3]
  simp [wf_of_inR hz]
 unfold Program.keyLits
 rw [Tryz.underlying46]
 simp only []
 have hc : Tryz.prog.cellsOf 3 = 1:=by kernel_rfl
 have hC : Tryz.prog.cellsOf 46 = 2:=by kernel_rfl
 simp [hc,hC,h1 s hs,h1 g hg]
theorem hd_key {h : Hd} (hr : HdR h) : ∃ kl,keyOf Tryz.prog 46 (hdV h) = some kl:=by
 obtain ⟨s,g⟩:=h
 have h1 : (Tryz.prog.keyType 46 && (hdV (s,g)).formed Tryz.prog 46) = true:=by kernel_rfl
 obtain ⟨d,hd⟩ : ∃ d,Tryz.prog.types.size + 1 = d + 2:=⟨Tryz.prog.types.size - 1,by have : 0 < Tryz.prog.types.size:=of_decide_eq_true (by kernel_rfl);omega⟩
 unfold keyOf
 rw [Tryz.underlying46]
 simp only [h1,if_true]
 rw [hd,show (hdV (s,g)).cells.toList = [.int .i64 s,.int .i64 g] from rfl,hd_lits s g hr.1 hr.2]
 exact ⟨_,rfl⟩
structure HdKeys {β : Type} (enc : Hd × β → Value × Value) : Prop where
 key : ∀ x,(enc x).1 = hdV x.1
section
variable {β : Type} {enc : Hd × β → Value × Value} {w : World} {b : Nat} {l : List (Hd × β)} {t e : TypeId} {k : Hd}
theorem mh_apart (K : HdKeys enc) (h : MapAt Tryz.prog 46 w b (l.map enc)) : l.Pairwise (fun x y => x.1 ≠ y.1):=by
 obtain ⟨es,clock,-,hok⟩:=h
 have:=hok.apart
 rw [List.pairwise_map] at this
 exact this.imp fun {x y} hne e => hne (by rw [K.key,K.key,e])
theorem mh_ne (K : HdKeys enc) (hn : ∀ x ∈ l,x.1 ≠ k) : ∀ p ∈ l.map enc,p.1 ≠ hdV k:=by
 intro p hp e
 obtain ⟨x,hx,rfl⟩:=List.mem_map.1 hp
 rw [K.key] at e
 exact hn x hx (hdV_inj e)
theorem mh_in (K : HdKeys enc) (ht : Tryz.prog.underlying t = some (.map 46 e)) (h : MapAt Tryz.prog 46 w b (l.map enc)) (hr : HdR k) {v : β} (hm : (k,v) ∈ l) (c : Bool) :
  (Instr.lookup t (.map (some b)) (hdV k) c).run Tryz.prog w = .ok (if c then .tuple #[(enc (k,v)).2,.bool true] else (enc (k,v)).2) w:=by
 obtain ⟨kl,hk⟩:=hd_key hr
 refine h.look_in hd_keyed ht hk ?_ c
 have : enc (k,v) ∈ l.map enc:=List.mem_map.2 ⟨_,hm,rfl⟩
 rw [show enc (k,v) = (hdV k,(enc (k,v)).2) from Prod.ext (K.key _) rfl] at this
 exact this
theorem mh_out (K : HdKeys enc) (ht : Tryz.prog.underlying t = some (.map 46 e)) {z : Value} (hz : (zeroValue e).run Tryz.prog w = .ok z w) (h : MapAt Tryz.prog 46 w b (l.map enc)) (hr : HdR k) (hn : ∀ x ∈ l,x.1 ≠ k) (c : Bool) :
  (Instr.lookup t (.map (some b)) (hdV k) c).run Tryz.prog w = .ok (if c then .tuple #[z,.bool false] else z) w:=by
 obtain ⟨kl,hk⟩:=hd_key hr
 exact h.look_out hd_keyed ht hz hk (mh_ne K hn) c
theorem mh_split (h : l.Pairwise (fun x y => x.1 ≠ y.1)) {v : β} (hm : (k,v) ∈ l) : ∃ l1 l2,l = l1 ++ (k,v) :: l2 ∧ l.filter (fun x => decide (x.1 ≠ k)) = l1 ++ l2:=by
 obtain ⟨l1,l2,rfl⟩:=List.append_of_mem hm
 refine ⟨l1,l2,rfl,?_⟩
 rw [List.pairwise_append,List.pairwise_cons] at h
 obtain ⟨-,⟨h2,-⟩,h3⟩:=h
 rw [List.filter_append,List.filter_cons]
 simp only [ne_eq,not_true,decide_false,Bool.false_eq_true,if_false]
 congr 1
 ·exact List.filter_eq_self.2 fun x hx => by simpa using h3 x hx (k,v) (by simp)
 ·exact List.filter_eq_self.2 fun x hx => by simpa using (h2 x hx).symm
theorem mh_upd (K : HdKeys enc) (ht : Tryz.prog.underlying t = some (.map 46 e)) (h : MapAt Tryz.prog 46 w b (l.map enc)) (hr : HdR k) (v : β) :
  ∃ (w' : World) (l' : List (Hd × β)),(Instr.mapUpdate t (.map (some b)) (hdV k) (enc (k,v)).2).run Tryz.prog w = .ok () w' ∧ MapAt Tryz.prog 46 w' b (l'.map enc) ∧ l'.Perm ((k,v) :: l.filter (fun x => decide (x.1 ≠ k))) ∧ Mod [b] w w' ∧ w'.heap.size = w.heap.size:=by
 obtain ⟨kl,hk⟩:=hd_key hr
 have hap:=mh_apart K h
 have hkv : enc (k,v) = (hdV k,(enc (k,v)).2):=Prod.ext (K.key _) rfl
 by_cases hin : ∃ v0,(k,v0) ∈ l
 ·obtain ⟨v0,hv0⟩:=hin
  obtain ⟨l1,l2,rfl,hf⟩:=mh_split hap hv0
  rw [List.map_append,List.map_cons,show enc (k,v0) = (hdV k,(enc (k,v0)).2) from Prod.ext (K.key _) rfl] at h
  obtain ⟨w',h1,h2,h3⟩:=h.put_old hd_keyed ht hk (enc (k,v)).2
  refine ⟨w',l1 ++ (k,v) :: l2,h1,?_,?_,h3⟩
  ·rw [List.map_append,List.map_cons,hkv];exact h2
  ·rw [hf];exact List.perm_middle
 ·have hn : ∀ x ∈ l,x.1 ≠ k:=fun x hx e => hin ⟨x.2,by rw [← e];exact hx⟩
  obtain ⟨w',h1,h2,h3⟩:=h.put_new hd_keyed ht hk (mh_ne K hn) (enc (k,v)).2
  refine ⟨w',l ++ [(k,v)],h1,?_,?_,h3⟩
  ·rw [List.map_append,List.map_cons,List.map_nil,hkv];exact h2
  ·rw [List.filter_eq_self.2 (fun x hx => by simpa using hn x hx)]
   exact List.perm_append_singleton _ _
end
section
variable {P : Program} {kt : TypeId} {w : World} {b r : Nat} {l todo : List (Value × Value)}
end
end Go.Proofs.YtoheblfpjinmnaaGreatDoor
namespace Go.Proofs.YtoheblfpjinmnaaGreatDoor
open Go Go.RowKit Go.Maps
attribute [local go_sem] AllFrom.cons_eq AllFrom.nil_eq putF_nil putF_cons wantedL_none wantedL_some OpGoalT OpGoalV OpGoalQ OpGoalA OpGoalK YieldsR preF_nil preF_cons
def bdPr (b : Bd) : Value × Value:=(hdV b.1,hdV b.2)
theorem bdPr_keys : HdKeys (β:=Hd) bdPr:=⟨fun _ => rfl⟩
structure RepF (w : World) (f : Nat) (B : List Bd) (F : List Nat) : Prop where
 ok : FamOk B
 r : ∀ b ∈ B,HdR b.1 ∧ HdR b.2
 at_ : ∃ (m : Nat) (l : List Bd),w.heap[f]? = some (.cells #[.map (some m)] 126 (0,0)) ∧ MapAt Tryz.prog 46 w m (l.map bdPr) ∧ l.Perm B ∧ F = [f,m] ∧ f ≠ m
theorem RepF.mod {w w' : World} {f : Nat} {B : List Bd} {F G : List Nat} (h : RepF w f B F) (hm : Mod G w w') (hd : ∀ y ∈ F,y ∉ G) : RepF w' f B F:=by
 obtain ⟨ho,hr,m,l,h1,h2,h3,rfl,h5⟩:=h
 exact ⟨ho,hr,m,l,hm.keep h1 (hd f (by simp)),h2.mod hm (hd m (by simp)),h3,rfl,h5⟩
theorem RepF.below {w w' : World} {f : Nat} {B : List Bd} {F : List Nat} (h : RepF w f B F) (hb : Below w.heap.size w w') : RepF w' f B F:=h.mod (Mod.ofBelow hb) (by simp)
theorem RepF.lt {w : World} {f : Nat} {B : List Bd} {F : List Nat} (h : RepF w f B F) : ∀ y ∈ F,y < w.heap.size:=by
 obtain ⟨ho,hr,m,l,h1,h2,h3,rfl,h5⟩:=h
 intro y hy
 simp only [List.mem_cons,List.not_mem_nil,or_false] at hy
 rcases hy with rfl | rfl
 ·exact blk_lt h1
 ·exact h2.lt
theorem MapAt.freshH {w' : World} {b : Nat} (h : w'.heap[b]? = some (.map #[] 0)) : MapAt Tryz.prog 46 w' b []:=⟨#[],0,h,⟨Go.MapKept.stamped_empty 0,by simp,rfl⟩⟩
def NewF (w : World) (e : Ending) (w' : World) : Prop:=∃ f F,e = .returned (.pointer (some ⟨f,0,none⟩)) ∧ RepF w' f [] F ∧ (∀ y ∈ F,w.heap.size ≤ y) ∧ Below w.heap.size w w'
set_option maxRecDepth 20000 in
theorem famNew_any (w : World) : Calls Tryz.prog 48 #[] w (NewF w):=by
 have hmm:=@run_makeMap Tryz.prog
 obtain ⟨w2,hw2⟩ : ∃ w2,(w.alloc (.map #[] 0)).alloc (.cells #[.map (some w.heap.size)] 126) = w2:=⟨_,rfl⟩
 have h0 : w2.heap[w.heap.size]? = some (.map #[] 0):=by rw [← hw2];exact blk_alloc (MapKept.heap_alloc w _).1 _
 have h1 : w2.heap[w.heap.size + 1]? = some (.cells #[.map (some w.heap.size)] 126 (0,0)):=by
  rw [← hw2];have:=heap_alloc_new (w.alloc (.map #[] 0)) (.cells #[.map (some w.heap.size)] 126);simpa using this
 have hb2 : Below w.heap.size w w2:=by rw [← hw2];exact ((Below.refl _ _).alloc (Nat.le_refl _) _).alloc (by simp) _
 obtain ⟨Hw2,H0,H1,Hb2⟩:=hid4 hw2 h0 h1 hb2
 clear hw2 h0 h1 hb2
 go_enter Tryz.func48,Tryz.ntmps48
 go_wp2
 go_ret
 rw [Hw2.out]
 refine ⟨w.heap.size + 1,[w.heap.size + 1,w.heap.size],rfl,⟨famOk_nil,by simp,w.heap.size,[],H1.out,MapAt.freshH H0.out,.refl _,rfl,by omega⟩,?_,Hb2.out⟩
 intro y hy
 simp only [List.mem_cons,List.not_mem_nil,or_false] at hy
 omega
section
variable {w : World} {f : Nat} {B : List Bd} {F : List Nat}
def parV (o : Option Hd) : Hd:=o.getD (0,0)
theorem RepF.look (h : RepF w f B F) : ∃ m,F = [f,m] ∧ (∀ W,Below w.heap.size w W → W.cell? ⟨f,0,none⟩ = some (.map (some m)) ∧ f < W.heap.size ∧ ∀ s g,HdR (s,g) →
  (Instr.lookup 124 (.map (some m)) (.agg #[.int .i64 s,.int .i64 g]) true).run Tryz.prog W = .ok (.tuple #[hdV (parV (parB B (s,g))),.bool (parB B (s,g)).isSome]) W):=by
 obtain ⟨ho,hr,m,l,h1,h2,h3,rfl,h5⟩:=h
 refine ⟨m,rfl,fun W hb => ?_⟩
 have hm:=Mod.ofBelow hb
 have h1':=hm.keep h1 (by simp)
 have h2':=h2.mod hm (by simp)
 have e0:=blk_cell h1' 0
 simp only [eA,eZ] at e0
 refine ⟨e0,blk_lt h1',fun s g hsg => ?_⟩
 rw [show (.agg #[.int .i64 s,.int .i64 g] : Value) = hdV (s,g) from rfl]
 cases hp : parB B (s,g) with
 | some p => exact mh_in bdPr_keys Tryz.underlying124 h2' hsg (h3.mem_iff.2 (parB_some hp)) true
 | none => exact mh_out bdPr_keys Tryz.underlying124 (Tryz.zeroValue46 _) h2' hsg (fun x hx => parB_none hp x (h3.mem_iff.1 hx)) true
def ParPost (o : Option Hd) (w : World) (e : Ending) (w' : World) : Prop:=e = .returned (.tuple #[hdV (parV o),.bool o.isSome]) ∧ Below w.heap.size w w'
set_option maxRecDepth 20000 in
set_option maxHeartbeats 4000000 in
theorem parent_any (h : RepF w f B F) (s g : Int) (hr : HdR (s,g)) : Calls Tryz.prog 50 #[.pointer (some ⟨f,0,none⟩),.agg #[.int .i64 s,.int .i64 g]] w (ParPost (parB B (s,g)) w):=by
 obtain ⟨m,-,hL⟩:=h.look
 obtain ⟨w0,hw0,hb0,hz0,hs0⟩:=box1 w (.cells #[.int .i64 s,.int .i64 g] 46)
 obtain ⟨w1,hw1,hb1,hz1,hs1⟩:=box1 w0 (.cells #[.int .i64 0,.int .i64 0] 46)
 have hz01:=(Mod.ofBelow hb1).keep hz0 (by simp)
 have hB1:=hb0.trans (hb1.mono hb0.size)
 have hL1:=fun W (hW : Below w1.heap.size w1 W) => (⟨(hL W (hB1.trans (hW.mono hB1.size))).1,(hL W (hB1.trans (hW.mono hB1.size))).2.1,(hL W (hB1.trans (hW.mono hB1.size))).2.2 s g hr⟩ : _ ∧ _ ∧ _)
 generalize parB B (s,g) = o at *
 unfold ParPost
 obtain ⟨⟨ps,pg⟩,hps⟩ : ∃ x,parV o = x:=⟨_,rfl⟩
 simp only [hdV,handleC,hps] at hL1 ⊢
 generalize o.isSome = bo at *
 obtain ⟨zl,hzl⟩ : ∃ zl,zl = ints [0,0]:=⟨_,rfl⟩
 obtain ⟨rl,hrl⟩ : ∃ rl,rl = ints [ps,pg]:=⟨_,rfl⟩
 obtain ⟨Hb0,Hs0,Hs1,HB1,HH,Hz,Hu,HL,Hzl,Hrl⟩:=hid10 hb0 hs0 hs1 hB1 hb1 hz01 hz1 hL1 hzl hrl
 clear hb0 hs0 hs1 hB1 hb1 hz01 hz1 hL1 hzl hrl
 clear hz0 hL h hps
 go_enter Tryz.func50,Tryz.ntmps50
 go_wp2_with fail
 clear hw0 hw1
 refine wp_planK [9] 11 [0] [some 9,some 10,some 11,some 12,some 13,some 14,some 8,some 15,some 16,some 6,none,some 7] [[],[0],[0,1],[0,1,2],[],[0,1,2,3,4],[0,1,2,3,4,5],[0,1,2,3,4,5,6],[0,1,2,3,4,5,6],[],[0,1,2,3,4,5,6,7,9],[0,1,2,3,4,5,6,7,8,9,10]] [0,1,2,3,4,5,6,7,8,9,10] (fun L σ V => IGet 9 10 w1 zl.toArray rl.toArray 46 L σ V) mixed rfl (by kernel_rfl) (by decide) (by decide) (by decide) (IGet.start (Below.refl _ _).drew) rfl ?_
 iterate 11 apply Exists.intro
 refine ⟨rfl,?_,?_⟩
 ·simp only [tS,List.take_zero,AllFrom.cons_eq,AllFrom.nil_eq,OpGoalK]
  refine ⟨?_,?_,?_,?_,?_,?_,?_,?_,?_,?_,?_,trivial⟩
  all_goals (intro L' σ V h1 h2 h3 hI hp;have HA1:=Lib.hid h1;have HA2:=Lib.hid h2;have HA3:=Lib.hid h3;clear h1 h2 h3;(try simp only [gZ,gS,preK_cons,preK_nil] at hp);(try simp only [List.mem_cons,List.not_mem_nil,or_false,eq_self,Nat.reduceEqDiff,Nat.reduceAdd,Nat.zero_add,false_or,true_or,true_and,and_true] at hp);(first | (have hq : True:=hp;clear hq hp) | skip);have HI:=Lib.hid hI;clear hI)
  all_goals (
   have hLV:=HL.out V HI.out.b
   have hc:=hLV.1;have hl:=hLV.2.1;have hk:=hLV.2.2
   have hzV:=(Mod.ofBelow HI.out.b).keep Hz.out (by simp)
   have q0:=blk_cell hzV 0
   have q1:=blk_cell hzV 1
   simp only [eA,eZ,eS] at q0 q1
   have ql:=blk_lt hzV
   clear hLV hzV)
  iterate 9 · (go_simp;exact ⟨.inr rfl,HI.out.read (by decide) (by decide) _⟩)
  ·go_simp
   have hmk:=HI.out.made (by decide) (HA3.out 10 (by decide))
   rw [Hzl.out] at hmk ⊢
   exact PostK.mk (c:=undef) (.inl (by decide)) hmk
  ·simp only [wantedL_none,if_true,Nat.reduceAdd,Nat.zero_add]
   have x3:=HA1.out
   simp only [Nat.reduceAdd,Nat.zero_add] at x3
   generalize hρ : Act.eval _ = ρ
   refine IGet.yr_stored HI.out (by decide) (HA2.out 9 (by decide)) x3 (by rw [Hzl.out,Hrl.out];rfl) 46 (.tmp 6) (.tmp 15) rfl ?_ ?_ (by rw [Hrl.out];kernel_rfl) (by rw [Hrl.out];exact ints_one _) (fun V' hV' => PostK.mk (c:=undef) (.inr rfl) hV')
   ·rw [← hρ]
    go_simp
   ·rw [← hρ]
    go_simp
    rw [Hrl.out]
    rfl
 ·intro L' σ V h1 hI hp
  obtain ⟨r,s9,hr,hst⟩:=hI.blk (h1 9 (by decide))
  rw [if_pos (h1 10 (by decide)),Hrl.out] at hst
  clear h1
  simp only [preK_cons,preK_nil,gZ,gS] at hp;simp only [List.mem_cons,List.not_mem_nil,or_false,eq_self,Nat.reduceEqDiff,false_or,true_or,true_and,and_true] at hp
  have HB:=Lib.hid hI.b
  have Hr:=Lib.hid hr
  have Hst:=Lib.hid hst
  clear hI hst hr
  simp only [dS,List.drop_zero]
  go_simp
  clear hp
  generalize σ 9 = v9 at *
  subst s9
  have hst : V.heap[r]? = some (.cells #[.int .i64 ps,.int .i64 pg] 46 (0,0)):=Hst.out
  have hu:=(Mod.ofBelow HB.out).keep Hu.out (by simp)
  have hr:=Hr.out
  have hs1:=Hs1.out
  have hs0:=Hs0.out
  have n1 : r ≠ w0.heap.size:=by omega
  have n2 : w0.heap.size ≠ r:=by omega
  have hle : w.heap.size ≤ w0.heap.size:=by omega
  obtain ⟨v0,v1,vl⟩:=cells2 hst
  obtain ⟨u0,u1,ul⟩:=cells2 hu
  have f0:=blk_free hu 0
  have f1:=blk_free hu 1
  have hBf : Below w.heap.size w V:=HB1.out.trans (HB.out.mono HB1.out.size)
  have HBf:=Lib.hid hBf
  clear hBf
  clear hst hu hr hs1 hs0
  go_wp2_with fail
  refine ⟨rfl,?_⟩
  go_wp2
  refine bodyPost_ret (v:=.tuple #[.agg #[.int .i64 ps,.int .i64 pg],.bool bo]) (by unfold results;try go_simp) rfl ?_
  refine ⟨rfl,?_⟩
  repeat (refine Below.setCell ?_ hle _)
  exact HBf.out
 all_goals exact undef
theorem RepF.upd {k p : Hd} (h : RepF w f B F) (hk : HdR k) (hp : HdR p) (ho' : FamOk (insB B (k,p))) : ∃ (m : Nat) (w' : World),F = [f,m] ∧ w.cell? ⟨f,0,none⟩ = some (.map (some m)) ∧ f < w.heap.size ∧
  (Instr.mapUpdate 124 (.map (some m)) (hdV k) (hdV p)).run Tryz.prog w = .ok () w' ∧ RepF w' f (insB B (k,p)) F ∧ Mod [m] w w':=by
 obtain ⟨ho,hr,m,l,h1,h2,h3,rfl,h5⟩:=h
 obtain ⟨w',l',a1,a2,a3,a4,-⟩:=mh_upd bdPr_keys Tryz.underlying124 h2 hk p
 have e0:=blk_cell h1 0
 simp only [eA,eZ] at e0
 refine ⟨m,w',rfl,e0,blk_lt h1,a1,⟨ho',fun b hb => ?_,m,_,a4.keep h1 (by simpa using h5),a2,?_,rfl,h5⟩,a4⟩
 ·rcases mem_insB.1 hb with rfl | ⟨hb,-⟩
  ·exact ⟨hk,hp⟩
  ·exact hr b hb
 ·exact a3.trans (((h3.filter _).cons _).trans (insB_perm B (k,p)).symm)
def FRet (B' : List Bd) (r : Value) (f : Nat) (F : List Nat) (w : World) (e : Ending) (w' : World) : Prop:=e = .returned r ∧ RepF w' f B' F ∧ Mod F w w'
end
end Go.Proofs.YtoheblfpjinmnaaGreatDoor
namespace Go.Proofs.YtoheblfpjinmnaaGreatDoor
open Go Go.RowKit Go.Shelf Go.Sort
section
variable {α : Type} [Inhabited α] {enc : α → List Value} {k : Nat}
end
end Go.Proofs.YtoheblfpjinmnaaGreatDoor
namespace Go.Proofs.YtoheblfpjinmnaaGreatDoor
open Go Go.RowKit Go.Shelf Go.Sort
attribute [local go_sem] AllFrom.cons_eq AllFrom.nil_eq putF_nil putF_cons wantedL_none wantedL_some OpGoalT OpGoalV OpGoalQ OpGoalA OpGoalK YieldsR preF_nil preF_cons
def Grown (W V : World) : Prop:=∃ q os,V = grow (W.drewN q) os
theorem Grown.refl (W : World) : Grown W W:=⟨0,#[],by rw [grow_empty];rfl⟩
theorem Grown.alloc {W V : World} (h : Grown W V) (o : Obj) : Grown W (V.alloc o):=by
 obtain ⟨q,os,rfl⟩:=h
 exact ⟨q,os ++ #[o],by rw [alloc_eq_grow,grow_grow]⟩
theorem Grown.drew {W V : World} (h : Grown W V) : Grown W V.drew:=by
 obtain ⟨q,os,rfl⟩:=h
 exact ⟨q + 1,os,rfl⟩
theorem Grown.trans {W V U : World} (h : Grown W V) (k : Grown V U) : Grown W U:=by
 obtain ⟨q,os,rfl⟩:=h
 obtain ⟨q',os',rfl⟩:=k
 exact ⟨q + q',os ++ os',by simp [grow,World.drewN,Array.append_assoc,Nat.add_assoc]⟩
def cmpH (a b : Hd) : Int:=if Lib.compareInt a.1 b.1 ≠ 0 then Lib.compareInt a.1 b.1 else Lib.compareInt a.2 b.2
theorem cmpH_lt (a b : Hd) : cmpH a b < 0 ↔ ltH a b = true:=by
 rw [ltH_iff]
 unfold cmpH Lib.compareInt
 repeat' split
 all_goals omega
set_option maxRecDepth 20000 in
theorem compareI_any (x y : Int) (w : World) : Calls Tryz.prog 75 #[.int .i64 x,.int .i64 y] w fun e w' => e = .returned (.int .i64 (Lib.compareInt x y)) ∧ w = w':=by
 unfold Lib.compareInt
 by_cases h1 : x < y
 ·rw [if_pos h1]
  go_enter Tryz.func75,Tryz.ntmps75
  go_wp2
  go_ret
  exact ⟨rfl,rfl⟩
 ·rw [if_neg h1]
  by_cases h2 : y < x
  ·rw [if_pos h2]
   go_enter Tryz.func75,Tryz.ntmps75
   go_wp2
   go_ret
   exact ⟨rfl,rfl⟩
  ·rw [if_neg h2]
   go_enter Tryz.func75,Tryz.ntmps75
   go_wp2
   go_ret
   exact ⟨rfl,rfl⟩
def orI (x y : Int) : Int:=if x ≠ 0 then x else y
set_option maxRecDepth 20000 in
theorem or_any (b : Nat) (x y : Int) (w : World) (h0 : w.cell? ⟨b,0,none⟩ = some (.int .i64 x)) (h1 : w.cell? ⟨b,1,none⟩ = some (.int .i64 y)) (hb : b < w.heap.size) :
  Calls Tryz.prog 74 #[.slice (some ⟨b,0,none⟩) 2 2] w fun e w' => e = .returned (.int .i64 (orI x y)) ∧ w = w':=by
 have h1' : x ≠ 0 → orI x y = x:=fun h => by unfold orI;rw [if_pos h]
 have h2' : x = 0 → orI x y = y:=fun h => by unfold orI;rw [if_neg (by simpa using h)]
 obtain ⟨H1,H2⟩:=hid2 h1' h2'
 clear h1' h2'
 generalize orI x y = r at *
 go_enter Tryz.func74,Tryz.ntmps74
 go_wp2_with fail
 go_loopw [8] (fun i wr => ∃ k : Nat,i = .int .i64 k ∧ k ≤ 2 ∧ (k ≠ 0 → x = 0) ∧ (k = 2 → y = 0) ∧ wr = w) (fun i _ => 2 - (Go.RowKit.intOf i).toNat)
 case atStart => exact ⟨0,rfl,by omega,by simp,by simp,rfl⟩
 case round =>
  obtain ⟨k,rfl,hk,hx,hy,rfl⟩:=hrel
  have h3 : k = 0 ∨ k = 1 ∨ k = 2:=by omega
  rcases h3 with rfl | rfl | rfl
  ·clear hx hy hk
   by_cases hx0 : x = 0
   ·go_wp2
    go_roundw
    case rel => exact ⟨1,rfl,by omega,fun _ => hx0,fun h => by omega,by first | rfl | trivial⟩
    case measure => simp [Go.RowKit.intOf]
   ·obtain rfl : r = x:=H1.out hx0
    clear H1 H2
    go_wp2
    go_ret
    exact ⟨rfl,by first | rfl | trivial⟩
  ·have hx0:=hx (by omega)
   clear hx hy hk
   by_cases hy0 : y = 0
   ·go_wp2
    go_roundw
    case rel => exact ⟨2,rfl,by omega,fun _ => hx0,fun _ => hy0,by first | rfl | trivial⟩
    case measure => simp [Go.RowKit.intOf]
   ·obtain rfl : r = y:=H2.out hx0
    clear H1 H2
    go_wp2
    go_ret
    exact ⟨rfl,by first | rfl | trivial⟩
  ·have hx0:=hx (by omega)
   have hy0:=hy rfl
   obtain rfl : r = 0:=(H2.out hx0).trans hy0
   clear hx hy hk H1 H2
   go_wp2
   go_ret
   exact ⟨rfl,by first | rfl | trivial⟩
def CmpPost (r : Int) (w : World) (e : Ending) (w' : World) : Prop:=e = .returned (.int .i64 r) ∧ Grown w w'
set_option maxRecDepth 20000 in
set_option maxHeartbeats 2000000 in
theorem cmpHd_any (s g t u : Int) (w : World) : Calls Tryz.prog 52 #[.agg #[.int .i64 s,.int .i64 g],.agg #[.int .i64 t,.int .i64 u]] w (CmpPost (cmpH (s,g) (t,u)) w):=by
 obtain ⟨w0,hw0,hb0,hz0,hs0⟩:=box1 w (.cells #[.int .i64 s,.int .i64 g] 46)
 obtain ⟨w1,hw1,hb1,hz1,hs1⟩:=box1 w0 (.cells #[.int .i64 t,.int .i64 u] 46)
 have hz01:=(Mod.ofBelow hb1).keep hz0 (by simp)
 have hG : Grown w w1:=by rw [← hw1,← hw0];exact ((Grown.refl w).alloc _).alloc _
 have hc1:=compareI_any s t
 have hc2:=compareI_any g u
 have hfin : cmpH (s,g) (t,u) = orI (Lib.compareInt s t) (Lib.compareInt g u):=rfl
 rw [hfin]
 generalize Lib.compareInt s t = c1 at *
 generalize Lib.compareInt g u = c2 at *
 obtain ⟨q0,q1,ql⟩:=cells2 hz01
 obtain ⟨u0,u1,ul⟩:=cells2 hz1
 obtain ⟨HC1,HC2,HG⟩:=hid3 hc1 hc2 hG
 clear hc1 hc2 hG
 clear hz0 hz01 hz1 hb0 hb1 hs0 hs1 hfin
 go_enter Tryz.func52,Tryz.ntmps52
 go_wp2_with fail
 clear hw0 hw1
 refine wp_planR 10 [] [some 5,some 6,some 7,some 8,some 9,some 10,some 11,some 12,some 13,some 14,some 15,some 16,some 4] [[],[0],[],[2],[0,1,2,3],[],[5],[],[7],[0,1,2,3,4,5,6,7,8],[0,1,2,3,4,5,6,7,8,9],[0,1,2,3,4,5,6,7,8,9,10],[0,1,2,3,4,5,6,7,8,9,10,11]] [0,1,2,3,4,5,6,7,8,9] mixed rfl (by kernel_rfl) (by decide) (by decide) rfl ?_
 iterate 10 apply Exists.intro
 refine ⟨rfl,?_,?_⟩
 ·simp only [tS,List.take_zero,AllFrom.cons_eq,AllFrom.nil_eq,OpGoalQ]
  refine ⟨?_,?_,?_,?_,?_,?_,?_,?_,?_,?_,trivial⟩
  all_goals (intro σ hp;(try simp only [gZ,gS,mC,mN,preF_cons,preF_nil,isV,and_true] at hp);(first | (have hq : True:=hp;clear hq hp) | skip))
  iterate 4 · (go_simp;exact ⟨rfl,rfl⟩)
  ·(go_simp;refine (HC1.out _).mono ?_;rintro e w' ⟨rfl,rfl⟩;exact ⟨_,rfl,rfl,rfl⟩)
  iterate 4 · (go_simp;exact ⟨rfl,rfl⟩)
  ·(go_simp;refine (HC2.out _).mono ?_;rintro e w' ⟨rfl,rfl⟩;exact ⟨_,rfl,rfl,rfl⟩)
 intro σ hp
 simp only [gZ,gS,mC,mN,preF_cons,preF_nil,isV,and_true] at hp
 simp only [dS,List.drop_zero]
 go_simp
 clear hp
 obtain ⟨w2,hw2,-,hz2,-⟩:=box1 w1.drew (.cells #[.int .i64 c1,.int .i64 c2] 3)
 have hG2 : Grown w w2:=by rw [← hw2];exact (HG.out.drew).alloc _
 have e0:=blk_cell hz2 0
 have e1:=blk_cell hz2 1
 simp only [eA,eZ,eS] at e0 e1
 have HOr:=Lib.hid (or_any _ c1 c2 w2 e0 e1 (blk_lt hz2))
 have HG2:=Lib.hid hG2
 clear hG2
 clear e0 e1 hz2
 go_wp2_with fail
 clear hw2
 refine HOr.out.mono ?_
 rintro e w' ⟨rfl,rfl⟩
 go_wp2
 refine ⟨rfl,?_⟩
 go_wp2
 go_ret
 exact ⟨rfl,HG2.out⟩
 all_goals exact undef
end Go.Proofs.YtoheblfpjinmnaaGreatDoor
namespace Go.Proofs.YtoheblfpjinmnaaGreatDoor
open Go Go.RowKit Go.Maps
attribute [local go_sem] AllFrom.cons_eq AllFrom.nil_eq putF_nil putF_cons wantedL_none wantedL_some OpGoalT OpGoalV OpGoalQ OpGoalA OpGoalK YieldsR preF_nil preF_cons
def BoolPost (r : Bool) (w : World) (e : Ending) (w' : World) : Prop:=e = .returned (.bool r) ∧ Below w.heap.size w w'
section
variable {w : World} {f : Nat} {B : List Bd} {F : List Nat}
theorem app_bond {w : World} {ops : Array Oper} {rest : List Oper} {o : Oper} {a : Act} {Q : Exit → Act → World → Prop} (hgd : o.guard = none) (s x : Operand)
  (ho : o.op = .call { callee:=.builtin .append,args:=#[s,x],argTypes:=#[24,24] }) (base : Nat) (v : Value) (l : List Bd) (y : Bd) (ad : Addr) (c : Nat)
  (hs : a.eval s = v) (hown : w.ownsRow base 55 4 v l.length (l.flatMap bdC)) (hx : a.eval x = .slice (some ad) 1 c) (hc : ∀ j u,(bdC y)[j]? = some u → w.cell? (ad.add j) = some u)
  (hlen : l.length < 4000000000000) (hbase : base ≤ w.heap.size)
  (h : ∀ v' w',w'.ownsRow base 55 4 v' (l ++ [y]).length ((l ++ [y]).flatMap bdC) → w.grownBy w' v.ownBlock → wpList Tryz.prog ops Q rest (a.put o.dst v') w') : wpList Tryz.prog ops Q (o :: rest) a w:=by
 refine app_rec (enc:=bdC) (n:=4) (bytes:=32) hgd s x 24 55 ho Tryz.underlying24 inf_Bond rfl (by omega) (by omega) bdC_one bdC_len base v l y ad c hs hown hx hc (by omega) hbase ?_
 intro v' w' h1 h2 _
 exact h v' w' h1 h2
end
end Go.Proofs.YtoheblfpjinmnaaGreatDoor
