import Derived.Test.YtfdillpofciicaaGreatDoorTopSavedJ17
import Derived.DeepKeys4
import Derived.Shelf.SlSortCmp.NoneTotal
set_option linter.unusedVariables false
set_option linter.unusedSimpArgs false
/- A part of the proof that TopSaved returns true. -/
namespace Go.Proofs.YtfdillpofciicaaGreatDoor
open Go Go.RowKit
variable {vB : Value}
attribute [local go_sem] AllFrom.cons_eq AllFrom.nil_eq putF_nil putF_cons wantedL_none wantedL_some OpGoalT OpGoalV OpGoalQ OpGoalK YieldsR preF_nil preF_cons
section
variable {w5 V V' : World} {l1 l2 : List Rw} {x : Rw} {L : Nat → Bool} {σ : Nat → Value}
end
section
variable {w : World} {q : Nat} {sl : Sl} {L : List Rw} {F : List Nat}
end
end Go.Proofs.YtfdillpofciicaaGreatDoor
namespace Go.Proofs.YtfdillpofciicaaGreatDoor
open Go Go.RowKit
structure Own (A : World → List Nat → Prop) : Prop where
 mod : ∀ {w w' : World} {F G : List Nat},A w F → Mod G w w' → (∀ y ∈ F,y ∉ G) → A w' F
 lt : ∀ {w : World} {F : List Nat},A w F → ∀ y ∈ F,y < w.heap.size
structure SepA (Lo : Nat) (Z : List Nat) (A B : World → List Nat → Prop) (w : World) (F G : List Nat) : Prop where
 a : A w F
 b : B w G
 d : ∀ y ∈ F,y ∉ G
 af : ∀ y ∈ F,Lo ≤ y ∧ y ∉ Z
 bf : ∀ y ∈ G,Lo ≤ y ∧ y ∉ Z
 lo : Lo ≤ w.heap.size
 zl : ∀ z ∈ Z,z < w.heap.size
def Sep (Lo : Nat) (Z : List Nat) (A B : World → List Nat → Prop) (w : World) : Prop:=∃ F G,SepA Lo Z A B w F G
def OwnPost (A' : World → List Nat → Prop) (F : List Nat) (w w' : World) : Prop:=∃ F',A' w' F' ∧ Turns w F F' w'
section
variable {Lo : Nat} {Z : List Nat} {A B A' B' : World → List Nat → Prop} {w w' : World}
theorem Sep.below (hA : Own A) (hB : Own B) (h : Sep Lo Z A B w) (hb : Below w.heap.size w w') : Sep Lo Z A B w' ∧ Below Lo w w' ∧ KeepZ Z w w':=by
 obtain ⟨F,G,⟨a,b,d,af,bf,lo,zl⟩⟩:=h
 have hs:=hb.size
 exact ⟨⟨F,G,⟨hA.mod a (Mod.ofBelow hb) (by simp),hB.mod b (Mod.ofBelow hb) (by simp),d,af,bf,by omega,fun z hz => by have:=zl z hz;omega⟩⟩,hb.mono lo,fun z hz _ ho => (Mod.ofBelow hb).keep ho (by simp)⟩
theorem SepA.left (hA : Own A') (hB : Own B) {F G : List Nat} (h : SepA Lo Z A B w F G) (hp : OwnPost A' F w w') : Sep Lo Z A' B w' ∧ Below Lo w w' ∧ KeepZ Z w w':=by
 obtain ⟨a,b,d,af,bf,lo,zl⟩:=h
 obtain ⟨F',h1,h2⟩:=hp
 have hs:=h2.mod.size
 have hl:=hB.lt b
 refine ⟨⟨F',G,⟨h1,hB.mod b h2.mod (fun y hy e => d y e hy),fun y hy e => ?_,fun y hy => ?_,bf,by omega,fun z hz => by have:=zl z hz;omega⟩⟩,h2.mod.toBelow (fun y hy => (af y hy).1) lo,fun z hz _ ho => h2.mod.keep ho (fun e => (af z e).2 hz)⟩
 ·rcases h2.new y hy with h | h
  ·exact d y h e
  ·have:=hl y e;omega
 ·rcases h2.new y hy with h | h
  ·exact af y h
  ·exact ⟨by omega,fun e => by have:=zl y e;omega⟩
theorem SepA.swap {F G : List Nat} (h : SepA Lo Z A B w F G) : SepA Lo Z B A w G F:=by
 obtain ⟨a,b,d,af,bf,lo,zl⟩:=h
 exact ⟨b,a,fun y hy e => d y e hy,bf,af,lo,zl⟩
theorem Sep.swap (h : Sep Lo Z A B w) : Sep Lo Z B A w:=by
 obtain ⟨F,G,h⟩:=h
 exact ⟨G,F,h.swap⟩
theorem SepA.right (hA : Own A) (hB : Own B') {F G : List Nat} (h : SepA Lo Z A B w F G) (hp : OwnPost B' G w w') : Sep Lo Z A B' w' ∧ Below Lo w w' ∧ KeepZ Z w w':=by
 obtain ⟨h1,h2⟩:=h.swap.left hB hA hp
 exact ⟨h1.swap,h2⟩
theorem Sep.fresh (hA : Own A) (hB : Own B) (h : Sep Lo Z A B w) (hb : Below w.heap.size w w') (z : Nat) (hz : w.heap.size ≤ z) (hz' : z < w'.heap.size) : Sep Lo (z :: Z) A B w':=by
 obtain ⟨F,G,⟨a,b,d,af,bf,lo,zl⟩⟩:=h
 have hs:=hb.size
 have l1:=hA.lt a
 have l2:=hB.lt b
 refine ⟨F,G,⟨hA.mod a (Mod.ofBelow hb) (by simp),hB.mod b (Mod.ofBelow hb) (by simp),d,fun y hy => ⟨(af y hy).1,fun e => ?_⟩,fun y hy => ⟨(bf y hy).1,fun e => ?_⟩,by omega,fun x hx => ?_⟩⟩
 ·rcases List.mem_cons.1 e with e | e
  ·have:=l1 y hy;omega
  ·exact (af y hy).2 e
 ·rcases List.mem_cons.1 e with e | e
  ·have:=l2 y hy;omega
  ·exact (bf y hy).2 e
 ·rcases List.mem_cons.1 hx with e | e
  ·omega
  ·have:=zl x e;omega
theorem Sep.drop (h : Sep Lo Z A B w) {Y : List Nat} (hY : ∀ y ∈ Y,y ∈ Z) : Sep Lo Y A B w:=by
 obtain ⟨F,G,⟨a,b,d,af,bf,lo,zl⟩⟩:=h
 exact ⟨F,G,⟨a,b,d,fun y hy => ⟨(af y hy).1,fun e => (af y hy).2 (hY y e)⟩,fun y hy => ⟨(bf y hy).1,fun e => (bf y hy).2 (hY y e)⟩,lo,fun z hz => zl z (hY z hz)⟩⟩
theorem Sep.callL {P : Program} {f : FuncId} {args : Array Value} {r : Value} (hA : Own A') (hB : Own B) (h : Sep Lo Z A B w) (hc : ∀ F,A w F → Calls P f args w (fun e w' => e = .returned r ∧ OwnPost A' F w w')) :
  Calls P f args w (fun e w' => e = .returned r ∧ Sep Lo Z A' B w' ∧ Below Lo w w' ∧ KeepZ Z w w'):=by
 obtain ⟨F,G,h⟩:=h
 exact (hc F h.a).mono fun e w' ⟨he,hp⟩ => ⟨he,h.left hA hB hp⟩
theorem Sep.callR {P : Program} {f : FuncId} {args : Array Value} {r : Value} (hA : Own A) (hB : Own B') (h : Sep Lo Z A B w) (hc : ∀ G,B w G → Calls P f args w (fun e w' => e = .returned r ∧ OwnPost B' G w w')) :
  Calls P f args w (fun e w' => e = .returned r ∧ Sep Lo Z A B' w' ∧ Below Lo w w' ∧ KeepZ Z w w'):=by
 obtain ⟨F,G,h⟩:=h
 exact (hc G h.b).mono fun e w' ⟨he,hp⟩ => ⟨he,h.right hA hB hp⟩
end
section
variable {vB : Value} {Lo : Nat} {Z : List Nat} {p q : Nat} {sl sl' : Sl} {L L' : List Rw} {w : World}
end
end Go.Proofs.YtfdillpofciicaaGreatDoor
namespace Go.Proofs.YtfdillpofciicaaGreatDoor
open Go Go.RowKit
attribute [local go_sem] AllFrom.cons_eq AllFrom.nil_eq putF_nil putF_cons wantedL_none wantedL_some OpGoalT OpGoalV OpGoalQ OpGoalA OpGoalK YieldsR preF_nil preF_cons
section
variable {a Lo : Nat} {Z : List Nat} {w0 : World} {S0 S1 : World → Prop} {L : Nat → Bool} {σ : Nat → Value} {V V' : World}
end
section
variable {vB : Value} {Lo : Nat} {Z : List Nat} {p q : Nat} {sl : Sl} {L : List Rw} {w : World}
end
end Go.Proofs.YtfdillpofciicaaGreatDoor
namespace Go.Proofs.YtfdillpofciicaaGreatDoor
open Go Go.RowKit Go.Maps
def HdR (h : Hd) : Prop:=InR h.1 ∧ InR h.2
def hdV (h : Hd) : Value:=.agg (handleC h).toArray
theorem hdV_inj {a b : Hd} (h : hdV a = hdV b) : a = b:=by
 have h1 : (handleC a).toArray = (handleC b).toArray:=Value.agg.inj h
 have h2 : handleC a = handleC b:=by simpa using congrArg Array.toList h1
 unfold handleC at h2
 simp only [List.cons.injEq,Value.int.injEq,true_and,and_true] at h2
 exact Prod.ext h2.1 h2.2
theorem hd_keyed : Keyed Tryz.prog 47 :=
 Keyed.of_law (deep_law_laid laid_ (m:=3) (by decide) (of_decide_eq_true (by kernel_rfl)) (by kernel_rfl) (by rw [Tryz.underlying47]))
theorem wf_of_inR {z : Int} (h : InR z) : (Lit.int .i64 z).wf = true:=by
 unfold InR at h
 simp [Lit.wf,IntKind.min,IntKind.max,IntKind.bits,IntKind.signed]
 omega
theorem hd_lits (s g : Int) (hs : InR s) (hg : InR g) (d : Nat) : Tryz.prog.keyLits (d + 2) 47 [.int .i64 s,.int .i64 g] = some [.int .i64 s,.int .i64 g]:=by
 have h1 : ∀ z : Int,InR z → Tryz.prog.keyLits (d + 1) 3 [.int .i64 z] = some [.int .i64 z]:=fun z hz => by
  unfold Program.keyLits
  rw [Tryz.underlying3]
  simp [wf_of_inR hz]
 unfold Program.keyLits
 rw [Tryz.underlying47]
 simp only []
 have hc : Tryz.prog.cellsOf 3 = 1:=by kernel_rfl
 have hC : Tryz.prog.cellsOf 47 = 2:=by kernel_rfl
 simp [hc,hC,h1 s hs,h1 g hg]
theorem hd_key {h : Hd} (hr : HdR h) : ∃ kl,keyOf Tryz.prog 47 (hdV h) = some kl:=by
 obtain ⟨s,g⟩:=h
 have h1 : (Tryz.prog.keyType 47 && (hdV (s,g)).formed Tryz.prog 47) = true:=by kernel_rfl
 obtain ⟨d,hd⟩ : ∃ d,Tryz.prog.types.size + 1 = d + 2:=⟨Tryz.prog.types.size - 1,by have : 0 < Tryz.prog.types.size:=of_decide_eq_true (by kernel_rfl);omega⟩
 unfold keyOf
 rw [Tryz.underlying47]
 simp only [h1,if_true]
 rw [hd,show (hdV (s,g)).cells.toList = [.int .i64 s,.int .i64 g] from rfl,hd_lits s g hr.1 hr.2]
 exact ⟨_,rfl⟩
structure HdKeys {β : Type} (enc : Hd × β → Value × Value) : Prop where
 key : ∀ x,(enc x).1 = hdV x.1
section
variable {β : Type} {enc : Hd × β → Value × Value} {w : World} {b : Nat} {l : List (Hd × β)} {t e : TypeId} {k : Hd}
theorem mh_apart (K : HdKeys enc) (h : MapAt Tryz.prog 47 w b (l.map enc)) : l.Pairwise (fun x y => x.1 ≠ y.1):=by
 obtain ⟨es,clock,-,hok⟩:=h
 have:=hok.apart
 rw [List.pairwise_map] at this
 exact this.imp fun {x y} hne e => hne (by rw [K.key,K.key,e])
theorem mh_ne (K : HdKeys enc) (hn : ∀ x ∈ l,x.1 ≠ k) : ∀ p ∈ l.map enc,p.1 ≠ hdV k:=by
 intro p hp e
 obtain ⟨x,hx,rfl⟩:=List.mem_map.1 hp
 rw [K.key] at e
 exact hn x hx (hdV_inj e)
theorem mh_in (K : HdKeys enc) (ht : Tryz.prog.underlying t = some (.map 47 e)) (h : MapAt Tryz.prog 47 w b (l.map enc)) (hr : HdR k) {v : β} (hm : (k,v) ∈ l) (c : Bool) :
  (Instr.lookup t (.map (some b)) (hdV k) c).run Tryz.prog w = .ok (if c then .tuple #[(enc (k,v)).2,.bool true] else (enc (k,v)).2) w:=by
 obtain ⟨kl,hk⟩:=hd_key hr
 refine h.look_in hd_keyed ht hk ?_ c
 have : enc (k,v) ∈ l.map enc:=List.mem_map.2 ⟨_,hm,rfl⟩
 rw [show enc (k,v) = (hdV k,(enc (k,v)).2) from Prod.ext (K.key _) rfl] at this
 exact this
theorem mh_out (K : HdKeys enc) (ht : Tryz.prog.underlying t = some (.map 47 e)) {z : Value} (hz : (zeroValue e).run Tryz.prog w = .ok z w) (h : MapAt Tryz.prog 47 w b (l.map enc)) (hr : HdR k) (hn : ∀ x ∈ l,x.1 ≠ k) (c : Bool) :
  (Instr.lookup t (.map (some b)) (hdV k) c).run Tryz.prog w = .ok (if c then .tuple #[z,.bool false] else z) w:=by
 obtain ⟨kl,hk⟩:=hd_key hr
 exact h.look_out hd_keyed ht hz hk (mh_ne K hn) c
theorem mh_split (h : l.Pairwise (fun x y => x.1 ≠ y.1)) {v : β} (hm : (k,v) ∈ l) : ∃ l1 l2,l = l1 ++ (k,v) :: l2 ∧ l.filter (fun x => decide (x.1 ≠ k)) = l1 ++ l2:=by
 obtain ⟨l1,l2,rfl⟩:=List.append_of_mem hm
 refine ⟨l1,l2,rfl,?_⟩
 rw [List.pairwise_append,List.pairwise_cons] at h
 obtain ⟨-,⟨h2,-⟩,h3⟩:=h
 rw [List.filter_append,List.filter_cons]
 simp only [ne_eq,not_true,decide_false,Bool.false_eq_true,if_false]
 congr 1
 ·exact List.filter_eq_self.2 fun x hx => by simpa using h3 x hx (k,v) (by simp)
 ·exact List.filter_eq_self.2 fun x hx => by simpa using (h2 x hx).symm
theorem mh_upd (K : HdKeys enc) (ht : Tryz.prog.underlying t = some (.map 47 e)) (h : MapAt Tryz.prog 47 w b (l.map enc)) (hr : HdR k) (v : β) :
  ∃ (w' : World) (l' : List (Hd × β)),(Instr.mapUpdate t (.map (some b)) (hdV k) (enc (k,v)).2).run Tryz.prog w = .ok () w' ∧ MapAt Tryz.prog 47 w' b (l'.map enc) ∧ l'.Perm ((k,v) :: l.filter (fun x => decide (x.1 ≠ k))) ∧ Mod [b] w w' ∧ w'.heap.size = w.heap.size:=by
 obtain ⟨kl,hk⟩:=hd_key hr
 have hap:=mh_apart K h
 have hkv : enc (k,v) = (hdV k,(enc (k,v)).2):=Prod.ext (K.key _) rfl
 by_cases hin : ∃ v0,(k,v0) ∈ l
 ·obtain ⟨v0,hv0⟩:=hin
  obtain ⟨l1,l2,rfl,hf⟩:=mh_split hap hv0
  rw [List.map_append,List.map_cons,show enc (k,v0) = (hdV k,(enc (k,v0)).2) from Prod.ext (K.key _) rfl] at h
  obtain ⟨w',h1,h2,h3⟩:=h.put_old hd_keyed ht hk (enc (k,v)).2
  refine ⟨w',l1 ++ (k,v) :: l2,h1,?_,?_,h3⟩
  ·rw [List.map_append,List.map_cons,hkv];exact h2
  ·rw [hf];exact List.perm_middle
 ·have hn : ∀ x ∈ l,x.1 ≠ k:=fun x hx e => hin ⟨x.2,by rw [← e];exact hx⟩
  obtain ⟨w',h1,h2,h3⟩:=h.put_new hd_keyed ht hk (mh_ne K hn) (enc (k,v)).2
  refine ⟨w',l ++ [(k,v)],h1,?_,?_,h3⟩
  ·rw [List.map_append,List.map_cons,List.map_nil,hkv];exact h2
  ·rw [List.filter_eq_self.2 (fun x hx => by simpa using hn x hx)]
   exact List.perm_append_singleton _ _
theorem mh_del {ty : TypeId} (K : HdKeys enc) (ht : Tryz.prog.underlying t = some (.map 47 e)) (h : MapAt Tryz.prog 47 w b (l.map enc)) (hr : HdR k) {v0 : β} (hm : (k,v0) ∈ l) :
  ∃ (w' : World) (l' : List (Hd × β)),(Builtin.delete_ #[t,47] ty #[.map (some b),hdV k]).run Tryz.prog w = .ok (.tuple #[]) w' ∧ MapAt Tryz.prog 47 w' b (l'.map enc) ∧ l' = l.filter (fun x => decide (x.1 ≠ k)) ∧ Mod [b] w w' ∧ w'.heap.size = w.heap.size:=by
 obtain ⟨kl,hk⟩:=hd_key hr
 obtain ⟨l1,l2,rfl,hf⟩:=mh_split (mh_apart K h) hm
 rw [List.map_append,List.map_cons,show enc (k,v0) = (hdV k,(enc (k,v0)).2) from Prod.ext (K.key _) rfl] at h
 obtain ⟨w',h1,h2,h3⟩:=h.del_in (ty:=ty) hd_keyed ht hk
 exact ⟨w',l1 ++ l2,h1,by rw [List.map_append];exact h2,hf.symm,h3⟩
end
section
variable {P : Program} {kt : TypeId} {w : World} {b r : Nat} {l todo : List (Value × Value)}
theorem RangeAt.map (h : RangeAt P kt w b r l todo) : MapAt P kt w b l:=by
 obtain ⟨es,clock,since,seen,c0,h1,h2,-⟩:=h
 exact ⟨es,clock,h1,h2⟩
theorem RangeAt.ne (h : RangeAt P kt w b r l todo) : b ≠ r:=by
 obtain ⟨es,clock,since,seen,c0,h1,h2,h3,-⟩:=h
 rintro rfl;rw [h1] at h3;cases h3
theorem filter_erase {α : Type} (q : α → Bool) : ∀ (l : List α) (j : Nat) (x : α),l[j]? = some x → q x = false → (l.eraseIdx j).filter q = l.filter q
 | [],j,x,h,_ => by simp at h
 | y :: l,0,x,h,hq => by
  simp only [eZ,Option.some.injEq] at h
  subst h
  simp [hq]
 | y :: l,j + 1,x,h,hq => by
  simp only [eS] at h
  rw [List.eraseIdx_cons_succ,List.filter_cons,List.filter_cons,filter_erase q l j x h hq]
theorem RangeAt.del {t e ty : TypeId} {key : Value} {kl : Lit} (K : Keyed P kt) (ht : P.underlying t = some (.map kt e)) {l1 l2 : List (Value × Value)} {v0 : Value} (h : RangeAt P kt w b r (l1 ++ (key,v0) :: l2) todo) (hkey : keyOf P kt key = some kl) (hn : (key,v0) ∉ todo) :
  ∃ w',(Builtin.delete_ #[t,kt] ty #[.map (some b),key]).run P w = .ok (.tuple #[]) w' ∧ RangeAt P kt w' b r (l1 ++ l2) todo ∧ Mod [b] w w' ∧ w'.heap.size = w.heap.size:=by
 have hbr:=h.ne
 obtain ⟨es,clock,since,seen,c0,hb,hok,h3,h4,h5,h7,h6⟩:=h
 rcases K.find w hkey es.toList hok.keys with ⟨_,h2⟩ | ⟨j,e0,f1,f2,f3⟩
 ·have hv : (key,v0) ∈ prs es:=by rw [hok.prs];simp
  obtain ⟨x,hx,hx2⟩:=List.mem_map.1 hv
  exact absurd (congrArg Prod.fst hx2) (h2 x hx)
 ·obtain ⟨rfl,hv0⟩:=split_at hok f2 f3
  have hjs : l1.length < es.size:=by have:=(List.getElem?_eq_some_iff.1 f2).1;simpa using this
  have hsub : (es.eraseIdxIfInBounds l1.length).toList = es.toList.eraseIdx l1.length:=by
   unfold Array.eraseIdxIfInBounds
   rw [dif_pos hjs]
   simp
  have hseen : (!seen.contains e0.born) = false:=by
   cases hq : (!seen.contains e0.born) with
   | false => rfl
   | true =>
    refine absurd ?_ hn
    rw [← h6]
    refine List.mem_map.2 ⟨e0,?_,by rw [f3,hv0]⟩
    unfold leftOf
    rw [Array.toList_filter]
    exact List.mem_filter.2 ⟨List.mem_of_getElem? f2,hq⟩
  refine ⟨ChangeMaps.setBlock w b (.map (es.eraseIdxIfInBounds l1.length) clock),?_,⟨_,clock,since,seen,c0,setBlock_same hb,⟨MapKept.stamped_erase hok.st _,?_,?_⟩,?_,?_,h5,h7,?_⟩,setBlock_mod _ _ _,setBlock_size _ _ _⟩
  ·simp [Builtin.delete_,run_underlying ht,MapKept.run_getObj_map hb,K.check w _ hkey,f1,MapKept.run_setObj_map _ hb,Result.andThen,ChangeMaps.setBlock]
  ·intro x hx
   rw [hsub] at hx
   exact hok.keys x ((List.eraseIdx_sublist _ _).subset hx)
  ·have:=hok.prs
   unfold prs at this ⊢
   rw [hsub,ChangeMaps.map_eraseIdx,this,List.eraseIdx_append_of_length_le (Nat.le_refl _),Nat.sub_self]
   rfl
  ·rw [setBlock_ne (Ne.symm hbr)];exact h3
  ·intro x hx
   rw [hsub] at hx
   exact h4 x ((List.eraseIdx_sublist _ _).subset hx)
  ·rw [← h6]
   unfold prs leftOf
   rw [Array.toList_filter,Array.toList_filter,hsub,filter_erase _ _ _ e0 f2 hseen]
theorem RangeAt.nextE {α : Type} {enc : α → Value × Value} {ts : List α} (h : RangeAt P kt w b r l (ts.map enc)) (hne : ts ≠ []) :
  ∃ t1 x t2 w',ts = t1 ++ x :: t2 ∧ (∀ ty,(Instr.next (.pointer (some ⟨r,0,none⟩)) false ty).run P w = .ok (.tuple #[.bool true,(enc x).1,(enc x).2]) w') ∧
   (Instr.entry (.pointer (some ⟨r,0,none⟩))).run P w' = .ok (.tuple #[(enc x).1,(enc x).2]) w' ∧ enc x ∈ l ∧ RangeAt P kt w' b r l ((t1 ++ t2).map enc) ∧ Mod [r] w w' ∧ w'.heap.size = w.heap.size:=by
 obtain ⟨t1,p,t2,w',he,hp,hn,hen,hr,hm,hs⟩:=h.next (by simpa using hne) 0
 obtain ⟨a,c,rfl,rfl,hc⟩:=List.map_eq_append_iff.1 he
 obtain ⟨x,t,rfl,rfl,rfl⟩:=List.map_eq_cons_iff.1 hc
 refine ⟨a,x,t,w',rfl,fun ty => ?_,hen,hp,by rw [List.map_append];exact hr,hm,hs⟩
 have : (Instr.next (.pointer (some ⟨r,0,none⟩)) false ty) = (Instr.next (.pointer (some ⟨r,0,none⟩)) false 0):=rfl
 rw [this];exact hn
end
end Go.Proofs.YtfdillpofciicaaGreatDoor
namespace Go.Proofs.YtfdillpofciicaaGreatDoor
open Go Go.RowKit Go.Maps
attribute [local go_sem] AllFrom.cons_eq AllFrom.nil_eq putF_nil putF_cons wantedL_none wantedL_some OpGoalT OpGoalV OpGoalQ OpGoalA OpGoalK YieldsR preF_nil preF_cons
def bdPr (b : Bd) : Value × Value:=(hdV b.1,hdV b.2)
theorem bdPr_keys : HdKeys (β:=Hd) bdPr:=⟨fun _ => rfl⟩
structure RepF (w : World) (f : Nat) (B : List Bd) (F : List Nat) : Prop where
 ok : FamOk B
 r : ∀ b ∈ B,HdR b.1 ∧ HdR b.2
 at_ : ∃ (m : Nat) (l : List Bd),w.heap[f]? = some (.cells #[.map (some m)] 169 (0,0)) ∧ MapAt Tryz.prog 47 w m (l.map bdPr) ∧ l.Perm B ∧ F = [f,m] ∧ f ≠ m
theorem RepF.mod {w w' : World} {f : Nat} {B : List Bd} {F G : List Nat} (h : RepF w f B F) (hm : Mod G w w') (hd : ∀ y ∈ F,y ∉ G) : RepF w' f B F:=by
 obtain ⟨ho,hr,m,l,h1,h2,h3,rfl,h5⟩:=h
 exact ⟨ho,hr,m,l,hm.keep h1 (hd f (by simp)),h2.mod hm (hd m (by simp)),h3,rfl,h5⟩
theorem RepF.below {w w' : World} {f : Nat} {B : List Bd} {F : List Nat} (h : RepF w f B F) (hb : Below w.heap.size w w') : RepF w' f B F:=h.mod (Mod.ofBelow hb) (by simp)
theorem RepF.lt {w : World} {f : Nat} {B : List Bd} {F : List Nat} (h : RepF w f B F) : ∀ y ∈ F,y < w.heap.size:=by
 obtain ⟨ho,hr,m,l,h1,h2,h3,rfl,h5⟩:=h
 intro y hy
 simp only [List.mem_cons,List.not_mem_nil,or_false] at hy
 rcases hy with rfl | rfl
 ·exact blk_lt h1
 ·exact h2.lt
theorem MapAt.freshH {w' : World} {b : Nat} (h : w'.heap[b]? = some (.map #[] 0)) : MapAt Tryz.prog 47 w' b []:=⟨#[],0,h,⟨Go.MapKept.stamped_empty 0,by simp,rfl⟩⟩
def NewF (w : World) (e : Ending) (w' : World) : Prop:=∃ f F,e = .returned (.pointer (some ⟨f,0,none⟩)) ∧ RepF w' f [] F ∧ (∀ y ∈ F,w.heap.size ≤ y) ∧ Below w.heap.size w w'
set_option maxRecDepth 20000 in
theorem famNew_any (w : World) : Calls Tryz.prog 48 #[] w (NewF w):=by
 have hmm:=@run_makeMap Tryz.prog
 obtain ⟨w2,hw2⟩ : ∃ w2,(w.alloc (.map #[] 0)).alloc (.cells #[.map (some w.heap.size)] 169) = w2:=⟨_,rfl⟩
 have h0 : w2.heap[w.heap.size]? = some (.map #[] 0):=by rw [← hw2];exact blk_alloc (MapKept.heap_alloc w _).1 _
 have h1 : w2.heap[w.heap.size + 1]? = some (.cells #[.map (some w.heap.size)] 169 (0,0)):=by
  rw [← hw2];have:=heap_alloc_new (w.alloc (.map #[] 0)) (.cells #[.map (some w.heap.size)] 169);simpa using this
 have hb2 : Below w.heap.size w w2:=by rw [← hw2];exact ((Below.refl _ _).alloc (Nat.le_refl _) _).alloc (by simp) _
 obtain ⟨Hw2,H0,H1,Hb2⟩:=hid4 hw2 h0 h1 hb2
 clear hw2 h0 h1 hb2
 go_enter Tryz.func48,Tryz.ntmps48
 go_wp2
 go_ret
 rw [Hw2.out]
 refine ⟨w.heap.size + 1,[w.heap.size + 1,w.heap.size],rfl,⟨famOk_nil,by simp,w.heap.size,[],H1.out,MapAt.freshH H0.out,.refl _,rfl,by omega⟩,?_,Hb2.out⟩
 intro y hy
 simp only [List.mem_cons,List.not_mem_nil,or_false] at hy
 omega
section
variable {w : World} {f : Nat} {B : List Bd} {F : List Nat}
def parV (o : Option Hd) : Hd:=o.getD (0,0)
theorem RepF.look (h : RepF w f B F) : ∃ m,F = [f,m] ∧ (∀ W,Below w.heap.size w W → W.cell? ⟨f,0,none⟩ = some (.map (some m)) ∧ f < W.heap.size ∧ ∀ s g,HdR (s,g) →
  (Instr.lookup 167 (.map (some m)) (.agg #[.int .i64 s,.int .i64 g]) true).run Tryz.prog W = .ok (.tuple #[hdV (parV (parB B (s,g))),.bool (parB B (s,g)).isSome]) W):=by
 obtain ⟨ho,hr,m,l,h1,h2,h3,rfl,h5⟩:=h
 refine ⟨m,rfl,fun W hb => ?_⟩
 have hm:=Mod.ofBelow hb
 have h1':=hm.keep h1 (by simp)
 have h2':=h2.mod hm (by simp)
 have e0:=blk_cell h1' 0
 simp only [eA,eZ] at e0
 refine ⟨e0,blk_lt h1',fun s g hsg => ?_⟩
 rw [show (.agg #[.int .i64 s,.int .i64 g] : Value) = hdV (s,g) from rfl]
 cases hp : parB B (s,g) with
 | some p => exact mh_in bdPr_keys Tryz.underlying167 h2' hsg (h3.mem_iff.2 (parB_some hp)) true
 | none => exact mh_out bdPr_keys Tryz.underlying167 (Tryz.zeroValue47 _) h2' hsg (fun x hx => parB_none hp x (h3.mem_iff.1 hx)) true
def ParPost (o : Option Hd) (w : World) (e : Ending) (w' : World) : Prop:=e = .returned (.tuple #[hdV (parV o),.bool o.isSome]) ∧ Below w.heap.size w w'
set_option maxRecDepth 20000 in
set_option maxHeartbeats 4000000 in
theorem parent_any (h : RepF w f B F) (s g : Int) (hr : HdR (s,g)) : Calls Tryz.prog 50 #[.pointer (some ⟨f,0,none⟩),.agg #[.int .i64 s,.int .i64 g]] w (ParPost (parB B (s,g)) w):=by
 obtain ⟨m,-,hL⟩:=h.look
 obtain ⟨w0,hw0,hb0,hz0,hs0⟩:=box1 w (.cells #[.int .i64 s,.int .i64 g] 47)
 obtain ⟨w1,hw1,hb1,hz1,hs1⟩:=box1 w0 (.cells #[.int .i64 0,.int .i64 0] 47)
 have hz01:=(Mod.ofBelow hb1).keep hz0 (by simp)
 have hB1:=hb0.trans (hb1.mono hb0.size)
 have hL1:=fun W (hW : Below w1.heap.size w1 W) => (⟨(hL W (hB1.trans (hW.mono hB1.size))).1,(hL W (hB1.trans (hW.mono hB1.size))).2.1,(hL W (hB1.trans (hW.mono hB1.size))).2.2 s g hr⟩ : _ ∧ _ ∧ _)
 generalize parB B (s,g) = o at *
 unfold ParPost
 obtain ⟨⟨ps,pg⟩,hps⟩ : ∃ x,parV o = x:=⟨_,rfl⟩
 simp only [hdV,handleC,hps] at hL1 ⊢
 generalize o.isSome = bo at *
 obtain ⟨zl,hzl⟩ : ∃ zl,zl = ints [0,0]:=⟨_,rfl⟩
 obtain ⟨rl,hrl⟩ : ∃ rl,rl = ints [ps,pg]:=⟨_,rfl⟩
 obtain ⟨Hb0,Hs0,Hs1,HB1,HH,Hz,Hu,HL,Hzl,Hrl⟩:=hid10 hb0 hs0 hs1 hB1 hb1 hz01 hz1 hL1 hzl hrl
 clear hb0 hs0 hs1 hB1 hb1 hz01 hz1 hL1 hzl hrl
 clear hz0 hL h hps
 go_enter Tryz.func50,Tryz.ntmps50
 go_wp2_with fail
 clear hw0 hw1
 refine wp_planK [9] 11 [0] [some 9,some 10,some 11,some 12,some 13,some 14,some 8,some 15,some 16,some 6,none,some 7] [[],[0],[0,1],[0,1,2],[],[0,1,2,3,4],[0,1,2,3,4,5],[0,1,2,3,4,5,6],[0,1,2,3,4,5,6],[],[0,1,2,3,4,5,6,7,9],[0,1,2,3,4,5,6,7,8,9,10]] [0,1,2,3,4,5,6,7,8,9,10] (fun L σ V => IGet 9 10 w1 zl.toArray rl.toArray 47 L σ V) mixed rfl (by kernel_rfl) (by decide) (by decide) (by decide) (IGet.start (Below.refl _ _).drew) rfl ?_
 iterate 11 apply Exists.intro
 refine ⟨rfl,?_,?_⟩
 ·simp only [tS,List.take_zero,AllFrom.cons_eq,AllFrom.nil_eq,OpGoalK]
  refine ⟨?_,?_,?_,?_,?_,?_,?_,?_,?_,?_,?_,trivial⟩
  all_goals (intro L' σ V h1 h2 h3 hI hp;have HA1:=Lib.hid h1;have HA2:=Lib.hid h2;have HA3:=Lib.hid h3;clear h1 h2 h3;(try simp only [gZ,gS,preK_cons,preK_nil] at hp);(try simp only [List.mem_cons,List.not_mem_nil,or_false,eq_self,Nat.reduceEqDiff,Nat.reduceAdd,Nat.zero_add,false_or,true_or,true_and,and_true] at hp);(first | (have hq : True:=hp;clear hq hp) | skip);have HI:=Lib.hid hI;clear hI)
  all_goals (
   have hLV:=HL.out V HI.out.b
   have hc:=hLV.1;have hl:=hLV.2.1;have hk:=hLV.2.2
   have hzV:=(Mod.ofBelow HI.out.b).keep Hz.out (by simp)
   have q0:=blk_cell hzV 0
   have q1:=blk_cell hzV 1
   simp only [eA,eZ,eS] at q0 q1
   have ql:=blk_lt hzV
   clear hLV hzV)
  iterate 9 · (go_simp;exact ⟨.inr rfl,HI.out.read (by decide) (by decide) _⟩)
  ·go_simp
   have hmk:=HI.out.made (by decide) (HA3.out 10 (by decide))
   rw [Hzl.out] at hmk ⊢
   exact PostK.mk (c:=undef) (.inl (by decide)) hmk
  ·simp only [wantedL_none,if_true,Nat.reduceAdd,Nat.zero_add]
   have x3:=HA1.out
   simp only [Nat.reduceAdd,Nat.zero_add] at x3
   generalize hρ : Act.eval _ = ρ
   refine IGet.yr_stored HI.out (by decide) (HA2.out 9 (by decide)) x3 (by rw [Hzl.out,Hrl.out];rfl) 47 (.tmp 6) (.tmp 15) rfl ?_ ?_ (by rw [Hrl.out];kernel_rfl) (by rw [Hrl.out];exact ints_one _) (fun V' hV' => PostK.mk (c:=undef) (.inr rfl) hV')
   ·rw [← hρ]
    go_simp
   ·rw [← hρ]
    go_simp
    rw [Hrl.out]
    rfl
 ·intro L' σ V h1 hI hp
  obtain ⟨r,s9,hr,hst⟩:=hI.blk (h1 9 (by decide))
  rw [if_pos (h1 10 (by decide)),Hrl.out] at hst
  clear h1
  simp only [preK_cons,preK_nil,gZ,gS] at hp;simp only [List.mem_cons,List.not_mem_nil,or_false,eq_self,Nat.reduceEqDiff,false_or,true_or,true_and,and_true] at hp
  have HB:=Lib.hid hI.b
  have Hr:=Lib.hid hr
  have Hst:=Lib.hid hst
  clear hI hst hr
  simp only [dS,List.drop_zero]
  go_simp
  clear hp
  generalize σ 9 = v9 at *
  subst s9
  have hst : V.heap[r]? = some (.cells #[.int .i64 ps,.int .i64 pg] 47 (0,0)):=Hst.out
  have hu:=(Mod.ofBelow HB.out).keep Hu.out (by simp)
  have hr:=Hr.out
  have hs1:=Hs1.out
  have hs0:=Hs0.out
  have n1 : r ≠ w0.heap.size:=by omega
  have n2 : w0.heap.size ≠ r:=by omega
  have hle : w.heap.size ≤ w0.heap.size:=by omega
  obtain ⟨v0,v1,vl⟩:=cells2 hst
  obtain ⟨u0,u1,ul⟩:=cells2 hu
  have f0:=blk_free hu 0
  have f1:=blk_free hu 1
  have hBf : Below w.heap.size w V:=HB1.out.trans (HB.out.mono HB1.out.size)
  have HBf:=Lib.hid hBf
  clear hBf
  clear hst hu hr hs1 hs0
  go_wp2_with fail
  refine ⟨rfl,?_⟩
  go_wp2
  refine bodyPost_ret (v:=.tuple #[.agg #[.int .i64 ps,.int .i64 pg],.bool bo]) (by unfold results;try go_simp) rfl ?_
  refine ⟨rfl,?_⟩
  repeat (refine Below.setCell ?_ hle _)
  exact HBf.out
 all_goals exact undef
theorem RepF.del {k p : Hd} (h : RepF w f B F) (hm : (k,p) ∈ B) (ty : TypeId) : ∃ (m : Nat) (w' : World),F = [f,m] ∧ w.cell? ⟨f,0,none⟩ = some (.map (some m)) ∧ f < w.heap.size ∧
  (Builtin.delete_ #[167,47] ty #[.map (some m),hdV k]).run Tryz.prog w = .ok (.tuple #[]) w' ∧ RepF w' f (outB B k) F ∧ Mod [m] w w':=by
 obtain ⟨ho,hr,m,l,h1,h2,h3,rfl,h5⟩:=h
 obtain ⟨w',l',a1,a2,rfl,a4,-⟩:=mh_del (ty:=ty) bdPr_keys Tryz.underlying167 h2 (hr _ hm).1 (h3.mem_iff.2 hm)
 have e0:=blk_cell h1 0
 simp only [eA,eZ] at e0
 refine ⟨m,w',rfl,e0,blk_lt h1,a1,⟨ho.sub List.filter_sublist,fun b hb => hr b (List.mem_filter.1 hb).1,m,_,a4.keep h1 (by simpa using h5),a2,h3.filter _,rfl,h5⟩,a4⟩
theorem RepF.upd {k p : Hd} (h : RepF w f B F) (hk : HdR k) (hp : HdR p) (ho' : FamOk (insB B (k,p))) : ∃ (m : Nat) (w' : World),F = [f,m] ∧ w.cell? ⟨f,0,none⟩ = some (.map (some m)) ∧ f < w.heap.size ∧
  (Instr.mapUpdate 167 (.map (some m)) (hdV k) (hdV p)).run Tryz.prog w = .ok () w' ∧ RepF w' f (insB B (k,p)) F ∧ Mod [m] w w':=by
 obtain ⟨ho,hr,m,l,h1,h2,h3,rfl,h5⟩:=h
 obtain ⟨w',l',a1,a2,a3,a4,-⟩:=mh_upd bdPr_keys Tryz.underlying167 h2 hk p
 have e0:=blk_cell h1 0
 simp only [eA,eZ] at e0
 refine ⟨m,w',rfl,e0,blk_lt h1,a1,⟨ho',fun b hb => ?_,m,_,a4.keep h1 (by simpa using h5),a2,?_,rfl,h5⟩,a4⟩
 ·rcases mem_insB.1 hb with rfl | ⟨hb,-⟩
  ·exact ⟨hk,hp⟩
  ·exact hr b hb
 ·exact a3.trans (((h3.filter _).cons _).trans (insB_perm B (k,p)).symm)
def looE (o : Option Hd) : Int:=if o.isSome then 0 else 5
def FRet (B' : List Bd) (r : Value) (f : Nat) (F : List Nat) (w : World) (e : Ending) (w' : World) : Prop:=e = .returned r ∧ RepF w' f B' F ∧ Mod F w w'
theorem outB_none {k : Hd} (h : parB B k = none) : outB B k = B:=List.filter_eq_self.2 fun b hb => by simpa using parB_none h b hb
set_option maxRecDepth 20000 in
set_option maxHeartbeats 4000000 in
theorem loosen_any (h : RepF w f B F) (s g : Int) (hr : HdR (s,g)) : Calls Tryz.prog 56 #[.pointer (some ⟨f,0,none⟩),.agg #[.int .i64 s,.int .i64 g]] w (FRet (outB B (s,g)) (.int .i64 (looE (parB B (s,g)))) f F w):=by
 obtain ⟨m,hF,hL⟩:=h.look
 obtain ⟨w0,hw0,hb0,hz0,hs0⟩:=box1 w (.cells #[.int .i64 s,.int .i64 g] 47)
 have hL1:=fun W (hW : Below w0.heap.size w0 W) => (⟨(hL W (hb0.trans (hW.mono hb0.size))).1,(hL W (hb0.trans (hW.mono hb0.size))).2.1,(hL W (hb0.trans (hW.mono hb0.size))).2.2 s g hr⟩ : _ ∧ _ ∧ _)
 have ho : parB B (s,g) = parB B (s,g):=rfl
 generalize hoo : parB B (s,g) = o at hL1 ⊢
 obtain ⟨⟨ps,pg⟩,hps⟩ : ∃ x,parV o = x:=⟨_,rfl⟩
 simp only [hdV,handleC,hps] at hL1
 have h0:=h.below hb0
 obtain ⟨zl,hzl⟩ : ∃ zl,zl = ints [0,0]:=⟨_,rfl⟩
 obtain ⟨rl,hrl⟩ : ∃ rl,rl = ints [ps,pg]:=⟨_,rfl⟩
 generalize hbo : o.isSome = bo at hL1
 obtain ⟨Hb0,Hs0,Hz,HL,Hzl,Hrl,H0,Hps,Hoo,HF,Hbo⟩:=hid11 hb0 hs0 hz0 hL1 hzl hrl h0 hps hoo hF hbo
 clear hb0 hs0 hz0 hL1 hzl hrl h0 hps hoo hF hbo
 clear hL h ho hr
 go_enter Tryz.func56,Tryz.ntmps56
 go_wp2_with fail
 clear hw0
 refine wp_planK [9] 11 [0] [some 8,some 9,some 10,some 11,some 12,some 13,some 7,some 14,some 15,some 5,none,some 6] [[],[0],[0,1],[0,1,2],[],[0,1,2,3,4],[0,1,2,3,4,5],[0,1,2,3,4,5,6],[0,1,2,3,4,5,6],[],[0,1,2,3,4,5,6,7,9],[0,1,2,3,4,5,6,7,8,9,10]] [0,1,2,3,4,5,6,7,8,9,10] (fun L σ V => IGet 9 10 w0 zl.toArray rl.toArray 47 L σ V) mixed rfl (by kernel_rfl) (by decide) (by decide) (by decide) (IGet.start (Below.refl _ _).drew) rfl ?_
 iterate 11 apply Exists.intro
 refine ⟨rfl,?_,?_⟩
 ·simp only [tS,List.take_zero,AllFrom.cons_eq,AllFrom.nil_eq,OpGoalK]
  refine ⟨?_,?_,?_,?_,?_,?_,?_,?_,?_,?_,?_,trivial⟩
  all_goals (intro L' σ V h1 h2 h3 hI hp;have HA1:=Lib.hid h1;have HA2:=Lib.hid h2;have HA3:=Lib.hid h3;clear h1 h2 h3;(try simp only [gZ,gS,preK_cons,preK_nil] at hp);(try simp only [List.mem_cons,List.not_mem_nil,or_false,eq_self,Nat.reduceEqDiff,Nat.reduceAdd,Nat.zero_add,false_or,true_or,true_and,and_true] at hp);(first | (have hq : True:=hp;clear hq hp) | skip);have HI:=Lib.hid hI;clear hI)
  all_goals (
   have hLV:=HL.out V HI.out.b
   have hc:=hLV.1;have hl:=hLV.2.1;have hk:=hLV.2.2
   have hzV:=(Mod.ofBelow HI.out.b).keep Hz.out (by simp)
   have q0:=blk_cell hzV 0
   have q1:=blk_cell hzV 1
   simp only [eA,eZ,eS] at q0 q1
   have ql:=blk_lt hzV
   clear hLV hzV)
  iterate 9 · (go_simp;exact ⟨.inr rfl,HI.out.read (by decide) (by decide) _⟩)
  ·go_simp
   have hmk:=HI.out.made (by decide) (HA3.out 10 (by decide))
   rw [Hzl.out] at hmk ⊢
   exact PostK.mk (c:=undef) (.inl (by decide)) hmk
  ·simp only [wantedL_none,if_true,Nat.reduceAdd,Nat.zero_add]
   have x3:=HA1.out
   simp only [Nat.reduceAdd,Nat.zero_add] at x3
   generalize hρ : Act.eval _ = ρ
   refine IGet.yr_stored HI.out (by decide) (HA2.out 9 (by decide)) x3 (by rw [Hzl.out,Hrl.out];rfl) 47 (.tmp 5) (.tmp 14) rfl ?_ ?_ (by rw [Hrl.out];kernel_rfl) (by rw [Hrl.out];exact ints_one _) (fun V' hV' => PostK.mk (c:=undef) (.inr rfl) hV')
   ·rw [← hρ]
    go_simp
   ·rw [← hρ]
    go_simp
    rw [Hrl.out]
    rfl
 ·intro L' σ V h1 hI hp
  obtain ⟨r,s9,hr,hst⟩:=hI.blk (h1 9 (by decide))
  rw [if_pos (h1 10 (by decide)),Hrl.out] at hst
  clear h1
  simp only [preK_cons,preK_nil,gZ,gS] at hp;simp only [List.mem_cons,List.not_mem_nil,or_false,eq_self,Nat.reduceEqDiff,false_or,true_or,true_and,and_true] at hp
  have HB:=Lib.hid hI.b
  have Hr:=Lib.hid hr
  have Hst:=Lib.hid hst
  clear hI hst hr
  simp only [dS,List.drop_zero]
  go_simp
  clear hp
  generalize σ 9 = v9 at *
  subst s9
  have hz:=(Mod.ofBelow HB.out).keep Hz.out (by simp)
  have h1:=H0.out.below HB.out
  have hBf : Below w.heap.size w V:=Hb0.out.trans (HB.out.mono Hb0.out.size)
  go_wp2_with fail
  refine ⟨rfl,?_⟩
  cases o with
  | none =>
   obtain rfl : bo = false:=Hbo.out.symm
   have HX:=Lib.hid h1
   have HBf:=Lib.hid hBf
   clear hBf
   clear hz h1
   go_wp2
   go_ret
   rw [outB_none Hoo.out]
   exact ⟨rfl,HX.out,Mod.ofBelow (HBf.out) |>.mono (by simp)⟩
  | some q =>
   obtain rfl : bo = true:=Hbo.out.symm
   obtain ⟨m1,w4,hF1,hc,hl,hrun,h4,hm4⟩:=(h1.below below_drew).del (parB_some Hoo.out) 0
   obtain rfl : m1 = m:=by
    have:=hF1.symm.trans HF.out
    simpa using this
   have hM : Mod F w w4:=(((Mod.ofBelow hBf).mono (by simp) : Mod F w V).andBelow below_drew).step (hm4.mono (by rw [HF.out];intro x hx;exact .inl (by simp at hx;simp [hx])))
   simp only [hdV,handleC] at hrun
   obtain ⟨q0,q1,ql⟩:=cells2 hz
   have hc' : V.cell? ⟨f,0,none⟩ = some (.map (some m1)):=hc
   have hl' : f < V.heap.size:=hl
   obtain ⟨H4,HM⟩:=hid2 h4 hM
   clear h4 hM
   clear hz h1 hBf hm4 hF1 hc hl
   go_wp2_with fail
   refine wp_planR 5 [0] [some 18,some 19,some 20,some 21,some 22,none] [[],[0],[0,1],[0,1,2],[],[0,1,2,3,4]] [0,1,2,3,4] mixed rfl (by kernel_rfl) (by decide) (by decide) rfl ?_
   iterate 5 apply Exists.intro
   refine ⟨rfl,?_,?_⟩
   ·simp only [tS,List.take_zero,AllFrom.cons_eq,AllFrom.nil_eq,OpGoalQ]
    refine ⟨?_,?_,?_,?_,?_,trivial⟩
    all_goals (intro σ hp;(try simp only [gZ,gS,mC,mN,preF_cons,preF_nil,isV,and_true] at hp);(first | (have hq : True:=hp;clear hq hp) | skip))
    all_goals (go_simp;exact ⟨rfl,rfl⟩)
   intro σ hp
   simp only [gZ,gS,mC,mN,preF_cons,preF_nil,isV,and_true] at hp
   simp only [dS,List.drop_zero]
   go_simp
   clear hp
   go_wp2
   refine ⟨rfl,?_⟩
   go_wp2
   go_ret
   exact ⟨rfl,H4.out,HM.out⟩
 all_goals exact undef
end
end Go.Proofs.YtfdillpofciicaaGreatDoor
namespace Go.Proofs.YtfdillpofciicaaGreatDoor
open Go Go.RowKit Go.Shelf Go.Sort
section
variable {α : Type} [Inhabited α] {enc : α → List Value} {k : Nat}
theorem get_bang {l : List α} {i : Nat} (h : i < l.length) : l.toArray[i]! = l[i]:=by
 rw [getElem!_pos _ i (by simpa using h)];simp
theorem flat_bang (hk : ∀ x, (enc x).length = k) (l : List α) (t : Nat) (ht : t < l.length * k) : (l.flatMap enc)[t]? = some (flatK enc k l.toArray)[t]! := by
  have k0 : 0 < k := by rcases Nat.eq_zero_or_pos k with h | h
                        · subst h; simp at ht
                        · exact h
  have hq : t / k < l.length := Nat.div_lt_of_lt_mul (by rw [Nat.mul_comm]; exact ht)
  have hr : t % k < k := Nat.mod_lt _ k0
  rw [get_flatK _ _ _ _ (by simpa using ht), get_bang hq]
  have h1 := flatV_get hk l (t / k) hq (t % k) hr
  rw [show t / k * k + t % k = t by rw [Nat.mul_comm]; exact Nat.div_add_mod t k] at h1
  rw [h1, List.getElem?_eq_getElem (by rw [hk]; exact hr), getElem!_pos _ _ (by rw [hk]; exact hr)]
theorem own_putRowK (hk : ∀ x,(enc x).length = k) {w : World} {B E g cap : Nat} {l l' : List α} (hown : w.ownsRow B E k (.slice (some ⟨g,0,none⟩) l.length cap) l.length (l.flatMap enc)) (hl : l'.length = l.length) (m : Nat) (os : Array Obj) :
  (sortWorldK enc k w g 0 m l'.toArray os).ownsRow B E k (.slice (some ⟨g,0,none⟩) l'.length cap) l'.length (l'.flatMap enc) ∧ Mod [g] w (sortWorldK enc k w g 0 m l'.toArray os):=by
 obtain ⟨hx,⟨h,-⟩ | ⟨g',cap',cur,h,hB,hb,hn,hc,hs,ht⟩⟩:=hown
 ·cases h
 simp only [Value.slice.injEq,Option.some.injEq,Addr.mk.injEq,true_and] at h
 obtain ⟨⟨rfl,-⟩,rfl⟩:=h
 have hgl:=blk_lt hb
 have hput : (putRowK enc k (Sort.ahead w m) g 0 l'.toArray).heap[g]? = some (.cells (putCells id 0 (flatK enc k l'.toArray) cur) E (0,0)):=by
  unfold putRowK putRow mapBlock
  show (w.heap.modify g _)[g]? = _
  rw [Array.getElem?_modify,if_pos rfl,hb]
  rfl
 have hsz : (putRowK enc k (Sort.ahead w m) g 0 l'.toArray).heap.size = w.heap.size:=by
  unfold putRowK
  rw [size_putRow]
  rfl
 have hmod : Mod [g] w (sortWorldK enc k w g 0 m l'.toArray os):=by
  refine ⟨rfl,rfl,rfl,?_,fun j hj hn => ?_⟩
  ·show _ ≤ ((putRowK enc k (Sort.ahead w m) g 0 l'.toArray).heap ++ os).size
   rw [Array.size_append,hsz];omega
  ·show ((putRowK enc k (Sort.ahead w m) g 0 l'.toArray).heap ++ os)[j]? = _
   rw [Array.getElem?_append_left (by rw [hsz];exact hj)]
   unfold putRowK putRow mapBlock
   show (w.heap.modify g _)[j]? = _
   rw [Array.getElem?_modify,if_neg (fun e => hn (by simp [e]))]
 have hnk : l.length * k ≤ cap * k:=Nat.mul_le_mul_right k hn
 refine ⟨⟨by rw [flatV_length hk],.inr ⟨g,cap,putCells id 0 (flatK enc k l'.toArray) cur,rfl,hB,?_,by omega,hc,by rw [putCells,Array.size_mapIdx];exact hs,?_⟩⟩,hmod⟩
 ·show ((putRowK enc k (Sort.ahead w m) g 0 l'.toArray).heap ++ os)[g]? = _
  rw [Array.getElem?_append_left (by rw [hsz];exact hgl)]
  exact hput
 ·apply List.ext_getElem?
  intro t
  rw [List.getElem?_take]
  by_cases h1 : t < l'.length * k
  ·rw [if_pos h1,flat_bang hk l' t h1]
   have h2 : t < cur.size:=by rw [hs];rw [hl] at h1;omega
   rw [Array.getElem?_toList,putCells,Array.getElem?_mapIdx,Array.getElem?_eq_getElem h2]
   simp only [Option.map_some,Nat.zero_le,true_and,Nat.zero_add,size_flatK,List.size_toArray,id,Nat.sub_zero]
   rw [if_pos h1]
  ·rw [if_neg h1,List.getElem?_eq_none (by rw [flatV_length hk];omega)]
def SortedRow (enc : α → List Value) (k B E : Nat) (lt : α → α → Bool) (l : List α) (v : Value) (w : World) (e : Ending) (w' : World) : Prop :=
 e = .returned (.tuple #[]) ∧ ∃ l' : List α,l'.Perm l ∧ l'.Pairwise (fun x y => lt y x = false) ∧ w'.ownsRow B E k v l'.length (l'.flatMap enc) ∧ Mod v.ownBlock.toList w w'
theorem sort_own {P : Program} {ρ : Ren} (L : SlLaysF0.n6 P ρ) (aE : ∀ w,(isAgg (ρ.t 24)).run P w = .ok true w) (zE : ∀ w,(Go.sizeOf (ρ.t 24)).run P w = .ok k w) (hk : ∀ x,(enc x).length = k) (h1 : ∀ x,∀ v ∈ enc x,v.oneCell' = true)
  (cf : α → α → Int) (hO : SWO (ltOf cf)) (g : Nat) (eg : ∀ args w,(callFunc g args).run P w = .ok (.enter g args) w)
  (hcmp : ∀ x y W,Calls P g #[.agg (enc x).toArray,.agg (enc y).toArray] W fun e w' => e = .returned (.int .i64 (cf x y)) ∧ ∃ q os,w' = grow (W.drewN q) os)
  {w : World} {B E : Nat} {v : Value} {l : List α} (hown : w.ownsRow B E k v l.length (l.flatMap enc)) (hl : l.length < 4611686018427387904) :
  Calls P (ρ.f 6) #[v,.func (.func g) #[] #[]] w (SortedRow enc k B E (ltOf cf) l v w):=by
 obtain ⟨A,cap,rfl,-,-⟩:=row_slice hown
 by_cases h0 : l.length = 0
 ·have hn : l = []:=List.eq_nil_of_length_eq_zero h0
  subst hn
  refine (AnyF.slices_SortFunc_none L A cap _ w).mono ?_
  rintro e w' ⟨rfl,rfl⟩
  exact ⟨rfl,[],.refl _,.nil,hown,Mod.refl _ _⟩
 ·obtain ⟨g0,cap0,cur,hv,hB,hb,hn,hc,hs,ht⟩:=row_some hown (by omega)
  simp only [Value.slice.injEq,true_and] at hv
  obtain ⟨rfl,rfl⟩:=hv
  have hH : HoldsK enc k w g0 0 l.toArray:=by
   intro j hj
   rw [size_flatK,List.size_toArray] at hj
   have:=flat_bang hk l j hj
   refine ⟨?_,?_⟩
   ·rw [Nat.zero_add];exact row_cell hown this
   ·rw [Nat.zero_add];exact row_free hown j
  have hcon:=AnyQ.slices_SortFunc L k aE zE enc hk h1 cf hO g #[] g0 0 cap l.toArray w eg (fun m os dk _ x y => by simpa using hcmp x y _) hH (blk_lt hb) (by simpa using hl)
  rw [List.size_toArray] at hcon
  refine hcon.mono ?_
  rintro e w' ⟨rfl,d',n,os,hp,hsd,rfl⟩
  obtain ⟨hp1,-,hp3⟩:=hp
  rw [List.size_toArray] at hp1
  have e1 : d' = d'.toList.toArray:=by simp
  have hlen : d'.toList.length = l.length:=by simpa using hp1
  obtain ⟨h3,h4⟩:=own_putRowK (l':=d'.toList) hk hown hlen n os
  rw [← e1] at h3 h4
  refine ⟨rfl,d'.toList,?_,?_,?_,?_⟩
  ·have hp2 : d'.size = l.length:=by simpa using hp1
   have a1 : (d'.extract 0 l.length) = d':=by rw [← hp2];exact Array.extract_size
   have a2 : (l.toArray.extract 0 l.length) = l.toArray:=by
    have : l.toArray.size = l.length:=by simp
    rw [← this];exact Array.extract_size
   rw [a1,a2] at hp3
   exact hp3
  ·refine List.pairwise_iff_getElem.2 fun i j hi hj hij => ?_
   have:=hsd i j (Nat.zero_le _) hij (by rw [hlen] at hj;exact hj)
   rw [getElem!_pos d' i (by simpa using hi),getElem!_pos d' j (by simpa using hj)] at this
   simpa using this
  ·rw [hlen] at h3 ⊢;exact h3
  ·exact h4
end
end Go.Proofs.YtfdillpofciicaaGreatDoor
