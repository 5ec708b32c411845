import Derived.Test.YtoheblfpjinmnaaGreatDoorTextParsesJ20
set_option linter.unusedVariables false
set_option linter.unusedSimpArgs false
/- A part of the proof that TextParses returns true. -/
namespace Go.Proofs.YtoheblfpjinmnaaGreatDoor
open Go Go.RowKit Go.Shelf
attribute [local go_sem] AllFrom.cons_eq AllFrom.nil_eq putF_nil putF_cons wantedL_none wantedL_some OpGoalT OpGoalV OpGoalQ OpGoalA OpGoalK YieldsR preF_nil preF_cons ByteArray.mk_append_mk
attribute [local go_sem] Oper.semAt_some
def ParsePost (s : St3) (w : World) (e : Ending) (w' : World) : Prop :=
 ∃ v1 v2 v3,e = .returned (.agg #[v1,v2,v3]) ∧ w'.ownsRow w.heap.size 3 1 v1 s.1.length (ints s.1) ∧ w'.ownsRow w.heap.size 51 11 v2 s.2.1.length (s.2.1.flatMap rwC) ∧ w'.ownsRow w.heap.size 55 4 v3 s.2.2.length (s.2.2.flatMap bdC) ∧ Below w.heap.size w w'
structure PaB (w : World) (c : Nat) (s : St3) (v1 v2 v3 : Value) (W : World) : Prop where
 box : W.heap[w.heap.size]? = some (.cells #[v1,v2,v3] 26 (0,0))
 r1 : W.ownsRow w.heap.size 3 1 v1 s.1.length (ints s.1)
 r2 : W.ownsRow w.heap.size 51 11 v2 s.2.1.length (s.2.1.flatMap rwC)
 r3 : W.ownsRow w.heap.size 55 4 v3 s.2.2.length (s.2.2.flatMap bdC)
 n1 : c ∉ v1.ownBlock.toList
 n2 : c ∉ v2.ownBlock.toList
 n3 : c ∉ v3.ownBlock.toList
 below : Below w.heap.size w W
def PaJ (w : World) (c : Nat) (s : St3) (W : World) : Prop:=∃ v1 v2 v3,PaB w c s v1 v2 v3 W
section
variable {w W W' : World} {c : Nat} {s : St3} {v1 v2 v3 v : Value}
theorem PaB.mod (h : PaB w c s v1 v2 v3 W) {G : List Nat} (hm : Mod G W W') (hb : w.heap.size ∉ G) (h1 : ∀ y,v1.ownBlock = some y → y ∉ G) (h2 : ∀ y,v2.ownBlock = some y → y ∉ G) (h3 : ∀ y,v3.ownBlock = some y → y ∉ G) (hG : ∀ y ∈ G,w.heap.size ≤ y) : PaB w c s v1 v2 v3 W' :=
 ⟨hm.keep h.box hb,row_mod h.r1 hm h1,row_mod h.r2 hm h2,row_mod h.r3 hm h3,h.n1,h.n2,h.n3,h.below.trans (hm.toBelow (by simpa using hG) h.below.size)⟩
theorem PaB.new (h : PaB w c s v1 v2 v3 W) (hb : Below W.heap.size W W') : PaB w c s v1 v2 v3 W':=h.mod (Mod.ofBelow hb) (by simp) (by simp) (by simp) (by simp) (by simp)
theorem PaB.ne1 (h : PaB w c s v1 v2 v3 W) : ∀ y,v1.ownBlock = some y → y ≠ w.heap.size:=fun y hy e => own_ne_box h.r1 h.box (by decide) (by rw [← e];exact hy.symm)
theorem PaB.ne2 (h : PaB w c s v1 v2 v3 W) : ∀ y,v2.ownBlock = some y → y ≠ w.heap.size:=fun y hy e => own_ne_box h.r2 h.box (by decide) (by rw [← e];exact hy.symm)
theorem PaB.ne3 (h : PaB w c s v1 v2 v3 W) : ∀ y,v3.ownBlock = some y → y ≠ w.heap.size:=fun y hy e => own_ne_box h.r3 h.box (by decide) (by rw [← e];exact hy.symm)
theorem PaB.set0 (h : PaB w c s v1 v2 v3 W) {gs : List Int} (hr : W.ownsRow w.heap.size 3 1 v gs.length (ints gs)) (hc : c ∉ v.ownBlock.toList) : PaB w c (gs,s.2) v v2 v3 (W.setCell ⟨w.heap.size,0,none⟩ v):=by
 have hm : Mod [w.heap.size] W (W.setCell ⟨w.heap.size,0,none⟩ v):=(Mod.refl _ _).setCell (.inl (by simp)) _
 exact ⟨blk_set h.box 0 v,row_mod hr hm (fun y hy => by simp;exact fun e => own_ne_box hr h.box (by decide) (by rw [← e];exact hy.symm)),row_mod h.r2 hm (fun y hy => by simpa using h.ne2 y hy),row_mod h.r3 hm (fun y hy => by simpa using h.ne3 y hy),hc,h.n2,h.n3,h.below.setCell (p:=⟨w.heap.size,0,none⟩) (Nat.le_refl _) _⟩
end
theorem strs_tail (m : Nat) {w : World} {B : Nat} {A : Option Addr} {c : Nat} {l : List Bs} (hA : Lies w B A (l.map str)) (hm : m ≤ l.length) (hc : l.length ≤ c) :
  ∃ A',(∀ W,(Instr.sliceAt 38 (.slice A l.length c) (some (.int .i64 (m : Int))) none none).run Tryz.prog W = .ok (.slice A' (l.length - m) (c - m)) W) ∧ Lies w B A' ((l.drop m).map str):=by
 have hel : Tryz.prog.elem 38 = 9:=by kernel_rfl
 have hsz : (sizeOf (Tryz.prog.elem 38)).run Tryz.prog = fun W => .ok 1 W:=by
  funext W
  rw [hel]
  exact Tryz.sizeOf9 W
 have hund : Tryz.prog.underlying 38 = some (.slice (Tryz.prog.elem 38)):=by rw [hel];exact Tryz.underlying38
 have hrun : ∀ W,(Instr.sliceAt 38 (.slice A l.length c) (some (.int .i64 (m : Int))) none none).run Tryz.prog W = .ok (.slice (if c = m then A else A.map (·.add (m * 1))) (l.length - m) (c - m)) W:=by
  intro W
  rw [run_sliceAt_slice _ _ _ _ _ _ hund,run_slice_l W _ A l.length c hund .i64 (m : Int) (by omega) (by omega),hsz]
  simp only [Result.andThen,sliced,Int.toNat_natCast]
 refine ⟨_,hrun,?_⟩
 by_cases e : c = m
 ·have : l.drop m = []:=List.drop_eq_nil_of_le (by omega)
  rw [this]
  exact Lies.nil _ _ _
 ·rw [if_neg e]
  intro k u hu
  rw [List.map_drop,List.getElem?_drop] at hu
  obtain ⟨a,rfl,hb,hcell⟩:=hA (m + k) u hu
  refine ⟨_,rfl,?_,?_⟩
  ·rw [add_block];exact hb
  ·rw [Addr.add_add,Nat.mul_one];exact hcell
theorem spl_len : ∀ (l z : Bs),z ∈ spl 32 l → z.length ≤ l.length
 | [],z,h => by simp [spl] at h;simp [h]
 | b :: l,z,h => by
  have ih:=spl_len l
  obtain ⟨y,r,e⟩:=spl_ne 32 l
  rw [e] at ih
  rw [spl] at h
  split at h
  ·rcases List.mem_cons.1 h with rfl | h
   ·simp
   ·rw [e] at h
    have:=ih z h
    simp only [List.length_cons];omega
  ·rw [e] at h
   rcases List.mem_cons.1 h with rfl | h
   ·have:=ih y (by simp)
    simp only [List.headD_cons,List.length_cons];omega
   ·have:=ih z (by simp only [List.tail_cons] at h;simp [h])
    simp only [List.length_cons];omega
theorem spl_count : ∀ l : Bs,(spl 32 l).length ≤ l.length + 1
 | [] => by simp [spl]
 | b :: l => by
  have ih:=spl_count l
  obtain ⟨y,r,e⟩:=spl_ne 32 l
  rw [e] at ih
  rw [spl,e]
  split
  ·simp only [List.length_cons] at *;omega
  ·simp only [List.tail_cons,List.length_cons] at *;omega
theorem lns_len : ∀ {t : Bs} {pre : List Bs} {x : Bs} {post : List Bs},lns t = pre ++ x :: post → x.length ≤ t.length ∧ pre.length < t.length:=by
 intro t
 induction hn : t.length using Nat.strongRecOn generalizing t with
 | _ n ih =>
  intro pre x post h
  cases t with
  | nil => rw [lns_nil] at h;simp at h
  | cons b r =>
   by_cases hi : 0 ≤ Lib.indexByte (b :: r) 10
   ·have hm : Lib.indexByte (b :: r) 10 = (((Lib.indexByte (b :: r) 10).toNat : Nat) : Int):=by omega
    rw [lns_cut hm (by simp)] at h
    generalize (Lib.indexByte (b :: r) 10).toNat = m at *
    cases pre with
    | nil =>
     simp only [List.nil_append,List.cons.injEq] at h
     rw [← h.1,List.length_take]
     simp only [List.length_cons,List.length_nil] at *
     omega
    | cons p pre =>
     simp only [List.cons_append,List.cons.injEq] at h
     have h1:=ih ((b :: r).drop (m + 1)).length (by rw [List.length_drop];simp only [List.length_cons] at *;omega) rfl h.2
     rw [List.length_drop] at h1
     simp only [List.length_cons] at *
     omega
   ·rw [lns_last (by have:=Lib.indexByte_ge (b :: r) 10;omega) (by simp)] at h
    cases pre with
    | nil =>
     simp only [List.nil_append,List.cons.injEq] at h
     rw [← h.1];simp only [List.length_cons,List.length_nil] at *;omega
    | cons p pre => simp at h
theorem blk_same {W : World} {b : Nat} {cs : Array Value} {T : TypeId} {f : Nat × Nat} (h : W.heap[b]? = some (.cells cs T f)) (i : Nat) (v : Value) (hv : cs[i]? = some v) : W.setCell ⟨b,i,none⟩ v = W:=by
 have hs : cs.setIfInBounds i v = cs:=by
  refine Array.ext_getElem? fun k => ?_
  rw [Array.getElem?_setIfInBounds]
  split
  ·next e =>
   subst e
   split
   ·exact hv.symm
   ·next hn => rw [Array.getElem?_eq_none (by omega)] at hv;cases hv
  ·rfl
 have hh : (W.setCell ⟨b,i,none⟩ v).heap = W.heap:=by
  refine Array.ext_getElem? fun k => ?_
  by_cases e : k = b
  ·subst e;rw [blk_set h i v,hs,h]
  ·exact Below.heap_setCell W ⟨b,i,none⟩ v k e
 have : W.setCell ⟨b,i,none⟩ v = { W with heap:=(W.setCell ⟨b,i,none⟩ v).heap }:=rfl
 rw [this,hh]
theorem rowSet_cells : ∀ (x : Rw) (j : Nat),j < 8 → ∀ (K n : Int),((rwC x).toArray.setIfInBounds 2 (.int .i64 K)).setIfInBounds (3 + j) (.int .i64 n) = (rwC (x.1,(K,(rwSet x j n).2.2))).toArray
 | (h,K0,a0,a1,a2,a3,a4,a5,a6,a7),0,_,K,n => rfl
 | (h,K0,a0,a1,a2,a3,a4,a5,a6,a7),1,_,K,n => rfl
 | (h,K0,a0,a1,a2,a3,a4,a5,a6,a7),2,_,K,n => rfl
 | (h,K0,a0,a1,a2,a3,a4,a5,a6,a7),3,_,K,n => rfl
 | (h,K0,a0,a1,a2,a3,a4,a5,a6,a7),4,_,K,n => rfl
 | (h,K0,a0,a1,a2,a3,a4,a5,a6,a7),5,_,K,n => rfl
 | (h,K0,a0,a1,a2,a3,a4,a5,a6,a7),6,_,K,n => rfl
 | (h,K0,a0,a1,a2,a3,a4,a5,a6,a7),7,_,K,n => rfl
 | _,j + 8,h,_,_ => absurd h (by omega)
theorem or_same8 : ∀ m : Fin 256,∀ x : Fin 8,m.val.testBit x.val = true → bits .or .i64 (m.val : Int) (wrap64 (2 ^ x.val)) = (m.val : Int):=by decide +kernel
theorem add_lt8 : ∀ m : Fin 256,∀ x : Fin 8,m.val.testBit x.val = false → m.val + 2 ^ x.val < 256:=by decide +kernel
theorem orK (K : Int) (h0 : 0 ≤ K) (h1 : K < 256) (j : Nat) (hj : j < 8) : bits .or .i64 K (wrap64 (2 ^ j)) = putK K j ∧ 0 ≤ putK K j ∧ putK K j < 256:=by
 obtain ⟨m,rfl⟩:=Int.eq_ofNat_of_zero_le h0
 have hm : m < 256:=by omega
 have hh : hasK (m : Int) j = m.testBit j:=hasK_nat m j hm
 unfold putK
 rw [hh]
 cases hb : m.testBit j
 ·have e:=or_add8 ⟨m,hm⟩ ⟨j,hj⟩ hb
  have e2:=add_lt8 ⟨m,hm⟩ ⟨j,hj⟩ hb
  simp only [] at e e2
  have e3 : pw j = ((2 ^ j : Nat) : Int):=rfl
  rw [e]
  simp only [Bool.false_eq_true,↓reduceIte]
  rw [e3]
  clear e e3
  generalize 2 ^ j = p at *
  exact ⟨trivial,by omega,by omega⟩
 ·have e:=or_same8 ⟨m,hm⟩ ⟨j,hj⟩ hb
  simp only [] at e
  rw [if_pos rfl]
  exact ⟨e,h0,h1⟩
structure RowJ (rb : Nat) (r : Rw) (W : World) : Prop where
 blk : W.heap[rb]? = some (.cells (rwC r).toArray 51 (0,0))
 k0 : 0 ≤ r.2.1
 k1 : r.2.1 < 256
theorem list_roundL {P : Program} {r n : Nat} {ops : Array Oper} {Q : Exit → Act → World → Prop} {o : Oper} {l : List Oper} {a : Act} {w : World} (x : Op) (_ : o.op = x) (hnd : (o :: l).all notDefer = true) (h : wpList P ops (OnlyN Q) (o :: l) a w) : wpListIn (Fence.wide.inRound r) n P ops Q (o :: l) a w:=list_round hnd h
theorem app_rw {w : World} {ops : Array Oper} {rest : List Oper} {o : Oper} {a : Act} {Q : Exit → Act → World → Prop} (hgd : o.guard = none) (s x : Operand)
  (ho : o.op = .call { callee:=.builtin .append,args:=#[s,x],argTypes:=#[23,23] }) (base : Nat) (v : Value) (l : List Rw) (y : Rw) (ad : Addr) (c : Nat)
  (hs : a.eval s = v) (hown : w.ownsRow base 51 11 v l.length (l.flatMap rwC)) (hx : a.eval x = .slice (some ad) 1 c) (hc : ∀ j u,(rwC y)[j]? = some u → w.cell? (ad.add j) = some u)
  (hlen : l.length ≤ 800000000000) (hbase : base ≤ w.heap.size)
  (h : ∀ v' w',w'.ownsRow base 51 11 v' (l ++ [y]).length ((l ++ [y]).flatMap rwC) → w.grownBy w' v.ownBlock → (v'.ownBlock = v.ownBlock ∨ v'.ownBlock = some w.heap.size) → wpList Tryz.prog ops Q rest (a.put o.dst v') w') : wpList Tryz.prog ops Q (o :: rest) a w :=
 app_rec (enc:=rwC) (n:=11) (z:=.agg (Array.replicate 11 (.int .i64 0))) (bytes:=88) hgd s x 23 51 ho Tryz.underlying23 inf_Row rfl (by omega) (by omega) rwC_one rwC_len base v l y ad c hs hown hx hc (by omega) hbase h
theorem kvS_eq (r : Rw) (y : Bs) : kvS r y = if 0 ≤ num0 (Lib.cut y [61]).1 ∧ num0 (Lib.cut y [61]).1 < 8 then putR r (num0 (Lib.cut y [61]).1).toNat (num0 (Lib.cut y [61]).2.1) else r:=rfl
theorem cut_len (y : Bs) : (Lib.cut y [61]).1.length ≤ y.length ∧ (Lib.cut y [61]).2.1.length ≤ y.length:=by
 unfold Lib.cut
 split
 ·simp only [List.length_take,List.length_drop];omega
 ·simp
theorem own_block {W : World} {b E z k : Nat} {v : Value} {xs : List Value} (h : W.ownsRow b E z v k xs) {y : Nat} (hy : v.ownBlock = some y) : ∃ cur,W.heap[y]? = some (.cells cur E (0,0)):=by
 rcases h.2 with ⟨rfl,_⟩ | ⟨g,cap,cur,rfl,_,hg,_⟩
 ·cases hy
 ·cases hy;exact ⟨cur,hg⟩
theorem own_apart {W : World} {b b' E E' z z' k k' : Nat} {v v' : Value} {xs xs' : List Value} (h : W.ownsRow b E z v k xs) (h' : W.ownsRow b' E' z' v' k' xs') (hne : E ≠ E') : ∀ y,v.ownBlock = some y → y ∉ v'.ownBlock.toList:=fun y hy e => by
 obtain ⟨cur,hb⟩:=own_block h hy
 exact own_ne_box h' hb hne (Option.mem_toList.1 e).symm
section
variable {w W W' : World} {c : Nat} {s : St3} {v1 v2 v3 v : Value}
theorem PaB.fin2 (h : PaB w c s v1 v2 v3 W) (hg : W.grownBy W' v3.ownBlock) {l : List Bd} (hr : W'.ownsRow w.heap.size 55 4 v l.length (l.flatMap bdC)) (hv : v.ownBlock = v3.ownBlock ∨ v.ownBlock = some W.heap.size) (hc : c < W.heap.size) (hcb : c ≠ w.heap.size) :
  KeptO W (W'.setCell ⟨w.heap.size,2,none⟩ v) ∧ (W'.setCell ⟨w.heap.size,2,none⟩ v).heap[c]? = W.heap[c]? ∧ PaB w c (s.1,s.2.1,l) v1 v2 v (W'.setCell ⟨w.heap.size,2,none⟩ v):=by
 have hm : Mod v3.ownBlock.toList W W':=(Mod.refl _ _).grown hg (fun k hk => .inl (by simp [hk]))
 have hbx:=hm.keep h.box (fun e => h.ne3 _ (Option.mem_toList.1 e) rfl)
 have hs : Mod [w.heap.size] W' (W'.setCell ⟨w.heap.size,2,none⟩ v):=(Mod.refl _ _).setCell (.inl (by simp)) _
 have hcv : c ∉ v.ownBlock.toList:=fun e => by
  rcases hv with hv | hv
  ·rw [hv] at e;exact h.n3 e
  ·rw [hv] at e;simp at e;omega
 refine ⟨(KeptO.of_grown hg (own_cells h.r3)).trans (keptO_setCell hbx 2 v),?_,blk_set hbx 2 v,row_mod (row_mod h.r1 hm (own_apart h.r1 h.r3 (by decide))) hs (fun y hy => by simpa using h.ne1 y hy),row_mod (row_mod h.r2 hm (own_apart h.r2 h.r3 (by decide))) hs (fun y hy => by simpa using h.ne2 y hy),row_mod hr hs (fun y hy => by simp;exact fun e => own_ne_box hr hbx (by decide) (by rw [← e];exact hy.symm)),h.n1,h.n2,hcv,?_⟩
 ·rw [Below.heap_setCell _ _ _ _ hcb]
  exact hm.block c hc h.n3
 ·exact (h.below.grown hg h.below.size (fun k hk => own_ge h.r3 k hk)).setCell (p:=⟨w.heap.size,2,none⟩) (Nat.le_refl _) _
theorem PaB.fin1 (h : PaB w c s v1 v2 v3 W) (hg : W.grownBy W' v2.ownBlock) {l : List Rw} (hr : W'.ownsRow w.heap.size 51 11 v l.length (l.flatMap rwC)) (hv : v.ownBlock = v2.ownBlock ∨ v.ownBlock = some W.heap.size) (hc : c < W.heap.size) (hcb : c ≠ w.heap.size) :
  KeptO W (W'.setCell ⟨w.heap.size,1,none⟩ v) ∧ (W'.setCell ⟨w.heap.size,1,none⟩ v).heap[c]? = W.heap[c]? ∧ PaB w c (s.1,l,s.2.2) v1 v v3 (W'.setCell ⟨w.heap.size,1,none⟩ v):=by
 have hm : Mod v2.ownBlock.toList W W':=(Mod.refl _ _).grown hg (fun k hk => .inl (by simp [hk]))
 have hbx:=hm.keep h.box (fun e => h.ne2 _ (Option.mem_toList.1 e) rfl)
 have hs : Mod [w.heap.size] W' (W'.setCell ⟨w.heap.size,1,none⟩ v):=(Mod.refl _ _).setCell (.inl (by simp)) _
 have hcv : c ∉ v.ownBlock.toList:=fun e => by
  rcases hv with hv | hv
  ·rw [hv] at e;exact h.n2 e
  ·rw [hv] at e;simp at e;omega
 refine ⟨(KeptO.of_grown hg (own_cells h.r2)).trans (keptO_setCell hbx 1 v),?_,blk_set hbx 1 v,row_mod (row_mod h.r1 hm (own_apart h.r1 h.r2 (by decide))) hs (fun y hy => by simpa using h.ne1 y hy),row_mod hr hs (fun y hy => by simp;exact fun e => own_ne_box hr hbx (by decide) (by rw [← e];exact hy.symm)),row_mod (row_mod h.r3 hm (own_apart h.r3 h.r2 (by decide))) hs (fun y hy => by simpa using h.ne3 y hy),h.n1,hcv,h.n3,?_⟩
 ·rw [Below.heap_setCell _ _ _ _ hcb]
  exact hm.block c hc h.n2
 ·exact (h.below.grown hg h.below.size (fun k hk => own_ge h.r2 k hk)).setCell (p:=⟨w.heap.size,1,none⟩) (Nat.le_refl _) _
end
theorem stepW_len (s : St3) (l : List Bs) : (stepW s l).2.1.length ≤ s.2.1.length + 1 ∧ (stepW s l).2.2.length ≤ s.2.2.length + 1:=by
 unfold stepW
 split
 ·exact ⟨by simp,by simp⟩
 ·split
  ·exact ⟨by simp,by simp⟩
  ·split
   ·exact ⟨by simp,by simp⟩
   ·exact ⟨by simp,by simp⟩
theorem steps_len : ∀ (l : List Bs) (s : St3),(l.foldl stepX s).2.1.length ≤ s.2.1.length + l.length ∧ (l.foldl stepX s).2.2.length ≤ s.2.2.length + l.length
 | [],s => ⟨by simp,by simp⟩
 | x :: l,s => by
  have h1:=steps_len l (stepX s x)
  have h2:=stepW_len s (spl 32 (Lib.trimSuffix x [10]))
  rw [List.foldl_cons]
  simp only [List.length_cons]
  unfold stepX at h1
  unfold stepX
  omega
theorem app_bd {w : World} {ops : Array Oper} {rest : List Oper} {o : Oper} {a : Act} {Q : Exit → Act → World → Prop} (hgd : o.guard = none) (s x : Operand)
  (ho : o.op = .call { callee:=.builtin .append,args:=#[s,x],argTypes:=#[24,24] }) (base : Nat) (v : Value) (l : List Bd) (y : Bd) (ad : Addr) (c : Nat)
  (hs : a.eval s = v) (hown : w.ownsRow base 55 4 v l.length (l.flatMap bdC)) (hx : a.eval x = .slice (some ad) 1 c) (hc : ∀ j u,(bdC y)[j]? = some u → w.cell? (ad.add j) = some u)
  (hlen : l.length ≤ 800000000000) (hbase : base ≤ w.heap.size)
  (h : ∀ v' w',w'.ownsRow base 55 4 v' (l ++ [y]).length ((l ++ [y]).flatMap bdC) → w.grownBy w' v.ownBlock → (v'.ownBlock = v.ownBlock ∨ v'.ownBlock = some w.heap.size) → wpList Tryz.prog ops Q rest (a.put o.dst v') w') : wpList Tryz.prog ops Q (o :: rest) a w :=
 app_rec (enc:=bdC) (n:=4) (z:=.agg (Array.replicate 4 (.int .i64 0))) (bytes:=32) hgd s x 24 55 ho Tryz.underlying24 inf_Bond rfl (by omega) (by omega) bdC_one bdC_len base v l y ad c hs hown hx hc (by omega) hbase h
theorem row_open {w : World} {B n c E z : Nat} {A : Option Addr} {xs : List Value} (h : w.ownsRow B E z (.slice A n c) n xs) (hn : 0 < n) : ∃ g,A = some ⟨g,0,none⟩ ∧ g < w.heap.size ∧ B ≤ g ∧ ∀ i u,xs[i]? = some u → w.cell? ⟨g,i,none⟩ = some u:=by
 obtain ⟨g,cap,cur,hv,hb,hg,_⟩:=row_some h hn
 cases hv
 exact ⟨g,rfl,blk_lt hg,hb,fun i u hi => row_cell h hi⟩
set_option maxRecDepth 100000 in
set_option maxHeartbeats 8000000 in
theorem parse_any {w : World} {t : Bs} (hLv : LaidV w) (ht : t.length ≤ 6000) : Calls Tryz.prog 7 #[str t] w (ParsePost (parseX t) w):=by
 obtain ⟨w0,hw0,hb0,hz0,hs0⟩:=box1 w (.cells #[.slice none 0 0,.slice none 0 0,.slice none 0 0] 26)
 obtain ⟨w1,hw1,hb1,hz1,hs1⟩:=box1 w0 (.cells #[str t] 9)
 have hz01:=(Mod.ofBelow hb1).keep hz0 (by simp)
 have hJ0 : PaJ w (w.heap.size + 1) ([],[],[]) w1:=⟨_,_,_,hz01,⟨rfl,.inl ⟨rfl,rfl⟩⟩,⟨rfl,.inl ⟨rfl,rfl⟩⟩,⟨rfl,.inl ⟨rfl,rfl⟩⟩,by simp [Value.ownBlock],by simp [Value.ownBlock],by simp [Value.ownBlock],hb0.trans (hb1.mono hb0.size)⟩
 have HLn:=Lib.hid (lines_any t w0)
 rw [hs0] at hz1 HLn
 rw [hw1] at HLn
 have HSq:=Lib.hid (fun n => lines_seq n (w.heap.size + 1) t (by omega))
 have HLv:=Lib.hid hLv
 obtain ⟨HJ0,Hb0,Hb1,HS0,HS1,Hz1⟩:=hid6 hJ0 hb0 hb1 hs0 hs1 hz1
 clear hJ0 hb0 hb1 hs0 hs1 hz1
 clear hz0 hz01 hLv
 refine callsIn_wide.1 (callsIn_of_wp_marks (n:=5) Tryz.func7 rfl trivial (wpIn_wide.2 ?_) rfl)
 simp only [Tryz.ntmps7,List.size_toArray,List.length_cons,List.length_nil,Nat.reduceAdd,Nat.reduceSub,Array.replicate_succ,Array.replicate_zero,List.push_toArray,List.append_toArray,List.nil_append,List.cons_append]
 unfold str at *
 go_wp2_with fail
 clear hw0
 refine HLn.out.mono ?_
 rintro e w2 ⟨rfl,rfl⟩
 clear hw1
 go_wp2_with fail
 refine (wpIn_wide (n:=5)).1 ?_
 refine wp_rangeC (n:=5) rfl (by omega) (gf:=43) (lb:=#[.pointer (some ⟨w.heap.size + 1,0,none⟩)]) rfl trivial (enters_of Tryz.func43 (by kernel_rfl) rfl) (HSq.out 4) Hz1.out rfl (fun pre W => PaJ w (w.heap.size + 1) (pre.foldl stepX ([],[],[])) W) ?cl HJ0.out
  (fun (x : Bs) a' W => a' = { tmps:=#[.string ⟨t.toArray⟩,undef,.pointer (some ⟨w.heap.size,0,none⟩),.string ⟨x.toArray⟩,undef,undef,undef,undef,undef,undef,undef,undef,undef,.string ⟨t.toArray⟩,.func (.func 43) #[] #[.pointer (some ⟨w.heap.size + 1,0,none⟩)],.string ⟨x.toArray⟩,undef,undef,undef,undef,undef,undef,undef,undef,undef,undef,undef,undef,undef,undef,undef,undef,undef,undef,undef,undef,undef,undef,undef,undef,undef,undef,undef,undef,undef,undef,undef,undef,undef,undef,undef,undef,undef,undef,undef,undef,undef,undef,undef,undef,undef,undef,undef,undef,undef,undef,undef,undef,undef,undef,undef,undef,undef,undef,undef,undef,undef,undef,undef,undef,undef,undef,undef,undef,undef,undef,undef,undef,undef,undef,undef,undef,undef,undef,undef,undef,undef,undef,undef,undef,undef,undef,undef,undef,undef,undef,undef,undef,undef,undef,undef,undef,undef,undef,undef,undef,undef,undef,undef,undef,undef,undef,undef,undef,undef,undef,undef,undef,undef,undef,undef],defers:=[] })
  (fun x a' X Y h _ k => h) ?assign ?body ?done
 case cl =>
  rintro s A B ⟨v1,v2,v3,h⟩ hst
  have hlt : w.heap.size < w2.heap.size:=by have:=HS0.out;have:=HS1.out;omega
  exact ⟨v1,v2,v3,hst.keep _ _ h.box (by omega) (.inr rfl),hst.row h.r1 h.n1,hst.row h.r2 h.n2,hst.row h.r3 h.n3,h.n1,h.n2,h.n3,hst.below h.below (by omega) (by omega) h.below.size⟩
 case assign =>
  rintro l pre x W K hl hI hK
  gi_wp2
  exact hK _ _ (Mod.refl _ _) rfl
 case body =>
  rintro l pre x post a' W hl hxs ⟨v1,v2,v3,hP⟩ ⟨o1,ho1,u,rfl⟩ rfl
  have hB:=hP.below
  have hxl:=lns_len hxs
  have hxs2 : pre.length ≤ 6000:=by omega
  have hsz:=hB.size
  have H1:=Lib.hid (fun V => trimSuf_any x [10] V (by omega))
  have htl : (Lib.trimSuffix x [10]).length ≤ 6000:=by unfold Lib.trimSuffix;split <;> (first | (rw [List.length_take];omega) | omega)
  have H2:=Lib.hid (fun V (hV : Below w.heap.size w V) => split_any (Lib.trimSuffix x [10]) 32 (w:=V) (HLv.out.below hV) (by omega))
  unfold str at H1 H2
  generalize hst : pre.foldl stepX ([],[],[]) = st at *
  have HFin:=Lib.hid (fun (a' : Act) (W' : World) (k1 : KeptO W W') (k2 : W'.heap[w.heap.size + 1]? = W.heap[w.heap.size + 1]?) (k3 : PaJ w (w.heap.size + 1) (stepW st (spl 32 (Lib.trimSuffix x [10]))) W') => (⟨k1,k2,by simp only [List.foldl_append,List.foldl_cons,List.foldl_nil];rw [hst];exact k3⟩ : postC (w.heap.size + 1) (fun pre W => PaJ w (w.heap.size + 1) (pre.foldl stepX ([],[],[])) W) (pre ++ [x]) W .normal a' W'))
  generalize Lib.trimSuffix x [10] = y at *
  obtain ⟨Hxs,HP,HB,HO,Hst,Hxl,Htl,Hl,Hxs2⟩:=hid9 hxs hP hB ho1 hst hxl htl hl hxs2
  clear hxs hP hB ho1 hst hxl htl hl hxs2
  gi_wp2_with fail
  refine ⟨trivial,(CallsIn.inRound l (callsIn_wide.2 (H1.out _))).mono ?_⟩
  rintro e V ⟨rfl,rfl⟩
  gi_wp2_with fail
  refine ⟨trivial,(CallsIn.inRound l (callsIn_wide.2 (H2.out _ HB.out))).mono ?_⟩
  rintro e W2 ⟨rfl,hW2⟩
  have hb2 : Below V.heap.size V W2:=by rw [hW2];exact (Below.refl _ V).alloc (Nat.le_refl _) _
  have hbk2 : W2.heap[V.heap.size]? = some (.cells ((spl 32 y).map str).toArray 9 (0,0)):=by rw [hW2];exact heap_alloc_new V _
  obtain ⟨wd,ws,hws⟩:=spl_ne 32 y
  have hwl : ∀ z ∈ wd :: ws,z.length ≤ y.length:=fun z hz => spl_len y z (by rw [hws];exact hz)
  have hwn : (wd :: ws).length ≤ y.length + 1:=by rw [← hws];exact spl_count y
  rw [hws] at hbk2 HFin ⊢
  have hLa : Lies W2 W2.heap.size (some ⟨V.heap.size,0,none⟩) ((wd :: ws).map str):=fun i v hv => by
   refine ⟨_,rfl,blk_lt hbk2,?_⟩
   have h1:=blk_cell hbk2 i
   rw [List.getElem?_toArray,hv] at h1
   rw [← h1,Addr.add_mid,Nat.zero_add]
  obtain ⟨Aw,hcut1,hLw⟩:=strs_tail 1 (c:=(wd :: ws).length) hLa (by simp) (Nat.le_refl _)
  have hcut1 : ∀ W,(Instr.sliceAt 38 (.slice (some ⟨V.heap.size,0,none⟩) (ws.length + 1) (ws.length + 1)) (some (.int .i64 1)) none none).run Tryz.prog W = .ok (.slice Aw ws.length ws.length) W:=hcut1
  have hLw : Lies W2 W2.heap.size Aw (ws.map str):=hLw
  have hB2:=HB.out.trans (hb2.mono HB.out.size)
  have H3:=Lib.hid (numbers_any (c:=ws.length) (HLv.out.below hB2) (by have:=Hxl.out;have:=Htl.out;simp only [List.length_cons] at hwn;omega) (fun z hz => by have:=hwl z (by simp [hz]);have:=Htl.out;omega) hLw)
  have e0:=blk_cell hbk2 0
  simp only [mC,eA,eZ] at e0
  have el:=blk_lt hbk2
  unfold str at e0
  have hn1 : (1 : Int) ≤ (ws.length : Int) + 1:=by omega
  simp only [List.length_cons]
  obtain ⟨Hb2,Hbk2,Hws,Hwl,Hwn,HLw,HB2,HW2,HLa⟩:=hid9 hb2 hbk2 hws hwl hwn hLw hB2 hW2 hLa
  clear hb2 hbk2 hws hwl hwn hLw hB2 hW2 hLa
  gi_wp2_with fail
  refine ⟨trivial,(CallsIn.inRound l (callsIn_wide.2 H3.out)).mono ?_⟩
  rintro e W3 ⟨v5,rfl,hv5,hb3⟩
  obtain ⟨A5,c5,rfl,hc5,hL5⟩:=row_lies hv5
  rw [List.length_map] at hv5 hc5
  simp only [List.length_map]
  have hB3:=HB2.out.trans (hb3.mono HB2.out.size)
  have hbk3:=(Mod.ofBelow hb3).keep Hbk2.out (by simp)
  have e0:=blk_cell hbk3 0
  simp only [mC,eA,eZ] at e0
  have el:=blk_lt hbk3
  unfold str at e0
  clear hcut1 hn1
  have hb23:=Hb2.out.trans (hb3.mono Hb2.out.size)
  have hP3:=HP.out.new hb23
  have hq:=hP3.box
  have q0:=blk_cell hq 0;have q1:=blk_cell hq 1;have q2:=blk_cell hq 2
  simp only [eA,eZ,eS] at q0 q1 q2
  have f0:=blk_free hq 0;have f1:=blk_free hq 1;have f2:=blk_free hq 2
  have ql:=blk_lt hq
  have hOl:=blk_lt HO.out
  have hVl:=Hb2.out.size
  have hc5' : w.heap.size + 1 ∉ (Value.slice A5 ws.length c5).ownBlock.toList:=fun e => by have:=own_ge hv5 _ (Option.mem_toList.1 e);omega
  have hv5b:=row_base hv5 (B':=w.heap.size) (fun g hg => by have:=own_ge hv5 g hg;have:=HB2.out.size;omega)
  have hcn : W3.heap[w.heap.size + 1]? = V.heap[w.heap.size + 1]?:=hb23.block _ hOl
  obtain ⟨Hb3,HB3,Hbk3,Hv5,HL5,Hc5,HP3,Hq,Hb23,HOl,HVl,HC5,Hv5b,Hcn⟩:=hid14 hb3 hB3 hbk3 hv5 hL5 hc5 hP3 hq hb23 hOl hVl hc5' hv5b hcn
  clear hb3 hB3 hbk3 hv5 hL5 hc5 hP3 hq hb23 hOl hVl hc5' hv5b hcn
  by_cases hg : wd = wGens
  ·subst hg
   have hstep : stepW st (wGens :: ws) = (ws.map num0,st.2):=by unfold stepW;rw [if_pos (show (wGens :: ws).head? = some wGens from rfl)];rfl
   have hgT : (wGens == [103,101,110,115]) = true:=rfl
   have Hstep:=Lib.hid hstep
   clear hstep
   gi_wp2_with fail
   refine HFin.out { tmps:=#[],defers:=[] } _ ((keptO_below Hb23.out).trans (keptO_setCell Hq.out 0 _)) ?_ ?_
   ·rw [Below.heap_setCell _ _ _ _ (by simp)];exact Hcn.out
   ·rw [Hstep.out]
    exact ⟨_,_,_,HP3.out.set0 (by rw [List.length_map];exact Hv5b.out) HC5.out⟩
  ·have hgF : (wd == [103,101,110,115]) = false:=by simpa [wGens] using hg
   have Hg:=Lib.hid hg
   clear hg
   by_cases hr : wd = wRow ∧ 1 < ws.length
   ·obtain ⟨hrw,hr2⟩:=hr
    subst hrw
    have hstep : stepW st (wRow :: ws) = (st.1,st.2.1 ++ [(ws.drop 2).foldl kvS (zeroRw ((ws.map num0).getD 0 0,(ws.map num0).getD 1 0))],st.2.2):=by
     unfold stepW
     rw [if_neg (by rw [List.head?_cons];decide : ¬ (wRow :: ws).head? = some wGens),if_pos ⟨rfl,hr2⟩];rfl
    obtain ⟨gA,hgA,hgl,hgb,hcs⟩:=row_open Hv5.out (by omega)
    have hml : (ws.map num0).length = ws.length:=List.length_map _
    obtain ⟨n0,hn0⟩ : ∃ n,(ws.map num0)[0]? = some n:=⟨_,List.getElem?_eq_getElem (by omega)⟩
    obtain ⟨n1,hn1⟩ : ∃ n,(ws.map num0)[1]? = some n:=⟨_,List.getElem?_eq_getElem (by omega)⟩
    rw [List.getD_eq_getElem?_getD,List.getD_eq_getElem?_getD,hn0,hn1] at hstep
    have hstep : stepW st (wRow :: ws) = (st.1,st.2.1 ++ [(ws.drop 2).foldl kvS (zeroRw (n0,n1))],st.2.2):=hstep
    have a0:=hcs 0 (.int .i64 n0) (by unfold ints;rw [List.getElem?_map,hn0];rfl)
    have a1:=hcs 1 (.int .i64 n1) (by unfold ints;rw [List.getElem?_map,hn1];rfl)
    have hr2' : (1 : Int) < (ws.length : Int):=by omega
    have hl0 : 0 < ws.length:=by omega
    have hl1 : 1 < ws.length:=hr2
    obtain ⟨Az,hcut3,hLz⟩:=strs_tail 3 (c:=(wRow :: ws).length) HLa.out (by simp only [List.length_cons];omega) (Nat.le_refl _)
    generalize hzs : ws.drop 2 = zs at *
    have hLz : Lies W2 W2.heap.size Az (zs.map str):=by rw [← hzs];exact hLz
    have hzl : ws.length + 1 - 3 = zs.length:=by rw [← hzs,List.length_drop];omega
    have hzb : ∀ z ∈ zs,z.length ≤ y.length:=fun z hz => Hwl.out z (by rw [← hzs] at hz;simp [List.mem_of_mem_drop hz])
    have hcut3 : ∀ W,(Instr.sliceAt 38 (.slice (some ⟨V.heap.size,0,none⟩) (ws.length + 1) (ws.length + 1)) (some (.int .i64 3)) none none).run Tryz.prog W = .ok (.slice Az zs.length zs.length) W:=by rw [← hzl];exact hcut3
    have hz6 : zs.length ≤ 6000:=by have h1:=Hwn.out;have h2:=Htl.out;simp only [List.length_cons] at h1;omega
    subst hgA
    clear hgF
    obtain ⟨Hcs,Hstep,Hgb,Hn0,Hn1,Hzs,HLz,Hzl,Hzb,Hml⟩:=hid10 hcs hstep hgb hn0 hn1 hzs hLz hzl hzb hml
    clear hcs hstep hgb hn0 hn1 hzs hLz hzl hzb hml
    gi_wp2_with fail
    refine wp_planAR ((W3.alloc (.cells #[.int .i64 0,.int .i64 0,.int .i64 0,.int .i64 0,.int .i64 0,.int .i64 0,.int .i64 0,.int .i64 0,.int .i64 0,.int .i64 0,.int .i64 0] 51)).drew) 8 9 [0,3] [some 39,some 40,some 41,some 42,some 43,some 44,some 45,some 46,some 6,none] [[],[0],[0,1],[],[3],[3,4],[0,1,2,3,4,5],[0,1,2,3,4,5,6],[],[0,1,2,3,4,5,6,7,8]] [0,1,2,3,4,5,6,7,8] rfl mixed rfl (by kernel_rfl) (by decide) (by decide) (by decide) rfl ?_
    iterate 9 apply Exists.intro
    refine ⟨rfl,?_,?_⟩
    ·simp only [tS,List.take_zero,AllFrom.cons_eq,AllFrom.nil_eq,OpGoalA]
     refine ⟨?_,?_,?_,?_,?_,?_,?_,?_,?_,trivial⟩
     all_goals (intro σ hp;(try simp only [gZ,gS,mC,mN,preF_cons,preF_nil,isV,and_true] at hp);(first | (have hq : True:=hp;clear hq hp) | skip))
     all_goals (go_simp;first | exact ⟨⟨rfl,rfl⟩,⟨rfl,rfl⟩⟩ | exact ⟨rfl,rfl⟩)
    intro σ hp
    simp only [gZ,gS,mC,mN,preF_cons,preF_nil,isV,and_true] at hp
    simp only [dS,List.drop_zero]
    go_simp
    clear hp
    refine wpList_store_new rfl 51 (.tmp 6) (.tmp 46) rfl W3.drew (List.replicate 11 (.int .i64 0)) (rwC (zeroRw (n0,n1))) 51 (by go_simp) (by go_simp;rfl) rfl (by kernel_rfl) (rwC_one _) ?_
    generalize hW4 : (W3.drew.alloc (.cells (rwC (zeroRw (n0,n1))).toArray 51)) = W4
    have hb4' : Below W3.heap.size W3 W4:=by rw [← hW4];exact ((Below.refl _ W3).drew).alloc (Nat.le_refl _) _
    have hbk4 : W4.heap[W3.heap.size]? = some (.cells (rwC (zeroRw (n0,n1))).toArray 51 (0,0)):=by rw [← hW4];exact heap_alloc_new W3.drew _
    clear hW4
    have hP4:=HP3.out.new hb4'
    have HP4:=Lib.hid hP4
    clear hP4
    go_wp2
    refine ⟨rfl,?_⟩
    apply_assumption
    have hJ4 : RowJ W3.heap.size (zeroRw (n0,n1)) W4:=⟨hbk4,by simp [zeroRw],by simp [zeroRw]⟩
    obtain ⟨HJ4,Hb4',Hbk4⟩:=hid3 hJ4 hb4' hbk4
    clear hJ4 hb4' hbk4
    gi_wp2
    gi_loopw [50] (fun i wr => ∃ k : Nat,k ≤ zs.length ∧ i = .int .i64 k ∧ Mod [W3.heap.size] W4 wr ∧ RowJ W3.heap.size ((zs.take k).foldl kvS (zeroRw (n0,n1))) wr) (fun i wr => zs.length - (Go.RowKit.intOf i).toNat)
    case atStart => exact ⟨0,by omega,rfl,Mod.refl _ _,HJ4.out⟩
    case round =>
     obtain ⟨k,hk,rfl,hM,hJ⟩:=hrel
     by_cases hlt : k < zs.length
     ·have hB5 : Below W3.heap.size W3 wr:=Hb4'.out.trans (hM.toBelow (by simp) Hb4'.out.size)
      have hB2w : Below W2.heap.size W2 wr:=Hb3.out.trans (hB5.mono Hb3.out.size)
      obtain ⟨aZ,rfl,haz,hcz⟩:=(HLz.out.below hB2w).str_ hlt
      have hx:=Hzb.out _ (List.getElem_mem hlt)
      have hs:=take_succ_get zs k hlt
      generalize zs[k] = z at *
      have hBw : Below w.heap.size w wr:=HB3.out.trans (hB5.mono HB3.out.size)
      have hzl6 : z.length ≤ 6000:=by have:=Htl.out;omega
      have H1:=Lib.hid (cutT_any z [61] (HLv.out.below hBw) (by omega))
      have hkv:=kvS_eq ((zs.take k).foldl kvS (zeroRw (n0,n1))) z
      have hpl:=cut_len z
      generalize hR : (zs.take k).foldl kvS (zeroRw (n0,n1)) = R at *
      generalize (Lib.cut z [61]).1 = p at *
      generalize (Lib.cut z [61]).2.1 = q at *
      generalize (Lib.cut z [61]).2.2 = bb at *
      have hrl:=blk_lt hJ.blk
      unfold str at hcz H1
      obtain ⟨HB5,HB2w,Hx,Hs,HBw,Hzl6,Hkv,Hpl,HR,HM,HJ⟩:=hid11 hB5 hB2w hx hs hBw hzl6 hkv hpl hR hM hJ
      clear hB5 hB2w hx hs hBw hzl6 hkv hpl hR hM hJ
      gi_wp2_with fail
      refine ⟨trivial,(CallsIn.inRound l (callsIn_wide.2 H1.out)).mono ?_⟩
      rintro e V1 ⟨rfl,hb1⟩
      have hb2' : Below V1.heap.size V1 (V1.alloc (.cells #[str p,str q] 9)):=(Below.refl _ V1).alloc (Nat.le_refl _) _
      have hbk2':=heap_alloc_new V1 (.cells #[str p,str q] 9)
      generalize hV2 : V1.alloc (.cells #[str p,str q] 9) = V2 at *
      have hBV2 : Below wr.heap.size wr V2:=hb1.trans (hb2'.mono hb1.size)
      have hLp : Lies V2 V2.heap.size (some ⟨V1.heap.size,0,none⟩) ([p,q].map str):=fun i v hv => by
       refine ⟨_,rfl,blk_lt hbk2',?_⟩
       rw [Addr.add_mid,Nat.zero_add]
       exact (blk_cell hbk2' i).trans (by rw [List.getElem?_toArray];exact hv)
      have H2':=Lib.hid (numbers_any (c:=2) (HLv.out.below (HBw.out.trans (hBV2.mono HBw.out.size))) (by simp) (by have:=Hpl.out;have:=Hzl6.out;simp;omega) hLp)
      rw [← hV2] at H2'
      unfold str at H2'
      obtain ⟨Hb1,Hb2',Hbk2',HBV2,HLp,HV2⟩:=hid6 hb1 hb2' hbk2' hBV2 hLp hV2
      clear hb1 hb2' hbk2' hBV2 hLp hV2
      gi_wp2_with fail
      refine ⟨trivial,(CallsIn.inRound l (callsIn_wide.2 H2'.out)).mono ?_⟩
      rintro e V3 ⟨v7,rfl,hv7,hb7⟩
      have hV2':=HV2.out
      unfold str at hV2'
      rw [hV2'] at hv7 hb7
      have hv7 : V3.ownsRow V2.heap.size 3 1 v7 2 (ints [num0 p,num0 q]):=hv7
      obtain ⟨A7,c7,rfl,hc7,_⟩:=row_lies hv7
      obtain ⟨gL,rfl,hgl7,hgb7,hcs7⟩:=row_open hv7 (by omega)
      have b0:=hcs7 0 _ rfl
      have b1:=hcs7 1 _ rfl
      have hbV3 : Below wr.heap.size wr V3:=HBV2.out.trans (hb7.mono HBV2.out.size)
      have hJ3 : RowJ W3.heap.size R V3:=⟨(Mod.ofBelow hbV3).keep HJ.out.blk (by simp),HJ.out.k0,HJ.out.k1⟩
      have hM3 : Mod [W3.heap.size] W4 V3:=HM.out.andBelow hbV3
      have hkv2:=Hkv.out
      generalize num0 p = l0 at *
      generalize num0 q = l1 at *
      have hrg : W3.heap.size < gL:=by have:=HBV2.out.size;omega
      have hrl3:=blk_lt hJ3.blk
      clear hV2' hc7
      obtain ⟨Hcs7,HbV3,HM3,Hv7,Hb7,Hgb7⟩:=hid6 hcs7 hbV3 hM3 hv7 hb7 hgb7
      clear hcs7 hbV3 hM3 hv7 hb7 hgb7
      by_cases h0 : 0 ≤ l0
      ·by_cases h8 : l0 < 8
       ·obtain ⟨j,rfl⟩:=Int.eq_ofNat_of_zero_le h0
        have hj : j < 8:=by omega
        rw [if_pos ⟨h0,h8⟩] at hkv2
        have hkv2 : kvS R z = putR R j l1:=hkv2
        obtain ⟨ho1,ho2,ho3⟩:=orK R.2.1 HJ.out.k0 HJ.out.k1 j hj
        have hRc:=rowSet_cells R j hj (putK R.2.1 j) l1
        have k2 : V3.cell? ⟨W3.heap.size,2,none⟩ = some (.int .i64 R.2.1):=blk_cell hJ3.blk 2
        have f2k:=blk_free hJ3.blk 2
        obtain ⟨Hkv2,HRc,HJ3,Ho2,Ho3⟩:=hid5 hkv2 hRc hJ3 ho2 ho3
        clear hkv2 hRc hJ3 ho2 ho3
        gi_wp2_with fail
        refine wp_planRR 10 [3] [some 74,some 75,some 76,some 77,some 78,some 79,some 80,some 81,some 82,some 83,none] [[],[0],[0,1],[],[3],[3,4],[3,4,5],[0,1,2,3,4,5,6],[0,1,2,3,4,5,6,7],[0,1,2,3,4,5,6,7,8],[0,1,2,3,4,5,6,7,8,9]] [0,1,2,3,4,5,6,7,8,9] rfl mixed rfl (by kernel_rfl) (by decide) (by decide) rfl ?_
        iterate 10 apply Exists.intro
        refine ⟨rfl,?_,?_⟩
        ·simp only [tS,List.take_zero,AllFrom.cons_eq,AllFrom.nil_eq,OpGoalQ]
         refine ⟨?_,?_,?_,?_,?_,?_,?_,?_,?_,?_,trivial⟩
         all_goals (intro σ hp;(try simp only [gZ,gS,mC,mN,preF_cons,preF_nil,isV,and_true] at hp);(first | (have hq : True:=hp;clear hq hp) | skip))
         all_goals (go_simp;exact ⟨rfl,rfl⟩)
        intro σ hp
        simp only [gZ,gS,mC,mN,preF_cons,preF_nil,isV,and_true] at hp
        simp only [dS,List.drop_zero]
        go_simp
        clear hp
        go_wp2
        rw [ho1]
        generalize hV4 : (V3.setCell ⟨W3.heap.size,2,none⟩ (.int .i64 (putK R.2.1 j))).drew = V4
        have hm4 : Mod [W3.heap.size] V3 V4:=by rw [← hV4];exact ((Mod.refl _ V3).setCell (.inl (by simp)) _).drew
        have hbk4' : V4.heap[W3.heap.size]? = some (.cells ((rwC R).toArray.setIfInBounds 2 (.int .i64 (putK R.2.1 j))) 51 (0,0)):=by rw [← hV4];exact blk_set (w:=V3) HJ3.out.blk 2 _
        clear hV4
        have hv74:=row_mod Hv7.out hm4 (fun y hy e => by simp [Value.ownBlock] at hy e;omega)
        have b0:=row_cell hv74 (i:=0) rfl
        have b1:=row_cell hv74 (i:=1) rfl
        have hgl4 : gL < V4.heap.size:=row_lt hv74 gL rfl
        have hrl4:=blk_lt hbk4'
        have fj:=blk_free hbk4' (3 + j)
        obtain ⟨uj,hcj⟩ : ∃ u,V4.cell? ⟨W3.heap.size,3 + j,none⟩ = some u:=by
         rw [blk_cell hbk4' (3 + j)]
         exact ⟨_,Array.getElem?_eq_getElem (by rw [Array.size_setIfInBounds,List.size_toArray,rwC_len];omega)⟩
        have hji : (j : Int) < 8:=by omega
        obtain ⟨Hm4,Hbk4',Hv74⟩:=hid3 hm4 hbk4' hv74
        clear hm4 hbk4' hv74
        refine ⟨rfl,?_⟩
        apply_assumption
        refine wp_planRR 9 [0,3] [some 84,some 85,some 86,some 87,some 88,some 89,some 90,some 91,some 92,none] [[],[0],[0,1],[],[3],[3,4],[],[6],[0,1,2,3,4,5,6,7],[0,1,2,3,4,5,6,7,8]] [0,1,2,3,4,5,6,7,8] rfl mixed rfl (by kernel_rfl) (by decide) (by decide) rfl ?_
        iterate 9 apply Exists.intro
        refine ⟨rfl,?_,?_⟩
        ·simp only [tS,List.take_zero,AllFrom.cons_eq,AllFrom.nil_eq,OpGoalQ]
         refine ⟨?_,?_,?_,?_,?_,?_,?_,?_,?_,trivial⟩
         all_goals (intro σ hp;(try simp only [gZ,gS,mC,mN,preF_cons,preF_nil,isV,and_true] at hp);(first | (have hq : True:=hp;clear hq hp) | skip))
         all_goals (go_simp;exact ⟨rfl,rfl⟩)
        intro σ hp
        simp only [gZ,gS,mC,mN,preF_cons,preF_nil,isV,and_true] at hp
        simp only [dS,List.drop_zero]
        go_simp
        clear hp
        go_wp2
        generalize hV5 : (V4.setCell ⟨W3.heap.size,3 + j,none⟩ (.int .i64 l1)).drew = V5
        have hm5 : Mod [W3.heap.size] V4 V5:=by rw [← hV5];exact ((Mod.refl _ V4).setCell (.inl (by simp)) _).drew
        have hbk5 : V5.heap[W3.heap.size]? = some (.cells (rwC (putR R j l1)).toArray 51 (0,0)):=by
         rw [← hV5]
         exact (blk_set (w:=V4) Hbk4'.out (3 + j) _).trans (by rw [HRc.out];rfl)
        clear hV5
        have hMr : Mod [W3.heap.size] W4 V5:=(HM3.out.step Hm4.out).step hm5
        have hJr : RowJ W3.heap.size ((zs.take (k + 1)).foldl kvS (zeroRw (n0,n1))) V5:=by
         rw [Hs.out,List.foldl_append,List.foldl_cons,List.foldl_nil,HR.out,Hkv2.out]
         exact ⟨hbk5,Ho2.out,Ho3.out⟩
        obtain ⟨Hm5,Hbk5,HMr,HJr⟩:=hid4 hm5 hbk5 hMr hJr
        clear hm5 hbk5 hMr hJr
        refine ⟨rfl,?_⟩
        apply_assumption
        gi_wp2
        go_roundw
        case rel => exact ⟨k + 1,by omega,by go_num,HMr.out,HJr.out⟩
        case measure => simp [Go.RowKit.intOf];omega
       ·have h8d : decide (l0 < 8) = false:=by simpa using h8
        rw [if_neg (fun e => h8 e.2)] at hkv2
        have hJr : RowJ W3.heap.size ((zs.take (k + 1)).foldl kvS (zeroRw (n0,n1))) V3:=by
         rw [Hs.out,List.foldl_append,List.foldl_cons,List.foldl_nil,HR.out,hkv2]
         exact hJ3
        obtain ⟨Hkv2,HJ3,HJr⟩:=hid3 hkv2 hJ3 hJr
        clear hkv2 hJ3 hJr
        gi_wp2_with fail
        go_roundw
        case rel => exact ⟨k + 1,by omega,by go_num,HM3.out,HJr.out⟩
        case measure => simp [Go.RowKit.intOf];omega
      ·have h0d : decide (0 ≤ l0) = false:=by simpa using h0
       rw [if_neg (fun e => h0 e.1)] at hkv2
       have hJr : RowJ W3.heap.size ((zs.take (k + 1)).foldl kvS (zeroRw (n0,n1))) V3:=by
        rw [Hs.out,List.foldl_append,List.foldl_cons,List.foldl_nil,HR.out,hkv2]
        exact hJ3
       obtain ⟨Hkv2,HJ3,HJr⟩:=hid3 hkv2 hJ3 hJr
       clear hkv2 hJ3 hJr
       gi_wp2_with fail
       go_roundw
       case rel => exact ⟨k + 1,by omega,by go_num,HM3.out,HJr.out⟩
       case measure => simp [Go.RowKit.intOf];omega
     ·obtain rfl : k = zs.length:=by omega
      rw [List.take_length] at hJ
      have hP5:=HP4.out.mod hM (by have:=HB3.out.size;have:=HP3.out.below.size;simp;have:=blk_lt Hq.out;omega) (fun y hy e => by have:=row_lt HP3.out.r1 y hy;simp at e;omega) (fun y hy e => by have:=row_lt HP3.out.r2 y hy;simp at e;omega) (fun y hy e => by have:=row_lt HP3.out.r3 y hy;simp at e;omega) (fun y hy => by simp at hy;have:=blk_lt Hq.out;omega)
      have hq5:=hP5.box
      have q1:=blk_cell hq5 1
      simp only [eA,eZ,eS] at q1
      have ql5:=blk_lt hq5
      obtain ⟨HM,HJ,HP5,Hq5⟩:=hid4 hM hJ hP5 hq5
      clear hM hJ hP5 hq5
      generalize hR : zs.foldl kvS (zeroRw (n0,n1)) = R at *
      gi_wp2_with (refine list_roundL (.load 51 (.tmp 6)) rfl rfl ?_)
      refine wpList_load_flat rfl 51 (.tmp 6) rfl ⟨W3.heap.size,0,none⟩ (by go_simp) (rwC R) _ Tryz.underlying51 rfl (by kernel_rfl) (fun j u hu => by
       rw [Addr.add_mid,Nat.zero_add]
       exact (blk_cell HJ.out.blk j).trans (by rw [List.getElem?_toArray];exact hu)) ?_
      refine wpList_build1 rfl 23 51 (.tmp 96) rfl (rwC R) (by go_simp) Tryz.underlying23 inf_Row (rwC_len R) (by omega) (by omega) ?_
      have hbk6:=heap_alloc_new wr (.cells (rwC R).toArray 51)
      have hb6 : Below wr.heap.size wr (wr.alloc (.cells (rwC R).toArray 51)):=(Below.refl _ wr).alloc (Nat.le_refl _) _
      generalize hW6 : wr.alloc (.cells (rwC R).toArray 51) = W6 at *
      clear hW6
      have hP6:=HP5.out.new hb6
      have hB5 : Below W3.heap.size W3 wr:=Hb4'.out.trans (HM.out.toBelow (by simp) Hb4'.out.size)
      have hB6 : Below W3.heap.size W3 W6:=hB5.trans (hb6.mono hB5.size)
      have hst6 : st.2.1.length ≤ 6000:=by have h1:=(steps_len pre ([],[],[])).1;rw [Hst.out] at h1;have h2:=Hxs2.out;simp only [List.length_nil] at h1;omega
      refine app_rw rfl (.tmp 95) (.tmp 97) rfl w.heap.size v2 st.2.1 R ⟨wr.heap.size,0,none⟩ 1 (by go_simp) hP6.r2 (by go_simp) (fun j u hu => by
       rw [Addr.add_mid,Nat.zero_add]
       exact (blk_cell hbk6 j).trans (by rw [List.getElem?_toArray];exact hu)) (by omega) hP6.below.size ?_
      intro v' W7 hr7 hg7 hv7
      obtain ⟨A6,c6,rfl,_⟩:=row_slice hr7
      have hcl : w.heap.size + 1 < W3.heap.size:=by have:=HOl.out;have:=Hb23.out.size;omega
      obtain ⟨k1,k2,k3⟩:=hP6.fin1 hg7 hr7 hv7 (by have:=hB6.size;omega) (by omega)
      have hq7:=((Mod.refl v2.ownBlock.toList W6).grown hg7 (fun k hk => .inl (by simp [hk]))).keep hP6.box (fun e => hP6.ne2 _ (Option.mem_toList.1 e) rfl)
      have q1:=blk_cell hq7 1
      simp only [eA,eZ,eS] at q1
      have f1:=blk_free hq7 1
      have ql7:=blk_lt hq7
      have hfin:=(⟨((keptO_below Hb23.out).trans (keptO_below hB6)).trans k1,(k2.trans (hB6.block _ hcl)).trans Hcn.out,by rw [Hstep.out];exact ⟨_,_,_,k3⟩⟩ : KeptO _ _ ∧ _ ∧ PaJ w (w.heap.size + 1) (stepW st _) _)
      simp only [List.length_append,List.length_cons,List.length_nil,Nat.zero_add] at hfin
      obtain ⟨Hfin,K1,K2,K3,Hr7,Hg7,Hv7,HP6,Hq7,HB5,HB6,Hcl⟩:=hid12 hfin k1 k2 k3 hr7 hg7 hv7 hP6 hq7 hB5 hB6 hcl
      clear hfin k1 k2 k3 hr7 hg7 hv7 hP6 hq7 hB5 hB6 hcl
      go_wp2
      exact ⟨rfl,HFin.out { tmps:=#[],defers:=[] } _ Hfin.out.1 Hfin.out.2.1 Hfin.out.2.2⟩
   ·by_cases hbd : wd = wBond ∧ ws.length = 4
    ·obtain ⟨hbw,hb4⟩:=hbd
     subst hbw
     have hstep : stepW st (wBond :: ws) = (st.1,st.2.1,st.2.2 ++ [((((ws.map num0).getD 0 0,(ws.map num0).getD 1 0),((ws.map num0).getD 2 0,(ws.map num0).getD 3 0)) : Bd)]):=by
      unfold stepW
      rw [if_neg (by rw [List.head?_cons];decide : ¬ (wBond :: ws).head? = some wGens),if_neg (fun e => absurd e.1 (by rw [List.head?_cons];decide)),if_pos ⟨rfl,hb4⟩];rfl
     obtain ⟨gA,hgA,hgl,hgb,hcs⟩:=row_open Hv5.out (by omega)
     obtain ⟨z0,z1,z2,z3,hws4⟩ : ∃ z0 z1 z2 z3,ws = [z0,z1,z2,z3]:=by
      match ws,hb4 with
      | [z0,z1,z2,z3],_ => exact ⟨_,_,_,_,rfl⟩
     subst hws4
     clear hr hgF
     have a0:=hcs 0 _ rfl
     have a1:=hcs 1 _ rfl
     have a2:=hcs 2 _ rfl
     have a3:=hcs 3 _ rfl
     simp only [mC,mN,gZ,gS] at hstep
     generalize num0 z0 = m0 at *
     generalize num0 z1 = m1 at *
     generalize num0 z2 = m2 at *
     generalize num0 z3 = m3 at *
     subst hgA
     obtain ⟨Hcs,Hstep,Hgb⟩:=hid3 hcs hstep hgb
     clear hcs hstep hgb
     gi_wp2_with fail
     refine wp_planAR ((W3.alloc (.cells #[.int .i64 m0,.int .i64 m1,.int .i64 m2,.int .i64 m3] 55)).drew) 17 18 [2,5,9,12] [some 110,some 111,some 112,some 113,some 114,some 115,some 116,some 117,some 118,some 119,some 120,some 121,some 122,some 123,some 124,some 125,some 126,some 127,some 128,some 129,none] [[],[0],[],[2],[2,3],[],[5],[5,6],[2,3,4,5,6,7],[],[9],[9,10],[],[12],[12,13],[9,10,11,12,13,14],[2,3,4,5,6,7,8,9,10,11,12,13,14,15],[2,3,4,5,6,7,8,9,10,11,12,13,14,15,16],[0,1,2,3,4,5,6,7,8,9,10,11,12,13,14,15,16,17],[0,1,2,3,4,5,6,7,8,9,10,11,12,13,14,15,16,17,18],[0,1,2,3,4,5,6,7,8,9,10,11,12,13,14,15,16,17,18,19]] [0,1,2,3,4,5,6,7,8,9,10,11,12,13,14,15,16,17] rfl mixed rfl (by kernel_rfl) (by decide) (by decide) (by decide) rfl ?_
     iterate 18 apply Exists.intro
     refine ⟨rfl,?_,?_⟩
     ·simp only [tS,List.take_zero,AllFrom.cons_eq,AllFrom.nil_eq,OpGoalA]
      refine ⟨?_,?_,?_,?_,?_,?_,?_,?_,?_,?_,?_,?_,?_,?_,?_,?_,?_,?_,trivial⟩
      all_goals (intro σ hp;(try simp only [gZ,gS,mC,mN,preF_cons,preF_nil,isV,and_true] at hp);(first | (have hq : True:=hp;clear hq hp) | skip))
      all_goals (go_simp;first | exact ⟨⟨rfl,rfl⟩,⟨rfl,rfl⟩⟩ | exact ⟨rfl,rfl⟩)
     intro σ hp
     simp only [gZ,gS,mC,mN,preF_cons,preF_nil,isV,and_true] at hp
     simp only [dS,List.drop_zero]
     go_simp
     clear hp
     generalize hW4 : (W3.alloc (.cells #[.int .i64 m0,.int .i64 m1,.int .i64 m2,.int .i64 m3] 55)).drew = W4
     have hb4' : Below W3.heap.size W3 W4:=by rw [← hW4];exact ((Below.refl _ W3).alloc (Nat.le_refl _) _).drew
     have hbk4 : W4.heap[W3.heap.size]? = some (.cells #[.int .i64 m0,.int .i64 m1,.int .i64 m2,.int .i64 m3] 55 (0,0)):=by rw [← hW4];exact heap_alloc_new W3 _
     clear hW4
     have hP4:=HP3.out.new hb4'
     have hst6 : st.2.2.length ≤ 6000:=by have h1:=(steps_len pre ([],[],[])).2;rw [Hst.out] at h1;have h2:=Hxs2.out;simp only [List.length_nil] at h1;omega
     refine app_bd rfl (.tmp 111) (.tmp 127) rfl w.heap.size v3 st.2.2 ((m0,m1),(m2,m3)) ⟨W3.heap.size,0,none⟩ 1 (by go_simp) hP4.r3 (by go_simp) (fun j u hu => by
      rw [Addr.add_mid,Nat.zero_add]
      exact (blk_cell hbk4 j).trans (by rw [List.getElem?_toArray];exact hu)) (by omega) hP4.below.size ?_
     intro v' W5 hr5 hg5 hv5'
     obtain ⟨A6,c6,rfl,_⟩:=row_slice hr5
     obtain ⟨k1,k2,k3⟩:=hP4.fin2 hg5 hr5 hv5' (by have:=hb4'.size;have:=HOl.out;have:=Hb23.out.size;omega) (by omega)
     have hq5:=((Mod.refl v3.ownBlock.toList W4).grown hg5 (fun k hk => .inl (by simp [hk]))).keep hP4.box (fun e => hP4.ne3 _ (Option.mem_toList.1 e) rfl)
     have q2:=blk_cell hq5 2
     simp only [eA,eZ,eS] at q2
     have f2:=blk_free hq5 2
     have ql5:=blk_lt hq5
     have hfin:=(⟨((keptO_below Hb23.out).trans (keptO_below hb4')).trans k1,(k2.trans (hb4'.block _ (by have:=HOl.out;have:=Hb23.out.size;omega))).trans Hcn.out,by rw [Hstep.out];exact ⟨_,_,_,k3⟩⟩ : KeptO _ _ ∧ _ ∧ PaJ w (w.heap.size + 1) (stepW st _) _)
     obtain ⟨K1,K2,K3,Hr5,Hg5,Hv5',HP4,Hq5⟩:=hid8 k1 k2 k3 hr5 hg5 hv5' hP4 hq5
     clear k1 k2 k3 hr5 hg5 hv5' hP4 hq5
     simp only [List.length_append,List.length_cons,List.length_nil,Nat.zero_add] at hfin
     have Hfin:=Lib.hid hfin
     clear hfin
     go_wp2
     exact ⟨rfl,HFin.out { tmps:=#[],defers:=[] } _ Hfin.out.1 Hfin.out.2.1 Hfin.out.2.2⟩
    ·have hstep : stepW st (wd :: ws) = st:=by
      unfold stepW
      rw [if_neg (by simpa using Hg.out),if_neg (by simpa using hr),if_neg (by simpa using hbd)]
     have Hstep:=Lib.hid hstep
     clear hstep
     by_cases h1 : wd = wRow
     ·subst h1
      have hlw : ¬ (1 : Int) < (ws.length : Int):=by have:=hr;simp only [true_and] at this;omega
      clear hr hbd
      gi_wp2_with fail
      refine HFin.out { tmps:=#[],defers:=[] } _ (keptO_below Hb23.out) Hcn.out ?_
      rw [Hstep.out]
      exact ⟨_,_,_,HP3.out⟩
     ·have h1F : ¬ wd = [114,111,119]:=h1
      clear hr
      by_cases h2 : wd = wBond
      ·subst h2
       have hlw : ((ws.length : Int) == 4) = false:=by have:=hbd;simp only [true_and] at this;simpa using (by omega : ¬ (ws.length : Int) = 4)
       clear hbd
       gi_wp2_with fail
       refine HFin.out { tmps:=#[],defers:=[] } _ (keptO_below Hb23.out) Hcn.out ?_
       rw [Hstep.out]
       exact ⟨_,_,_,HP3.out⟩
      ·have h2F : ¬ wd = [98,111,110,100]:=h2
       clear hbd
       gi_wp2_with fail
       refine HFin.out { tmps:=#[],defers:=[] } _ (keptO_below Hb23.out) Hcn.out ?_
       rw [Hstep.out]
       exact ⟨_,_,_,HP3.out⟩
 case done =>
  rintro D W hD ⟨v1,v2,v3,hP⟩ hK
  have hsz:=hP.below.size
  have hDl:=blk_lt hK
  have hDw : w.heap.size + 2 ≤ D:=by have:=HS0.out;have:=HS1.out;omega
  have hst:=stepC_putObj (c:=w.heap.size + 1) (n:=w.heap.size + 2) (.deferred none) hK rfl hDw
  have hP2 : PaB w (w.heap.size + 1) (parseX t) v1 v2 v3 (W.putObj D (.deferred none)):=⟨hst.keep _ _ hP.box (by omega) (.inr rfl),hst.row hP.r1 hP.n1,hst.row hP.r2 hP.n2,hst.row hP.r3 hP.n3,hP.n1,hP.n2,hP.n3,hst.below hP.below (by omega) (by omega) hP.below.size⟩
  have hq:=hP.box
  have q0:=blk_cell hq 0;have q1:=blk_cell hq 1;have q2:=blk_cell hq 2
  simp only [eA,eZ,eS] at q0 q1 q2
  have f0:=blk_free hq 0;have f1:=blk_free hq 1;have f2:=blk_free hq 2
  have ql:=blk_lt hq
  obtain ⟨A1,c1,rfl,_⟩:=row_slice hP.r1
  obtain ⟨A2,c2,rfl,_⟩:=row_slice hP.r2
  obtain ⟨A3,c3,rfl,_⟩:=row_slice hP.r3
  have e0:=blk_same hq 0 (.slice A1 _ c1) rfl;have e1:=blk_same hq 1 (.slice A2 _ c2) rfl;have e2:=blk_same hq 2 (.slice A3 _ c3) rfl
  have hq':=hP2.box
  have p0:=blk_cell hq' 0;have p1:=blk_cell hq' 1;have p2:=blk_cell hq' 2
  simp only [eA,eZ,eS] at p0 p1 p2
  obtain ⟨HP,HP2,HK,Hst,Hq,Hq',HE0,HE1,HE2,P0,P1,P2⟩:=hid12 hP hP2 hK hst hq hq' e0 e1 e2 p0 p1 p2
  clear hP hP2 hK hst hq hq' e0 e1 e2 p0 p1 p2
  go_wp2
  rw [HE0.out,HE1.out,HE2.out]
  refine ⟨by simp,.inl ⟨_,_,rfl,run_takeDeferred HK.out,?_⟩⟩
  have p0:=P0.out;have p1:=P1.out;have p2:=P2.out
  have pl:=blk_lt Hq'.out
  refine ⟨.agg #[_,_,_],?_,⟨_,_,_,rfl,HP2.out.r1,HP2.out.r2,HP2.out.r3,HP2.out.below⟩⟩
  unfold results
  go_simp
end Go.Proofs.YtoheblfpjinmnaaGreatDoor
