import Derived.Test.YtehjfmjibiafdaaGreatRunSerialsJ24
import Derived.Test.YtehjfmjibiafdaaGreatRunSerialsJ25
/- A part of the proof that RunSerials returns true. -/
namespace Go.Proofs.YtehjfmjibiafdaaGreat
open Go Go.RowKit
variable {vB : Value}
attribute [local go_sem] AllFrom.cons_eq AllFrom.nil_eq putF_nil putF_cons wantedL_none wantedL_some OpGoalT OpGoalV OpGoalQ OpGoalK YieldsR preF_nil preF_cons
theorem rep_finZ {w w1 w8 w9 : World} {q : Nat} {sl : Sl} {L : List Rw} {F F' Z : List Nat} (hb : Below w.heap.size w w1) (hZ : ∀ z ∈ Z,w.heap.size ≤ z ∧ z < w1.heap.size) (hF : ∀ y ∈ F,y < w.heap.size) (h : RepZ vB w8 q sl L F') (hT : Turns w1 F F' w8) (hm : Mod Z w8 w9) :
  RepZ vB w9 q sl L F' ∧ Turns w F F' w9:=by
 refine ⟨h.mod hm (fun y hy e => ?_),(Turns.after hb hT).mod.trans hm (fun x hx => .inr (hZ x hx).1),(Turns.after hb hT).new⟩
 have:=hZ y e
 rcases hT.new y hy with h1 | h1
 ·have:=hF _ h1;omega
 ·omega
theorem RepZ.turnSl {w w' : World} {q : Nat} {sl sl' : Sl} {L : List Rw} {FS F2 : List Nat} {vL : Value} (h1 : RepZS vL vB w q sl FS) (h2 : w.ownsRow 0 69 11 vL L.length (L.flatMap rwC)) (h3 : (FS ++ vL.ownBlock.toList).Nodup)
  (hz : RepZS vL vB w' q sl' F2) (hT : Turns w FS F2 w') : RepZ vB w' q sl' L (F2 ++ vL.ownBlock.toList) ∧ Turns w (FS ++ vL.ownBlock.toList) (F2 ++ vL.ownBlock.toList) w':=by
 have hd : ∀ k ∈ vL.ownBlock.toList,k ∉ FS:=fun k hk e => (List.nodup_append.1 h3).2.2 k e k hk rfl
 have hl:=row_lt h2
 refine ⟨⟨vL,F2,hz,row_mod h2 hT.mod (fun k hk => hd k (by simp [hk])),rfl,?_⟩,hT.mod.mono (fun x hx => .inl (List.mem_append_left _ hx)),fun k hk => ?_⟩
 ·rw [List.nodup_append]
  refine ⟨by obtain ⟨_,_,_,_,_,_,hn⟩:=hz;exact hn,by cases vL.ownBlock <;> simp,fun a ha b hb e => ?_⟩
  subst e
  rcases hT.new a ha with h | h
  ·exact hd a hb h
  ·have:=hl a (by simpa using hb);omega
 ·rcases List.mem_append.1 hk with hk | hk
  ·rcases hT.new k hk with h | h
   ·exact .inl (by simp [h])
   ·exact .inr h
  ·exact .inl (List.mem_append_right _ hk)
theorem insR_split {L : List Rw} {x : Rw} {k : Nat} (hk : k ≤ L.length) (h1 : ∀ j (h : j < L.length),j < k → L[j].1.1 < x.1.1) (h2 : ∀ h : k < L.length,¬ L[k].1.1 < x.1.1) : insR L x = L.take k ++ x :: L.drop k:=by
 have e1 : L.takeWhile (fun y => decide (y.1.1 < x.1.1)) = L.take k:=by
  conv => lhs;rw [← List.take_append_drop k L]
  rw [List.takeWhile_append_of_pos]
  ·cases hd : L.drop k with
   | nil => simp
   | cons y l =>
    have hkl : k < L.length:=by
     rcases Nat.lt_or_ge k L.length with h | h
     ·exact h
     ·rw [List.drop_eq_nil_of_le h] at hd;cases hd
    rw [List.drop_eq_getElem_cons hkl] at hd
    simp only [List.cons.injEq] at hd
    rw [List.takeWhile_cons_of_neg (by rw [← hd.1];simpa using h2 hkl)];simp
  ·intro y hy
   obtain ⟨j,hj,e⟩:=List.mem_iff_getElem.1 hy
   rw [List.length_take] at hj
   rw [List.getElem_take] at e
   rw [← e];simpa using h1 j (by omega) (by omega)
 have e2 : L.dropWhile (fun y => decide (y.1.1 < x.1.1)) = L.drop k:=by
  have h3:=List.takeWhile_append_dropWhile (p:=fun y : Rw => decide (y.1.1 < x.1.1)) (l:=L)
  rw [e1] at h3
  exact List.append_cancel_left (h3.trans (List.take_append_drop k L).symm)
 unfold insR
 rw [e1,e2]
theorem yr_appV {P : Program} {o : Oper} {ρ : Operand → Value} {w w' : World} {J : Value → World → Prop} (s x : Operand) (T : TypeId)
  (ho : o.op = .call { callee:=.builtin .append,args:=#[s,x],argTypes:=#[T,T] }) {v' v1 v2 : Value} (h1 : ρ s = v1) (h2 : ρ x = v2) (hr : (Builtin.append_ #[T,T] o.type #[v1,v2]).run P w = .ok v' w') (h : J v' w') : YieldsR P o ρ w J:=by
 subst h1 h2
 unfold YieldsR execOp
 simp only [ho,resolve,invoke,builtin,Sem.run_bind,Sem.run_pure,Result.andThen_ok,List.map_toArray,mC,mN,hr]
 exact h
theorem slice_split {w : World} {A : Option Addr} {cap k : Nat} {L : List Rw} (hrow : w.ownsRow 0 69 11 (.slice A L.length cap) L.length (L.flatMap rwC)) (hk : k ≤ L.length) (hl : L.length ≤ 60) :
  ∃ v6 v18,(∀ W,(Instr.sliceAt 23 (.slice A L.length cap) none (some (.int .i64 (k : Int))) none).run Tryz.prog W = .ok v6 W) ∧ (∀ W,(Instr.sliceAt 23 (.slice A L.length cap) (some (.int .i64 (k : Int))) none none).run Tryz.prog W = .ok v18 W) ∧
   (∀ V,Mod [] w V → Calls Tryz.prog 40 #[v6] V (MadeR 69 11 rwC (L.take k) V)) ∧
   ∀ V,Mod [] w V → ∀ ty base v (l : List Rw),V.ownsRow base 69 11 v l.length (l.flatMap rwC) → l.length ≤ 61 → base ≤ V.heap.size →
    ∃ v' V',(Builtin.append_ #[23,23] ty #[v,v18]).run Tryz.prog V = .ok v' V' ∧ V'.ownsRow base 69 11 v' (l ++ L.drop k).length ((l ++ L.drop k).flatMap rwC) ∧ V.grownBy V' v.ownBlock:=by
 obtain ⟨i0,hi,hz0,hz1,hz2⟩:=info_parts inf_Row
 have hel : Tryz.prog.elem 23 = 69:=by kernel_rfl
 have hsz : (sizeOf (Tryz.prog.elem 23)).run Tryz.prog = fun W => .ok 11 W:=by
  funext W
  rw [hel]
  simp [sizeOf,typeInfo,hi,hz1]
 have hund : Tryz.prog.underlying 23 = some (.slice (Tryz.prog.elem 23)):=by rw [hel];exact Tryz.underlying23
 obtain ⟨A',c',e,hcl,hlies⟩:=own_lies hrow
 cases e
 have hm6 : ∀ W,(Instr.sliceAt 23 (.slice A L.length cap) none (some (.int .i64 (k : Int))) none).run Tryz.prog W = .ok (.slice (if cap = 0 then A else A.map (·.add (0 * 11))) (k - 0) (cap - 0)) W:=by
  intro W
  rw [run_sliceAt_slice _ _ _ _ _ _ hund,run_slice_h W _ A L.length cap hund .i64 k (by omega) (by omega),hsz]
  simp only [Result.andThen,sliced,Int.toNat_natCast]
 have hm18 : ∀ W,(Instr.sliceAt 23 (.slice A L.length cap) (some (.int .i64 (k : Int))) none none).run Tryz.prog W = .ok (.slice (if cap = k then A else A.map (·.add (k * 11))) (L.length - k) (cap - k)) W:=by
  intro W
  rw [run_sliceAt_slice _ _ _ _ _ _ hund,run_slice_l W _ A L.length cap hund .i64 k (by omega) (by omega),hsz]
  simp only [Result.andThen,sliced,Int.toNat_natCast]
 have htl : (L.take k).length = k:=by rw [List.length_take];omega
 have hdl : (L.drop k).length = L.length - k:=List.length_drop
 refine ⟨_,_,hm6,hm18,fun V hV => ?_,fun V hV ty base v l hown hl61 hbase => ?_⟩
 ·have hrow2:=row_mod hrow hV (by simp)
  have hA : (if cap = 0 then A else A.map (·.add (0 * 11))) = A:=by
   split
   ·rfl
   ·rcases hrow with ⟨-,⟨h1,-⟩ | ⟨g,cap2,cur,h1,-⟩⟩
    ·simp only [Value.slice.injEq] at h1;rw [h1.1];rfl
    ·simp only [Value.slice.injEq] at h1;rw [h1.1];rfl
  rw [hA]
  have hh:=copyR_any A (cap - 0) (L.take k) V (by rw [htl];omega) (fun j u hu => by
   obtain ⟨A2,c2,e,-,hl2⟩:=own_lies hrow2
   cases e
   refine hl2 j u ?_
   have hj:=(List.getElem?_eq_some_iff.1 hu).1
   conv => lhs;rw [← List.take_append_drop k L]
   rw [List.flatMap_append,List.getElem?_append_left hj]
   exact hu) (fun e => ?_) (fun e => ?_)
  ·rw [htl] at hh;exact hh
  ·subst e
   rcases hrow with ⟨-,⟨h1,h2⟩ | ⟨g,cap2,cur,h1,-⟩⟩
   ·simp only [Value.slice.injEq,true_and] at h1
    rw [List.eq_nil_of_length_eq_zero h1.1];simp
   ·cases h1
  ·subst e
   rcases hrow with ⟨-,⟨h1,h2⟩ | ⟨g,cap2,cur,h1,-⟩⟩
   ·simp only [Value.slice.injEq,true_and] at h1
    omega
   ·cases h1
 ·have hrow2:=row_mod hrow hV (by simp)
  rcases hrow2 with ⟨hx,⟨h1,h2⟩ | ⟨g,cap2,cur,h1,-⟩⟩
  ·simp only [Value.slice.injEq] at h1
   obtain ⟨rfl,h3,h4⟩:=h1
   have hL : L = []:=List.eq_nil_of_length_eq_zero h3
   subst hL
   obtain rfl : k = 0:=by simpa using hk
   refine ⟨v,V,?_,by simpa using hown,⟨rfl,rfl,rfl,Nat.le_refl _,fun _ _ _ => rfl⟩⟩
   have:=run_append_owned_none (P:=Tryz.prog) V base 23 ty 69 i0 11 Tryz.underlying23 hi v l.length _ hown
   subst h4
   exact this
  ·simp only [Value.slice.injEq] at h1
   obtain ⟨rfl,-,rfl⟩:=h1
   have hrow2:=row_mod hrow hV (by simp)
   obtain ⟨ad,had,hc⟩ : ∃ ad,(if cap = k then some (⟨g,0,none⟩ : Addr) else (some (⟨g,0,none⟩ : Addr)).map (·.add (k * 11))) = some ad ∧ ∀ j u,((L.drop k).flatMap rwC)[j]? = some u → V.cell? (ad.add j) = some u:=by
    by_cases e : cap = k
    ·refine ⟨⟨g,0,none⟩,by rw [if_pos e],fun j u hu => ?_⟩
     rw [List.drop_eq_nil_of_le (by omega)] at hu
     simp at hu
    ·refine ⟨(⟨g,0,none⟩ : Addr).add (k * 11),by rw [if_neg e];rfl,fun j u hu => ?_⟩
     have h5:=row_cell hrow2 (i:=k * 11 + j) (u:=u) (by
      conv => lhs;rw [← List.take_append_drop k L]
      rw [List.flatMap_append,List.getElem?_append_right (by rw [flatV_length rwC_len,htl];omega),flatV_length rwC_len,htl,show k * 11 + j - k * 11 = j by omega]
      exact hu)
     rw [show ((⟨g,0,none⟩ : Addr).add (k * 11)).add j = ⟨g,k * 11 + j,none⟩ by rw [Addr.add_mid,Addr.add_mid,Nat.zero_add]]
     exact h5
   rw [had]
   obtain ⟨v',V',hr,h2,h3,-,-⟩:=run_append_own_at (P:=Tryz.prog) V base 23 ty 69 i0 _ 11 88 Tryz.underlying23 hi hz0 hz1 hz2 rfl (by omega) v l.length _ hown ad (L.length - k) (cap - k) ((L.drop k).flatMap rwC) (by rw [flatV_length rwC_len,hdl]) hc (flat_one rwC_one _) (by unfold maxLen;omega) (by omega) hbase
   refine ⟨v',V',hr,?_,h3⟩
   rw [List.length_append,List.flatMap_append,hdl]
   exact h2
structure ISp (w5 : World) (l1 l2 : List Rw) (x : Rw) (L : Nat → Bool) (σ : Nat → Value) (V : World) : Prop where
 b : Below w5.heap.size w5 V
 c : L 7 = true → L 12 = false → V.ownsRow w5.heap.size 69 11 (σ 7) l1.length (l1.flatMap rwC)
 o : L 11 = true → L 12 = false → oneR w5.heap.size (rwC x).toArray 69 (σ 11) V
 a : L 12 = true → L 19 = false → V.ownsRow w5.heap.size 69 11 (σ 12) (l1 ++ [x]).length ((l1 ++ [x]).flatMap rwC)
 e : L 19 = true → V.ownsRow w5.heap.size 69 11 (σ 19) (l1 ++ [x] ++ l2).length ((l1 ++ [x] ++ l2).flatMap rwC)
section
variable {w5 V V' : World} {l1 l2 : List Rw} {x : Rw} {L : Nat → Bool} {σ : Nat → Value}
theorem ISp.start (h : Below w5.heap.size w5 V) : ISp w5 l1 l2 x (fun _ => false) σ V:=⟨h,fun e => (by cases e),fun e => (by cases e),fun e => (by cases e),fun e => (by cases e)⟩
theorem ISp.read (h : ISp w5 l1 l2 x L σ V) {i : Nat} (h1 : 7 ≠ i ∧ 11 ≠ i ∧ 12 ≠ i ∧ 19 ≠ i) (v : Value) : ISp w5 l1 l2 x (upd L i) (updv σ i v) V:=by
 obtain ⟨n1,n2,n3,n4⟩:=h1
 have eL : ∀ j,j ≠ i → upd L i j = L j:=fun j hj => by unfold upd;simp [hj]
 have es : ∀ j,j ≠ i → updv σ i v j = σ j:=fun j hj => by unfold updv;rw [if_neg hj]
 refine ⟨h.b,?_,?_,?_,?_⟩
 ·rw [eL 7 n1,eL 12 n3,es 7 n1];exact h.c
 ·rw [eL 11 n2,eL 12 n3,es 11 n2];exact h.o
 ·rw [eL 12 n3,eL 19 n4,es 12 n3];exact h.a
 ·rw [eL 19 n4,es 19 n4];exact h.e
theorem ISp.copied (h : ISp w5 l1 l2 x L σ V) (h19 : L 19 = false) (hb : Below V.heap.size V V') {v : Value} (hv : V'.ownsRow V.heap.size 69 11 v l1.length (l1.flatMap rwC)) (h12 : L 12 = false) : ISp w5 l1 l2 x (upd L 7) (updv σ 7 v) V':=by
 have eL : ∀ j,j ≠ 7 → upd L 7 j = L j:=fun j hj => by unfold upd;simp [hj]
 have es : ∀ j,j ≠ 7 → updv σ 7 v j = σ j:=fun j hj => by unfold updv;rw [if_neg hj]
 have hs:=h.b.size
 refine ⟨h.b.trans (hb.mono hs),fun _ _ => ?_,?_,?_,?_⟩
 ·show V'.ownsRow _ _ _ (updv σ 7 v 7) _ _
  rw [show updv σ 7 v 7 = v from rfl]
  exact row_base hv (fun k hk => by have:=(hv.lt k hk).1;omega)
 ·rw [eL 11 (by decide),eL 12 (by decide),es 11 (by decide)];exact fun h1 h2 => oneR_mod (h.o h1 h2) (Mod.ofBelow hb) (by simp)
 ·rw [eL 12 (by decide),h12];intro e;cases e
 ·rw [eL 19 (by decide),h19];intro e;cases e
theorem ISp.oned (h : ISp w5 l1 l2 x L σ V) (h19 : L 19 = false) (h12 : L 12 = false) : ISp w5 l1 l2 x (upd L 11) (updv σ 11 (.slice (some ⟨V.heap.size,0,none⟩) 1 1)) (V.alloc (.cells (rwC x).toArray 69)):=by
 have eL : ∀ j,j ≠ 11 → upd L 11 j = L j:=fun j hj => by unfold upd;simp [hj]
 have es : ∀ v j,j ≠ 11 → updv σ 11 v j = σ j:=fun v j hj => by unfold updv;rw [if_neg hj]
 have hs:=h.b.size
 refine ⟨h.b.alloc hs _,?_,fun _ _ => ?_,?_,?_⟩
 ·rw [eL 7 (by decide),eL 12 (by decide),es _ 7 (by decide)];exact fun h1 h2 => row_mod (h.c h1 h2) ((Mod.refl [] V).alloc _) (by simp)
 ·exact oneR_new hs
 ·rw [eL 12 (by decide),h12];intro e;cases e
 ·rw [eL 19 (by decide),h19];intro e;cases e
theorem ISp.apped (h : ISp w5 l1 l2 x L σ V) (h19 : L 19 = false) (h7 : L 7 = true) (h12 : L 12 = false) {v : Value} (hg : V.grownBy V' (σ 7).ownBlock) (hv : V'.ownsRow w5.heap.size 69 11 v (l1 ++ [x]).length ((l1 ++ [x]).flatMap rwC)) : ISp w5 l1 l2 x (upd L 12) (updv σ 12 v) V':=by
 have eL : ∀ j,j ≠ 12 → upd L 12 j = L j:=fun j hj => by unfold upd;simp [hj]
 refine ⟨h.b.trans ((Below.refl w5.heap.size V).grown hg h.b.size (own_ge (h.c h7 h12))),?_,?_,fun _ _ => hv,?_⟩
 ·intro _ e;simp [upd] at e
 ·intro _ e;simp [upd] at e
 ·rw [eL 19 (by decide),h19];intro e;cases e
theorem ISp.apped2 (h : ISp w5 l1 l2 x L σ V) (h19 : L 19 = false) (h12 : L 12 = true) {v : Value} (hg : V.grownBy V' (σ 12).ownBlock) (hv : V'.ownsRow w5.heap.size 69 11 v (l1 ++ [x] ++ l2).length ((l1 ++ [x] ++ l2).flatMap rwC)) : ISp w5 l1 l2 x (upd L 19) (updv σ 19 v) V':=by
 have eL : ∀ j,j ≠ 19 → upd L 19 j = L j:=fun j hj => by unfold upd;simp [hj]
 refine ⟨h.b.trans ((Below.refl w5.heap.size V).grown hg h.b.size (own_ge (h.a h12 h19))),?_,?_,?_,fun _ => hv⟩
 ·rw [eL 12 (by decide),h12];intro _ e;cases e
 ·rw [eL 12 (by decide),h12];intro _ e;cases e
 ·intro _ e;simp [upd] at e
end
section
variable {w : World} {q : Nat} {sl : Sl} {L : List Rw} {F : List Nat}
set_option maxRecDepth 20000 in
set_option maxHeartbeats 4000000 in
theorem zspawn_bad (h : RepZ vB w q sl L F) (K a0 a1 a2 a3 a4 a5 a6 a7 : Int) (hb : beastZ (K,a0,a1,a2,a3,a4,a5,a6,a7) ≠ 0) :
  Calls Tryz.prog 48 #[.pointer (some ⟨q,0,none⟩),.agg #[.int .i64 K,.int .i64 a0,.int .i64 a1,.int .i64 a2,.int .i64 a3,.int .i64 a4,.int .i64 a5,.int .i64 a6,.int .i64 a7]] w (ZRet vB q sl L F w (.tuple #[.agg #[.int .i64 0,.int .i64 0],.int .i64 (beastZ (K,a0,a1,a2,a3,a4,a5,a6,a7))])):=by
 have h1:=fun w => beastCheck_any K a0 a1 a2 a3 a4 a5 a6 a7 w
 rw [show beastE K [a0,a1,a2,a3,a4,a5,a6,a7] = beastZ (K,a0,a1,a2,a3,a4,a5,a6,a7) from rfl] at h1
 generalize beastZ (K,a0,a1,a2,a3,a4,a5,a6,a7) = z at *
 have hq : (z != 0) = true:=by simpa using hb
 obtain ⟨w0,hw0,hb0,hz0,hz1,hs0⟩:=box2 w (.cells #[.int .i64 K,.int .i64 a0,.int .i64 a1,.int .i64 a2,.int .i64 a3,.int .i64 a4,.int .i64 a5,.int .i64 a6,.int .i64 a7] 50) (.cells #[.int .i64 0,.int .i64 0] 41)
 obtain ⟨q0,q1,q2,q3,q4,q5,q6,q7,q8,ql⟩:=cells9 hz0
 obtain ⟨H,H1,Hb0,Hz1,Hs0⟩:=hid5 h h1 hb0 hz1 hs0
 clear h h1 hb0 hz1 hs0
 clear hb hz0
 go_enter Tryz.func48,Tryz.ntmps48
 go_wp2_with fail
 clear hw0
 refine (H1.out _).mono ?_
 rintro e w1 ⟨rfl,hb1⟩
 have hy1:=(Mod.ofBelow hb1).keep Hz1.out (by simp)
 obtain ⟨r0,r1,rl⟩:=cells2 hy1
 have f0:=blk_free hy1 0
 have f1:=blk_free hy1 1
 have hb01:=Hb0.out.trans (hb1.mono Hb0.out.size)
 have hsz:=hb1.size
 have hs0:=Hs0.out
 have HFin:=Lib.hid (fun w9 (hm : Mod [w.heap.size + 1] w1 w9) => rep_finZ hb01 (Z:=[w.heap.size + 1]) (by simp;omega) H.out.lt (H.out.below hb01) (Turns.refl _ _) hm)
 clear hb1 hb01 hy1 q0 q1 q2 q3 q4 q5 q6 q7 q8 ql hs0
 go_wp2
 refine bodyPost_ret (v:=.tuple #[.agg #[.int .i64 0,.int .i64 0],.int .i64 z]) (by unfold results;try go_simp) rfl ?_
 refine ⟨rfl,F,HFin.out _ ?_⟩
 repeat (refine Mod.setCell ?_ (.inl (by simp)) _)
 exact Mod.refl _ _
set_option maxRecDepth 20000 in
set_option maxHeartbeats 4000000 in
theorem zspawn_full (h : RepZ vB w q sl L F) (hO : WOk sl L) (K a0 a1 a2 a3 a4 a5 a6 a7 : Int) (hb : beastZ (K,a0,a1,a2,a3,a4,a5,a6,a7) = 0) (ht : takeE sl ≠ 0) :
  Calls Tryz.prog 48 #[.pointer (some ⟨q,0,none⟩),.agg #[.int .i64 K,.int .i64 a0,.int .i64 a1,.int .i64 a2,.int .i64 a3,.int .i64 a4,.int .i64 a5,.int .i64 a6,.int .i64 a7]] w (ZRet vB q (takeL sl) L F w (.tuple #[.agg #[.int .i64 (takeK sl),.int .i64 (takeG sl)],.int .i64 (takeE sl)])):=by
 have h1:=fun w => beastCheck_any K a0 a1 a2 a3 a4 a5 a6 a7 w
 rw [show beastE K [a0,a1,a2,a3,a4,a5,a6,a7] = beastZ (K,a0,a1,a2,a3,a4,a5,a6,a7) from rfl,hb] at h1
 have hq : (takeE sl != 0) = true:=by simpa using ht
 obtain ⟨w0,hw0,hb0,hz0,hz1,hs0⟩:=box2 w (.cells #[.int .i64 K,.int .i64 a0,.int .i64 a1,.int .i64 a2,.int .i64 a3,.int .i64 a4,.int .i64 a5,.int .i64 a6,.int .i64 a7] 50) (.cells #[.int .i64 0,.int .i64 0] 41)
 obtain ⟨q0,q1,q2,q3,q4,q5,q6,q7,q8,ql⟩:=cells9 hz0
 have hFlt:=h.lt
 obtain ⟨vL,FS,g1,g2,rfl,g3⟩:=h
 have hqw:=g1.lt
 obtain ⟨G1,G2,G3,H1,Hb0,Hz1,Hs0,HFlt,HO,Hqw⟩:=hid10 g1 g2 g3 h1 hb0 hz1 hs0 hFlt hO hqw
 clear g1 g2 g3 h1 hb0 hz1 hs0 hFlt hO hqw
 clear hb hz0 ht
 go_enter Tryz.func48,Tryz.ntmps48
 go_wp2_with fail
 clear hw0
 refine (H1.out _).mono ?_
 rintro e w1 ⟨rfl,hb1⟩
 have hb01:=Hb0.out.trans (hb1.mono Hb0.out.size)
 have hg1:=G1.out.mod (Mod.ofBelow hb01) (by simp)
 have hg2:=row_mod G2.out (Mod.ofBelow hb01) (by simp)
 have hy1:=(Mod.ofBelow hb1).keep Hz1.out (by simp)
 have H2:=Lib.hid (ztake_any q sl FS w1 hg1 HO.out.ok)
 obtain ⟨Hb01,Hg1,Hg2,Hy1⟩:=hid4 hb01 hg1 hg2 hy1
 clear hb01 hg1 hg2 hy1
 clear hb1 q0 q1 q2 q3 q4 q5 q6 q7 q8 ql
 go_wp2_with fail
 refine H2.out.mono ?_
 rintro e w2 ⟨rfl,F2,hs2,hT2⟩
 obtain ⟨hR2,hT⟩:=RepZ.turnSl Hg1.out Hg2.out G3.out hs2 hT2
 have hFS : w.heap.size + 1 ∉ FS:=fun e => by have:=Hqw.out _ e;omega
 have hy2:=hT2.mod.keep Hy1.out hFS
 obtain ⟨r0,r1,rl⟩:=cells2 hy2
 have f0:=blk_free hy2 0
 have f1:=blk_free hy2 1
 have hs0:=Hs0.out
 have hb:=Hb01.out
 have hl1:=blk_lt Hy1.out
 have HFin:=Lib.hid (fun w9 (hm : Mod [w.heap.size + 1] w2 w9) => rep_finZ hb (Z:=[w.heap.size + 1]) (by simp;omega) HFlt.out hR2 hT hm)
 clear hs2 hT2 hR2 hT hFS hy2 hs0 hb
 go_wp2
 refine bodyPost_ret (v:=.tuple #[.agg #[.int .i64 (takeK sl),.int .i64 (takeG sl)],.int .i64 (takeE sl)]) (by unfold results;try go_simp) rfl ?_
 refine ⟨rfl,_,HFin.out _ ?_⟩
 refine Mod.alloc ?_ _
 repeat (refine Mod.setCell ?_ (.inl (by simp)) _)
 exact Mod.refl _ _
set_option maxRecDepth 20000 in
set_option maxHeartbeats 8000000 in
theorem zspawn_ok (h : RepZ vB w q sl L F) (hO : WOk sl L) (K a0 a1 a2 a3 a4 a5 a6 a7 : Int) (hb : beastZ (K,a0,a1,a2,a3,a4,a5,a6,a7) = 0) (ht : takeE sl = 0) :
  Calls Tryz.prog 48 #[.pointer (some ⟨q,0,none⟩),.agg #[.int .i64 K,.int .i64 a0,.int .i64 a1,.int .i64 a2,.int .i64 a3,.int .i64 a4,.int .i64 a5,.int .i64 a6,.int .i64 a7]] w (ZRet vB q (takeL sl) (insR L ((takeK sl,takeG sl),(K,a0,a1,a2,a3,a4,a5,a6,a7))) F w (.tuple #[.agg #[.int .i64 (takeK sl),.int .i64 (takeG sl)],.int .i64 0])):=by
 have h1:=fun w => beastCheck_any K a0 a1 a2 a3 a4 a5 a6 a7 w
 rw [show beastE K [a0,a1,a2,a3,a4,a5,a6,a7] = beastZ (K,a0,a1,a2,a3,a4,a5,a6,a7) from rfl,hb] at h1
 obtain ⟨w0,hw0,hb0,hz0,hz1,hs0⟩:=box2 w (.cells #[.int .i64 K,.int .i64 a0,.int .i64 a1,.int .i64 a2,.int .i64 a3,.int .i64 a4,.int .i64 a5,.int .i64 a6,.int .i64 a7] 50) (.cells #[.int .i64 0,.int .i64 0] 41)
 obtain ⟨q0,q1,q2,q3,q4,q5,q6,q7,q8,ql⟩:=cells9 hz0
 have hFlt:=h.lt
 obtain ⟨s,hs60,hk,-,-⟩:=take_spec hO.ok ht
 have hTk:=fun vL => ztake_any (vL:=vL) (vB:=vB) q sl
 unfold ZTakePost at hTk
 rw [ht,hk] at hTk
 rw [hk]
 obtain ⟨vL,FS,g1,g2,rfl,g3⟩:=h
 have hqw:=g1.lt
 have hl:=hO.len
 obtain ⟨G1,G2,G3,H1,Hb0,Hz1,Hz0,Hs0,HFlt,HO,Hqw,HTk⟩:=hid12 g1 g2 g3 h1 hb0 hz1 hz0 hs0 hFlt hO hqw hTk
 clear g1 g2 g3 h1 hb0 hz1 hz0 hs0 hFlt hO hqw hTk
 clear hb ht hk
 go_enter Tryz.func48,Tryz.ntmps48
 go_wp2_with fail
 clear hw0
 refine (H1.out _).mono ?_
 rintro e w1 ⟨rfl,hb1⟩
 have hb01:=Hb0.out.trans (hb1.mono Hb0.out.size)
 have hg1:=G1.out.mod (Mod.ofBelow hb01) (by simp)
 have hg2:=row_mod G2.out (Mod.ofBelow hb01) (by simp)
 have hy1:=(Mod.ofBelow hb1).keep Hz1.out (by simp)
 have hy0:=(Mod.ofBelow hb1).keep Hz0.out (by simp)
 have H2:=Lib.hid (HTk.out vL FS w1 hg1 HO.out.ok)
 obtain ⟨Hb01,Hg1,Hg2,Hy1,Hy0⟩:=hid5 hb01 hg1 hg2 hy1 hy0
 clear hb01 hg1 hg2 hy1 hy0
 clear hb1 q0 q1 q2 q3 q4 q5 q6 q7 q8 ql
 go_wp2_with fail
 refine H2.out.mono ?_
 rintro e w2 ⟨rfl,F2,hs2,hT2⟩
 obtain ⟨hR2,hT⟩:=RepZ.turnSl Hg1.out Hg2.out G3.out hs2 hT2
 have hFS : ∀ y,w.heap.size ≤ y → y ∉ FS:=fun y hy e => by have:=Hqw.out _ e;omega
 have hy2:=hT2.mod.keep Hy1.out (hFS _ (by omega))
 have hy20:=hT2.mod.keep Hy0.out (hFS _ (by omega))
 have hl20:=blk_lt hy20
 have hl21:=blk_lt hy2
 generalize takeG sl = g at *
 obtain ⟨w3,hw3⟩ : ∃ w3,w2.alloc (.cells #[.int .i64 (s : Int),.int .i64 g] 41) = w3:=⟨_,rfl⟩
 have hb3 : Below w2.heap.size w2 w3:=by rw [← hw3];exact (Below.refl _ _).alloc (Nat.le_refl _) _
 have hz3 : w3.heap[w2.heap.size]? = some (.cells #[.int .i64 (s : Int),.int .i64 g] 41 (0,0)):=by rw [← hw3];exact heap_alloc_new w2 _
 have hs3 : w3.heap.size = w2.heap.size + 1:=by rw [← hw3];simp
 have hR3:=hR2.below hb3
 have hT3:=hT.below hb3
 have hy3:=(Mod.ofBelow hb3).keep hy2 (by simp)
 have hy30:=(Mod.ofBelow hb3).keep hy20 (by simp)
 obtain ⟨d0,d1,dl⟩:=cells2 hz3
 obtain ⟨Hb3,Hz3,Hs3,HR3,HT3,Hy3,Hy30,Hl20,Hl21,HR2,HT⟩:=hid11 hb3 hz3 hs3 hR3 hT3 hy3 hy30 hl20 hl21 hR2 hT
 clear hb3 hz3 hs3 hR3 hT3 hy3 hy30 hl20 hl21 hR2 hT
 clear hs2 hT2 hFS hy2 hy20
 go_wp2_with fail
 go_loopw [9] (fun i wr => ∃ k : Nat,k ≤ L.length ∧ i = .int .i64 k ∧ (∀ j (h : j < L.length),j < k → L[j].1.1 < (s : Int)) ∧ Below w3.heap.size w3 wr) (fun i _ => L.length - (Go.RowKit.intOf i).toNat)
 case atStart => exact ⟨0,by omega,rfl,fun j h hj => by omega,Below.refl _ _⟩
 case round =>
  obtain ⟨k,hk,rfl,hno,hbel⟩:=hrel
  have hR:=HR3.out.below hbel
  have hzr:=(Mod.ofBelow hbel).keep Hz3.out (by simp)
  have hyr:=(Mod.ofBelow hbel).keep Hy30.out (by simp)
  have hy1r:=(Mod.ofBelow hbel).keep Hy3.out (by simp)
  clear d0 d1 dl
  obtain ⟨d0,d1,dl⟩:=cells2 hzr
  obtain ⟨vg,vl,A,cap,hq,hrow⟩:=hR.open_
  have c2:=blk_cell hq 2
  simp only [eA,eZ,eS] at c2
  have hql:=blk_lt hq
  have hTr:=HT3.out.below hbel
  obtain ⟨v6,v18,e6,e18,hcp,hap⟩:=slice_split hrow hk hl
  by_cases hgo : ∃ h : k < L.length,L[k].1.1 < (s : Int)
  ·obtain ⟨hlt,hgo⟩:=hgo
   obtain ⟨g0,cap0,cur0,hv,-,-,-⟩:=row_some hrow (by omega)
   cases hv
   obtain ⟨g0',cap',e,hcell⟩:=row_rec rwC_len hrow hlt
   cases e
   have c3:=hcell 0 (.int .i64 L[k].1.1) rfl
   rw [Nat.add_zero] at c3
   have hno2 : ∀ j (h : j < L.length),j < k + 1 → L[j].1.1 < (s : Int):=by
    intro j h1 h2
    rcases Nat.lt_or_eq_of_le (Nat.lt_succ_iff.1 h2) with h3 | rfl
    ·exact hno j h1 h3
    ·exact hgo
   have hki : (k : Int) < (L.length : Int):=by omega
   generalize L[k].1.1 = z at *
   have hb2:=hbel.drew
   obtain ⟨Hno2,Hb2⟩:=hid2 hno2 hb2
   clear hno2 hb2
   clear hno hbel hR hzr hyr hy1r hq hrow hTr e6 e18 hcp hap hcell
   go_wp2_with fail
   refine wp_planR 21 [0,1] [some 27,some 28,some 29,some 30,some 31,some 32,some 33,some 34,some 35,some 36,some 37,some 38,some 39,some 40,some 41,some 42,some 43,some 44,some 45,some 46,some 47] [[],[],[1],[1,2],[1,2,3],[1,2,3,4],[0,1,2,3,4,5],[0,1,2,3,4,5,6],[0,1,2,3,4,5,6,7],[0,1,2,3,4,5,6,7,8],[0,1,2,3,4,5,6,7,8,9],[0,1,2,3,4,5,6,7,8,9,10],[0,1,2,3,4,5,6,7],[0,1,2,3,4,5,6,7,8,9,10,11,12],[0,1,2,3,4,5,6,7,8,9,10,11,12,13],[0,1,2,3,4,5,6,7,8,9,10,11,12,13,14],[0,1,2,3,4,5,6,7,8,9,10,11,12,13,14,15],[0,1,2,3,4,5,6,7],[0,1,2,3,4,5,6,7,17],[0,1,2,3,4,5,6,7,8,9,10,11,12,13,14,15,16,17,18],[0,1,2,3,4,5,6,7,8,9,10,11,12,13,14,15,16,17,18,19]] [0,1,2,3,4,5,6,7,8,9,10,11,12,13,14,15,16,17,18,19,20] mixed rfl (by kernel_rfl) (by decide) (by decide) rfl ?_
   iterate 21 apply Exists.intro
   refine ⟨rfl,?_,?_⟩
   ·simp only [tS,List.take_zero,AllFrom.cons_eq,AllFrom.nil_eq,OpGoalQ]
    refine ⟨?_,?_,?_,?_,?_,?_,?_,?_,?_,?_,?_,?_,?_,?_,?_,?_,?_,?_,?_,?_,?_,trivial⟩
    all_goals (intro σ hp;(try simp only [gZ,gS,mC,mN,preF_cons,preF_nil,isV,and_true] at hp);(first | (have hq : True:=hp;clear hq hp) | skip))
    all_goals (go_simp;exact ⟨rfl,rfl⟩)
   intro σ hp
   simp only [gZ,gS,mC,mN,preF_cons,preF_nil,isV,and_true] at hp
   simp only [dS,List.drop_zero]
   go_simp
   clear hp
   refine ⟨rfl,?_⟩
   go_wp2
   go_roundw
   case rel => exact ⟨k + 1,by omega,by go_num,Hno2.out,Hb2.out⟩
   case measure => simp [Go.RowKit.intOf];omega
  ·have hins : insR L (((s : Int),g),(K,a0,a1,a2,a3,a4,a5,a6,a7)) = L.take k ++ [(((s : Int),g),(K,a0,a1,a2,a3,a4,a5,a6,a7))] ++ L.drop k:=by
    rw [insR_split hk hno (fun h e => hgo ⟨h,e⟩)];simp
   have hlt60 : L.length ≤ 60:=hl
   obtain ⟨Hno,HR,Hzr,Hyr,Hy1r,E6,E18,HCP,HAP,HTr,Hins,Hq,Hbel⟩:=hid13 hno hR hzr hyr hy1r e6 e18 hcp hap hTr hins hq hbel
   clear hno hR hzr hyr hy1r e6 e18 hcp hap hTr hins hq hbel
   rcases Nat.lt_or_ge k L.length with hlt | hlt
   case' inl =>
    have hz : ¬ L[k].1.1 < (s : Int):=fun e => hgo ⟨hlt,e⟩
    obtain ⟨g0,cap0,cur0,hv,-,-,-⟩:=row_some hrow (by omega)
    cases hv
    obtain ⟨g0',cap',e,hcell⟩:=row_rec rwC_len hrow hlt
    cases e
    have c3:=hcell 0 (.int .i64 L[k].1.1) rfl
    rw [Nat.add_zero] at c3
    have hki : (k : Int) < (L.length : Int):=by omega
    generalize L[k].1.1 = z at *
    clear hrow hgo hcell
    go_wp2_with fail
    refine wp_planR 21 [0,1] [some 27,some 28,some 29,some 30,some 31,some 32,some 33,some 34,some 35,some 36,some 37,some 38,some 39,some 40,some 41,some 42,some 43,some 44,some 45,some 46,some 47] [[],[],[1],[1,2],[1,2,3],[1,2,3,4],[0,1,2,3,4,5],[0,1,2,3,4,5,6],[0,1,2,3,4,5,6,7],[0,1,2,3,4,5,6,7,8],[0,1,2,3,4,5,6,7,8,9],[0,1,2,3,4,5,6,7,8,9,10],[0,1,2,3,4,5,6,7],[0,1,2,3,4,5,6,7,8,9,10,11,12],[0,1,2,3,4,5,6,7,8,9,10,11,12,13],[0,1,2,3,4,5,6,7,8,9,10,11,12,13,14],[0,1,2,3,4,5,6,7,8,9,10,11,12,13,14,15],[0,1,2,3,4,5,6,7],[0,1,2,3,4,5,6,7,17],[0,1,2,3,4,5,6,7,8,9,10,11,12,13,14,15,16,17,18],[0,1,2,3,4,5,6,7,8,9,10,11,12,13,14,15,16,17,18,19]] [0,1,2,3,4,5,6,7,8,9,10,11,12,13,14,15,16,17,18,19,20] mixed rfl (by kernel_rfl) (by decide) (by decide) rfl ?_
    iterate 21 apply Exists.intro
    refine ⟨rfl,?_,?_⟩
    ·simp only [tS,List.take_zero,AllFrom.cons_eq,AllFrom.nil_eq,OpGoalQ]
     refine ⟨?_,?_,?_,?_,?_,?_,?_,?_,?_,?_,?_,?_,?_,?_,?_,?_,?_,?_,?_,?_,?_,trivial⟩
     all_goals (intro σ hp;(try simp only [gZ,gS,mC,mN,preF_cons,preF_nil,isV,and_true] at hp);(first | (have hq : True:=hp;clear hq hp) | skip))
     all_goals (go_simp;exact ⟨rfl,rfl⟩)
    intro σ hp
    simp only [gZ,gS,mC,mN,preF_cons,preF_nil,isV,and_true] at hp
    simp only [dS,List.drop_zero]
    go_simp
    clear hp
    refine ⟨rfl,?_⟩
    go_wp2_with fail
    clear hz hki c3 hlt
   case' inr =>
    have hki : decide (k < L.length) = false:=by simp;omega
    clear hrow hgo
    go_wp2_with fail
    refine wp_planR 21 [0,1] [some 27,some 28,some 29,some 30,some 31,some 32,some 33,some 34,some 35,some 36,some 37,some 38,some 39,some 40,some 41,some 42,some 43,some 44,some 45,some 46,some 47] [[],[],[1],[1,2],[1,2,3],[1,2,3,4],[0,1,2,3,4,5],[0,1,2,3,4,5,6],[0,1,2,3,4,5,6,7],[0,1,2,3,4,5,6,7,8],[0,1,2,3,4,5,6,7,8,9],[0,1,2,3,4,5,6,7,8,9,10],[0,1,2,3,4,5,6,7],[0,1,2,3,4,5,6,7,8,9,10,11,12],[0,1,2,3,4,5,6,7,8,9,10,11,12,13],[0,1,2,3,4,5,6,7,8,9,10,11,12,13,14],[0,1,2,3,4,5,6,7,8,9,10,11,12,13,14,15],[0,1,2,3,4,5,6,7],[0,1,2,3,4,5,6,7,17],[0,1,2,3,4,5,6,7,8,9,10,11,12,13,14,15,16,17,18],[0,1,2,3,4,5,6,7,8,9,10,11,12,13,14,15,16,17,18,19]] [0,1,2,3,4,5,6,7,8,9,10,11,12,13,14,15,16,17,18,19,20] mixed rfl (by kernel_rfl) (by decide) (by decide) rfl ?_
    iterate 21 apply Exists.intro
    refine ⟨rfl,?_,?_⟩
    ·simp only [tS,List.take_zero,AllFrom.cons_eq,AllFrom.nil_eq,OpGoalQ]
     refine ⟨?_,?_,?_,?_,?_,?_,?_,?_,?_,?_,?_,?_,?_,?_,?_,?_,?_,?_,?_,?_,?_,trivial⟩
     all_goals (intro σ hp;(try simp only [gZ,gS,mC,mN,preF_cons,preF_nil,isV,and_true] at hp);(first | (have hq : True:=hp;clear hq hp) | skip))
     all_goals (go_simp;exact ⟨rfl,rfl⟩)
    intro σ hp
    simp only [gZ,gS,mC,mN,preF_cons,preF_nil,isV,and_true] at hp
    simp only [dS,List.drop_zero]
    go_simp
    clear hp
    refine ⟨rfl,?_⟩
    go_wp2_with fail
    clear hki hlt
   all_goals (
    clear c2 hql d0 d1 dl
    have Hk:=Lib.hid hk
    refine wp_planK [7,11,12,19] 20 [0,1,5,13,17] [some 50,some 51,some 52,some 53,some 54,some 55,some 56,some 57,some 58,some 59,some 60,some 61,some 62,some 63,some 64,some 65,some 66,some 67,some 68,some 69,some 70,some 71,none] [[],[],[1],[1,2],[1,2,3],[],[1,2,3,4,5],[1,2,3,4,5,6],[],[],[8,9],[8,9,10],[1,2,3,4,5,6,7,8,9,10,11],[],[13],[13,14],[13,14,15],[],[13,14,15,16,17],[1,2,3,4,5,6,7,8,9,10,11,12,13,14,15,16,17,18],[0,1,2,3,4,5,6,7,8,9,10,11,12,13,14,15,16,17,18,19],[0,1,2,3,4,5,6,7,8,9,10,11,12,13,14,15,16,17,18,19,20],[0,1,2,3,4,5,6,7,8,9,10,11,12,13,14,15,16,17,18,19,20,21]] [0,1,2,3,4,5,6,7,8,9,10,11,12,13,14,15,16,17,18,19] (fun Lf σ V => ISp wr (L.take k) (L.drop k) (((s : Int),g),(K,a0,a1,a2,a3,a4,a5,a6,a7)) Lf σ V) mixed rfl (by kernel_rfl) (by decide) (by decide) (by decide) (ISp.start (Below.refl _ _).drew.drew) rfl ?_
    iterate 20 apply Exists.intro
    refine ⟨rfl,?_,?_⟩
    ·simp only [tS,List.take_zero,AllFrom.cons_eq,AllFrom.nil_eq,OpGoalK]
     refine ⟨?_,?_,?_,?_,?_,?_,?_,?_,?_,?_,?_,?_,?_,?_,?_,?_,?_,?_,?_,?_,trivial⟩
     all_goals (intro L' σ V h1 h2 h3 hI hp;have HA1:=Lib.hid h1;have HA2:=Lib.hid h2;have HA3:=Lib.hid h3;clear h1 h2 h3;(try simp only [gZ,gS,preK_cons,preK_nil] at hp);(try simp only [List.mem_cons,List.not_mem_nil,or_false,eq_self,Nat.reduceEqDiff,Nat.reduceAdd,Nat.zero_add,false_or,true_or,true_and,and_true] at hp);(first | (have hq : True:=hp;clear hq hp) | skip);have HI:=Lib.hid hI;clear hI)
     all_goals (
      have hqV:=(Mod.ofBelow HI.out.b).keep Hq.out (by simp)
      have hzV:=(Mod.ofBelow HI.out.b).keep Hzr.out (by simp)
      have hyV:=(Mod.ofBelow HI.out.b).keep Hyr.out (by simp)
      have c2:=blk_cell hqV 2
      simp only [eA,eZ,eS] at c2
      have hql:=blk_lt hqV
      have d0:=blk_cell hzV 0
      have d1:=blk_cell hzV 1
      simp only [eA,eZ,eS] at d0 d1
      have dl:=blk_lt hzV
      have y0:=blk_cell hyV 0
      have y1:=blk_cell hyV 1
      have y2:=blk_cell hyV 2
      have y3:=blk_cell hyV 3
      have y4:=blk_cell hyV 4
      have y5:=blk_cell hyV 5
      have y6:=blk_cell hyV 6
      have y7:=blk_cell hyV 7
      have y8:=blk_cell hyV 8
      simp only [eA,eZ,eS] at y0 y1 y2 y3 y4 y5 y6 y7 y8
      have yl:=blk_lt hyV
      have e6:=E6.out
      have e18:=E18.out
      clear hqV hzV hyV)
     ·(go_simp;exact ⟨.inr rfl,HI.out.read (by decide) _⟩)
     ·(go_simp;exact ⟨.inr rfl,HI.out.read (by decide) _⟩)
     ·(go_simp;exact ⟨.inr rfl,HI.out.read (by decide) _⟩)
     ·(go_simp;exact ⟨.inr rfl,HI.out.read (by decide) _⟩)
     ·(go_simp;exact ⟨.inr rfl,HI.out.read (by decide) _⟩)
     ·(go_simp;exact ⟨.inr rfl,HI.out.read (by decide) _⟩)
     ·(go_simp;exact ⟨.inr rfl,HI.out.read (by decide) _⟩)
     ·go_simp
      refine (HCP.out _ (Mod.ofBelow HI.out.b)).mono ?_
      rintro e V' ⟨v,rfl,hv,hb⟩
      exact ⟨_,rfl,PostK.mk (c:=undef) (.inl (by decide)) (HI.out.copied (HA3.out 19 (by decide)) hb hv (HA3.out 12 (by decide)))⟩
     ·(go_simp;exact ⟨.inr rfl,HI.out.read (by decide) _⟩)
     ·(go_simp;exact ⟨.inr rfl,HI.out.read (by decide) _⟩)
     ·(go_simp;exact ⟨.inr rfl,HI.out.read (by decide) _⟩)
     ·go_simp
      exact PostK.mk (c:=undef) (.inl (by decide)) (HI.out.oned (HA3.out 19 (by decide)) (HA3.out 12 (by decide)))
     ·simp only [wantedL_none,if_true]
      have ha7:=HI.out.c (HA2.out 7 (by decide)) HA1.out
      have ha11:=HI.out.o (HA2.out 11 (by decide)) HA1.out
      have Ha7:=Lib.hid ha7;have Ha11:=Lib.hid ha11
      have Hlen:=Lib.hid (show ((L.take k).length + 1) * 88 ≤ 140737488355328 by rw [List.length_take];omega)
      clear ha7 ha11
      refine yr_app (enc:=rwC) (n:=11) (z:=.agg (Array.replicate 11 (.int .i64 0))) (bytes:=88) (.tmp 57) (.tmp 61) 23 69 rfl Tryz.underlying23 inf_Row rfl (by omega) (by omega) rwC_one rwC_len wr.heap.size (σ 7) (L.take k) (((s : Int),g),(K,a0,a1,a2,a3,a4,a5,a6,a7)) wr.heap.size (rwC (((s : Int),g),(K,a0,a1,a2,a3,a4,a5,a6,a7))).toArray 69 (by go_simp) Ha7.out (by go_simp;exact Ha11.out) rfl Hlen.out HI.out.b.size ?_
      intro v' V' hv hg _
      exact PostK.mk (c:=undef) (.inl (by decide)) (HI.out.apped (HA3.out 19 (by decide)) (HA2.out 7 (by decide)) HA1.out hg hv)
     ·(go_simp;exact ⟨.inr rfl,HI.out.read (by decide) _⟩)
     ·(go_simp;exact ⟨.inr rfl,HI.out.read (by decide) _⟩)
     ·(go_simp;exact ⟨.inr rfl,HI.out.read (by decide) _⟩)
     ·(go_simp;exact ⟨.inr rfl,HI.out.read (by decide) _⟩)
     ·(go_simp;exact ⟨.inr rfl,HI.out.read (by decide) _⟩)
     ·(go_simp;exact ⟨.inr rfl,HI.out.read (by decide) _⟩)
     ·obtain ⟨v',V',hr,hv,hg⟩:=HAP.out _ (Mod.ofBelow HI.out.b) 23 _ (σ 12) (L.take k ++ [(((s : Int),g),(K,a0,a1,a2,a3,a4,a5,a6,a7))]) (HI.out.a (HA2.out 12 (by decide)) HA1.out) (by rw [List.length_append,List.length_take,List.length_singleton];omega) HI.out.b.size
      simp only [wantedL_none,if_true]
      refine yr_appV (.tmp 62) (.tmp 68) 23 rfl (by go_simp) (by go_simp) hr (PostK.mk (c:=undef) (.inl (by decide)) (HI.out.apped2 HA1.out (HA2.out 12 (by decide)) hg hv))
    ·intro L' σ V h1 hI hp
     have h19:=hI.e (h1 19 (by decide))
     have hB:=hI.b
     clear h1 hI
     rw [← Hins.out] at h19
     simp only [preK_cons,preK_nil,gZ,gS] at hp;simp only [List.mem_cons,List.not_mem_nil,or_false,eq_self,Nat.reduceEqDiff,false_or,true_or,true_and,and_true] at hp
     have hqV:=(Mod.ofBelow hB).keep Hq.out (by simp)
     have hzV:=(Mod.ofBelow hB).keep Hzr.out (by simp)
     have hyV:=(Mod.ofBelow hB).keep Hy1r.out (by simp)
     have hqw:=blk_lt hqV
     have f2:=blk_free hqV 2
     have c2:=blk_cell hqV 2
     simp only [eA,eZ,eS] at c2
     have hqF : q < w.heap.size:=by
      obtain ⟨_,_,_,_,_,rfl,_⟩:=G1.out
      exact Hqw.out q (by simp)
     obtain ⟨FS4,-,-,-,-,hT4,hR4⟩:=RepZ.turn HR.out hB h19
     obtain ⟨A2,cap2,hv2,-,-⟩:=row_slice h19
     generalize hF4 : FS4 ++ (σ 19).ownBlock.toList = F4 at hT4 hR4
     obtain ⟨w4,hw4⟩ : ∃ w4,V.setCell ⟨q,2,none⟩ (σ 19) = w4:=⟨_,rfl⟩
     have hM : Mod [q] V w4:=by rw [← hw4];exact (Mod.refl _ _).setCell (.inl (by simp)) _
     rw [hw4] at hT4 hR4
     have hz4:=hM.keep hzV (by simp;have:=Hl20.out;omega)
     have hy4:=hM.keep hyV (by simp;omega)
     have d0:=blk_cell hz4 0
     have d1:=blk_cell hz4 1
     simp only [eA,eZ,eS] at d0 d1
     have dl:=blk_lt hz4
     have y0:=blk_cell hy4 0
     have y1:=blk_cell hy4 1
     simp only [eA,eZ,eS] at y0 y1
     have yl:=blk_lt hy4
     have f0:=blk_free hy4 0
     have f1:=blk_free hy4 1
     have hs0:=Hs0.out
     have hb:=Hb01.out
     have hl1:=blk_lt Hy1.out
     have HFin:=Lib.hid (fun w9 (hm : Mod [w.heap.size + 1] w4 w9) => rep_finZ hb (Z:=[w.heap.size + 1]) (by simp;omega) HFlt.out hR4 (HTr.out.trans hT4) hm)
     rw [hv2] at hw4
     clear hqV hzV hyV hM hz4 hy4 hs0 hb hT4 hR4 h19 hB hF4
     simp only [dS,List.drop_zero]
     go_simp
     clear hp
     go_wp2_with fail
     refine ⟨rfl,?_⟩
     clear hv2 c2 f2 hw4
     go_wp2
     refine bodyPost_ret (v:=.tuple #[.agg #[.int .i64 (s : Int),.int .i64 g],.int .i64 0]) (by unfold results;try go_simp) rfl ?_
     refine ⟨rfl,_,HFin.out _ ?_⟩
     repeat (refine Mod.setCell ?_ (.inl (by simp)) _)
     exact Mod.refl _ _)
theorem zspawn_any (h : RepZ vB w q sl L F) (hO : WOk sl L) (K a0 a1 a2 a3 a4 a5 a6 a7 : Int) :
  Calls Tryz.prog 48 #[.pointer (some ⟨q,0,none⟩),.agg #[.int .i64 K,.int .i64 a0,.int .i64 a1,.int .i64 a2,.int .i64 a3,.int .i64 a4,.int .i64 a5,.int .i64 a6,.int .i64 a7]] w (ZRet vB q (spawnS sl (K,a0,a1,a2,a3,a4,a5,a6,a7)) (spawnL sl L (K,a0,a1,a2,a3,a4,a5,a6,a7)) F w (.tuple #[.agg #[.int .i64 (spawnH sl (K,a0,a1,a2,a3,a4,a5,a6,a7)).1,.int .i64 (spawnH sl (K,a0,a1,a2,a3,a4,a5,a6,a7)).2],.int .i64 (spawnE sl (K,a0,a1,a2,a3,a4,a5,a6,a7))])):=by
 by_cases hb : beastZ (K,a0,a1,a2,a3,a4,a5,a6,a7) = 0
 ·have e1 : spawnS sl (K,a0,a1,a2,a3,a4,a5,a6,a7) = takeL sl:=by unfold spawnS;rw [if_neg (by simpa using hb)]
  have e2 : spawnH sl (K,a0,a1,a2,a3,a4,a5,a6,a7) = (takeK sl,takeG sl):=by unfold spawnH;rw [if_neg (by simpa using hb)]
  have e3 : spawnE sl (K,a0,a1,a2,a3,a4,a5,a6,a7) = takeE sl:=by unfold spawnE;rw [if_neg (by simpa using hb)]
  by_cases ht : takeE sl = 0
  ·rw [e1,e2,show spawnL sl L (K,a0,a1,a2,a3,a4,a5,a6,a7) = insR L ((takeK sl,takeG sl),K,a0,a1,a2,a3,a4,a5,a6,a7) by unfold spawnL;rw [e3,if_pos ht],e3,ht]
   exact zspawn_ok h hO K a0 a1 a2 a3 a4 a5 a6 a7 hb ht
  ·rw [e1,e2,show spawnL sl L (K,a0,a1,a2,a3,a4,a5,a6,a7) = L by unfold spawnL;rw [e3,if_neg ht],e3]
   exact zspawn_full h hO K a0 a1 a2 a3 a4 a5 a6 a7 hb ht
 ·have e1 : spawnS sl (K,a0,a1,a2,a3,a4,a5,a6,a7) = sl:=by unfold spawnS;rw [if_pos (by simpa using hb)]
  have e2 : spawnH sl (K,a0,a1,a2,a3,a4,a5,a6,a7) = (0,0):=by unfold spawnH;rw [if_pos (by simpa using hb)]
  have e3 : spawnE sl (K,a0,a1,a2,a3,a4,a5,a6,a7) = beastZ (K,a0,a1,a2,a3,a4,a5,a6,a7):=by unfold spawnE;rw [if_pos (by simpa using hb)]
  rw [e1,e2,show spawnL sl L (K,a0,a1,a2,a3,a4,a5,a6,a7) = L by unfold spawnL;rw [e3,if_neg hb],e3]
  exact zspawn_bad h K a0 a1 a2 a3 a4 a5 a6 a7 hb
end
end Go.Proofs.YtehjfmjibiafdaaGreat
namespace Go.Proofs.YtehjfmjibiafdaaGreat
open Go Go.RowKit
structure Own (A : World → List Nat → Prop) : Prop where
 mod : ∀ {w w' : World} {F G : List Nat},A w F → Mod G w w' → (∀ y ∈ F,y ∉ G) → A w' F
 lt : ∀ {w : World} {F : List Nat},A w F → ∀ y ∈ F,y < w.heap.size
structure SepA (Lo : Nat) (Z : List Nat) (A B : World → List Nat → Prop) (w : World) (F G : List Nat) : Prop where
 a : A w F
 b : B w G
 d : ∀ y ∈ F,y ∉ G
 af : ∀ y ∈ F,Lo ≤ y ∧ y ∉ Z
 bf : ∀ y ∈ G,Lo ≤ y ∧ y ∉ Z
 lo : Lo ≤ w.heap.size
 zl : ∀ z ∈ Z,z < w.heap.size
def Sep (Lo : Nat) (Z : List Nat) (A B : World → List Nat → Prop) (w : World) : Prop:=∃ F G,SepA Lo Z A B w F G
def OwnPost (A' : World → List Nat → Prop) (F : List Nat) (w w' : World) : Prop:=∃ F',A' w' F' ∧ Turns w F F' w'
section
variable {Lo : Nat} {Z : List Nat} {A B A' B' : World → List Nat → Prop} {w w' : World}
theorem Sep.below (hA : Own A) (hB : Own B) (h : Sep Lo Z A B w) (hb : Below w.heap.size w w') : Sep Lo Z A B w' ∧ Below Lo w w' ∧ KeepZ Z w w':=by
 obtain ⟨F,G,⟨a,b,d,af,bf,lo,zl⟩⟩:=h
 have hs:=hb.size
 exact ⟨⟨F,G,⟨hA.mod a (Mod.ofBelow hb) (by simp),hB.mod b (Mod.ofBelow hb) (by simp),d,af,bf,by omega,fun z hz => by have:=zl z hz;omega⟩⟩,hb.mono lo,fun z hz _ ho => (Mod.ofBelow hb).keep ho (by simp)⟩
theorem SepA.left (hA : Own A') (hB : Own B) {F G : List Nat} (h : SepA Lo Z A B w F G) (hp : OwnPost A' F w w') : Sep Lo Z A' B w' ∧ Below Lo w w' ∧ KeepZ Z w w':=by
 obtain ⟨a,b,d,af,bf,lo,zl⟩:=h
 obtain ⟨F',h1,h2⟩:=hp
 have hs:=h2.mod.size
 have hl:=hB.lt b
 refine ⟨⟨F',G,⟨h1,hB.mod b h2.mod (fun y hy e => d y e hy),fun y hy e => ?_,fun y hy => ?_,bf,by omega,fun z hz => by have:=zl z hz;omega⟩⟩,h2.mod.toBelow (fun y hy => (af y hy).1) lo,fun z hz _ ho => h2.mod.keep ho (fun e => (af z e).2 hz)⟩
 ·rcases h2.new y hy with h | h
  ·exact d y h e
  ·have:=hl y e;omega
 ·rcases h2.new y hy with h | h
  ·exact af y h
  ·exact ⟨by omega,fun e => by have:=zl y e;omega⟩
theorem SepA.swap {F G : List Nat} (h : SepA Lo Z A B w F G) : SepA Lo Z B A w G F:=by
 obtain ⟨a,b,d,af,bf,lo,zl⟩:=h
 exact ⟨b,a,fun y hy e => d y e hy,bf,af,lo,zl⟩
theorem Sep.swap (h : Sep Lo Z A B w) : Sep Lo Z B A w:=by
 obtain ⟨F,G,h⟩:=h
 exact ⟨G,F,h.swap⟩
theorem SepA.right (hA : Own A) (hB : Own B') {F G : List Nat} (h : SepA Lo Z A B w F G) (hp : OwnPost B' G w w') : Sep Lo Z A B' w' ∧ Below Lo w w' ∧ KeepZ Z w w':=by
 obtain ⟨h1,h2⟩:=h.swap.left hB hA hp
 exact ⟨h1.swap,h2⟩
theorem Sep.fresh (hA : Own A) (hB : Own B) (h : Sep Lo Z A B w) (hb : Below w.heap.size w w') (z : Nat) (hz : w.heap.size ≤ z) (hz' : z < w'.heap.size) : Sep Lo (z :: Z) A B w':=by
 obtain ⟨F,G,⟨a,b,d,af,bf,lo,zl⟩⟩:=h
 have hs:=hb.size
 have l1:=hA.lt a
 have l2:=hB.lt b
 refine ⟨F,G,⟨hA.mod a (Mod.ofBelow hb) (by simp),hB.mod b (Mod.ofBelow hb) (by simp),d,fun y hy => ⟨(af y hy).1,fun e => ?_⟩,fun y hy => ⟨(bf y hy).1,fun e => ?_⟩,by omega,fun x hx => ?_⟩⟩
 ·rcases List.mem_cons.1 e with e | e
  ·have:=l1 y hy;omega
  ·exact (af y hy).2 e
 ·rcases List.mem_cons.1 e with e | e
  ·have:=l2 y hy;omega
  ·exact (bf y hy).2 e
 ·rcases List.mem_cons.1 hx with e | e
  ·omega
  ·have:=zl x e;omega
theorem Sep.drop (h : Sep Lo Z A B w) {Y : List Nat} (hY : ∀ y ∈ Y,y ∈ Z) : Sep Lo Y A B w:=by
 obtain ⟨F,G,⟨a,b,d,af,bf,lo,zl⟩⟩:=h
 exact ⟨F,G,⟨a,b,d,fun y hy => ⟨(af y hy).1,fun e => (af y hy).2 (hY y e)⟩,fun y hy => ⟨(bf y hy).1,fun e => (bf y hy).2 (hY y e)⟩,lo,fun z hz => zl z (hY z hz)⟩⟩
theorem Sep.callL {P : Program} {f : FuncId} {args : Array Value} {r : Value} (hA : Own A') (hB : Own B) (h : Sep Lo Z A B w) (hc : ∀ F,A w F → Calls P f args w (fun e w' => e = .returned r ∧ OwnPost A' F w w')) :
  Calls P f args w (fun e w' => e = .returned r ∧ Sep Lo Z A' B w' ∧ Below Lo w w' ∧ KeepZ Z w w'):=by
 obtain ⟨F,G,h⟩:=h
 exact (hc F h.a).mono fun e w' ⟨he,hp⟩ => ⟨he,h.left hA hB hp⟩
theorem Sep.callR {P : Program} {f : FuncId} {args : Array Value} {r : Value} (hA : Own A) (hB : Own B') (h : Sep Lo Z A B w) (hc : ∀ G,B w G → Calls P f args w (fun e w' => e = .returned r ∧ OwnPost B' G w w')) :
  Calls P f args w (fun e w' => e = .returned r ∧ Sep Lo Z A B' w' ∧ Below Lo w w' ∧ KeepZ Z w w'):=by
 obtain ⟨F,G,h⟩:=h
 exact (hc G h.b).mono fun e w' ⟨he,hp⟩ => ⟨he,h.right hA hB hp⟩
end
end Go.Proofs.YtehjfmjibiafdaaGreat
