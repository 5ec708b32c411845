import Derived.Test.YtfdillpofciicaaGreatDoorTextPrintsJ18
/- A part of the proof that TextPrints returns true. -/
namespace Go.Proofs.YtfdillpofciicaaGreatDoor
open Go Go.RowKit
attribute [local go_sem] AllFrom.cons_eq AllFrom.nil_eq putF_nil putF_cons wantedL_none wantedL_some OpGoalT OpGoalV OpGoalQ OpGoalA OpGoalK YieldsR preF_nil preF_cons
set_option maxRecDepth 100000 in
set_option maxHeartbeats 1000000 in
theorem copyB_any (A : Option Addr) (c : Nat) (l : List Bd) (w : World) (hl : l.length * 32 ≤ 140737488351232) (hA : Lies w w.heap.size A (l.flatMap bdC)) (hn : A = none → l = []) (hc : A = none → c = 0) :
  Calls Tryz.prog 117 #[.slice A l.length c] w (MadeR 60 4 bdC l w):=by
 have Hl:=Lib.hid hl
 have hl2 : l.length ≤ 9223372036854775807:=by omega
 clear hl
 cases A with
 | none =>
  obtain rfl:=hn rfl
  obtain rfl:=hc rfl
  clear hn hc hA Hl hl2
  have hnil:=fun w => run_eql_slice_nil w 24 60 none 0 0 Tryz.underlying24
  simp only [Option.isNone_none] at hnil
  go_enter Tryz.func117,Tryz.ntmps117
  go_wp2
  go_ret
  exact ⟨_,rfl,⟨rfl,.inl ⟨rfl,rfl⟩⟩,Below.refl _ _⟩
 | some a =>
  have hnews : ∀ j u,(l.flatMap bdC)[j]? = some u → w.cell? (a.add j) = some u:=fun j u hu => by
   obtain ⟨a',e,_,h⟩:=hA j u hu
   cases e;exact h
  have hb : ∀ j u,(l.flatMap bdC)[j]? = some u → a.block < w.heap.size:=fun j u hu => by
   obtain ⟨a',e,h,_⟩:=hA j u hu
   cases e;exact h
  have hnew2 : ∀ o,∀ j u,(l.flatMap bdC)[j]? = some u → (w.alloc o).cell? (a.add j) = some u:=fun o j u hu =>
   (((Below.refl w.heap.size w).alloc (Nat.le_refl _) o).cell (p:=a.add j) (by rw [add_block];exact hb j u hu)).trans (hnews j u hu)
  obtain ⟨HN,HN0⟩:=hid2 hnew2 hnews
  have H0:=Lib.hid (flatV_length bdC_len l)
  have HO:=Lib.hid (flat_one bdC_one l)
  obtain ⟨i0,hi,hz0,hz1,hz2⟩:=info_parts inf_Bond
  obtain ⟨HI,HZ0,HZ1,HZ2⟩:=hid4 hi hz0 hz1 hz2
  clear hA hn hc hnews hb hnew2 hi hz0 hz1 hz2
  have hnil:=fun w => run_eql_slice_nil w 24 60 (some a) l.length c Tryz.underlying24
  simp only [Option.isNone_some] at hnil
  go_enter Tryz.func117,Tryz.ntmps117
  go_wp2_with (at_builtin;refine wpList_append_own_at _ rfl _ _ 24 rfl w.heap.size 60 i0 _ 4 32 Tryz.underlying24 HI.out HZ0.out HZ1.out HZ2.out rfl (by omega) (.slice none 0 0) 0 [] rfl ⟨by simp,.inl ⟨rfl,rfl⟩⟩ a l.length c (l.flatMap bdC) rfl (H0.out) HN0.out HO.out (by unfold maxLen;omega) (by have:=Hl.out;omega) (Nat.le_refl _) ?_;intro v' w' hown hg _ _)
  go_ret
  refine ⟨_,rfl,?_,(Below.refl w.heap.size w).grown hg (Nat.le_refl _) (fun k hk => by cases hk)⟩
  simpa using hown
theorem yr_appVB {P : Program} {o : Oper} {ρ : Operand → Value} {w w' : World} {J : Value → World → Prop} (s x : Operand) (T : TypeId)
  (ho : o.op = .call { callee:=.builtin .append,args:=#[s,x],argTypes:=#[T,T] }) {v' v1 v2 : Value} (h1 : ρ s = v1) (h2 : ρ x = v2) (hr : (Builtin.append_ #[T,T] o.type #[v1,v2]).run P w = .ok v' w') (h : J v' w') : YieldsR P o ρ w J:=by
 subst h1 h2
 unfold YieldsR execOp
 simp only [ho,resolve,invoke,builtin,Sem.run_bind,Sem.run_pure,Result.andThen_ok,List.map_toArray,mC,mN,hr]
 exact h
theorem slice_splitB {w : World} {A : Option Addr} {cap k : Nat} {L : List Bd} (hrow : w.ownsRow 0 60 4 (.slice A L.length cap) L.length (L.flatMap bdC)) (hk : k ≤ L.length) (hl : L.length ≤ 1200000000000) :
  ∃ v6 v18,(∀ W,(Instr.sliceAt 24 (.slice A L.length cap) none (some (.int .i64 (k : Int))) none).run Tryz.prog W = .ok v6 W) ∧ (∀ W,(Instr.sliceAt 24 (.slice A L.length cap) (some (.int .i64 (k : Int))) none none).run Tryz.prog W = .ok v18 W) ∧
   (∀ V,Mod [] w V → Calls Tryz.prog 117 #[v6] V (MadeR 60 4 bdC (L.take k) V)) ∧
   ∀ V,Mod [] w V → ∀ ty base v (l : List Bd),V.ownsRow base 60 4 v l.length (l.flatMap bdC) → l.length ≤ 1200000000001 → base ≤ V.heap.size →
    ∃ v' V',(Builtin.append_ #[24,24] ty #[v,v18]).run Tryz.prog V = .ok v' V' ∧ V'.ownsRow base 60 4 v' (l ++ L.drop k).length ((l ++ L.drop k).flatMap bdC) ∧ V.grownBy V' v.ownBlock:=by
 obtain ⟨i0,hi,hz0,hz1,hz2⟩:=info_parts inf_Bond
 have hel : Tryz.prog.elem 24 = 60:=by kernel_rfl
 have hsz : (sizeOf (Tryz.prog.elem 24)).run Tryz.prog = fun W => .ok 4 W:=by
  funext W
  rw [hel]
  simp [sizeOf,typeInfo,hi,hz1]
 have hund : Tryz.prog.underlying 24 = some (.slice (Tryz.prog.elem 24)):=by rw [hel];exact Tryz.underlying24
 obtain ⟨A',c',e,hcl,hlies⟩:=own_lies hrow
 cases e
 have hm6 : ∀ W,(Instr.sliceAt 24 (.slice A L.length cap) none (some (.int .i64 (k : Int))) none).run Tryz.prog W = .ok (.slice (if cap = 0 then A else A.map (·.add (0 * 4))) (k - 0) (cap - 0)) W:=by
  intro W
  rw [run_sliceAt_slice _ _ _ _ _ _ hund,run_slice_h W _ A L.length cap hund .i64 k (by omega) (by omega),hsz]
  simp only [Result.andThen,sliced,Int.toNat_natCast]
 have hm18 : ∀ W,(Instr.sliceAt 24 (.slice A L.length cap) (some (.int .i64 (k : Int))) none none).run Tryz.prog W = .ok (.slice (if cap = k then A else A.map (·.add (k * 4))) (L.length - k) (cap - k)) W:=by
  intro W
  rw [run_sliceAt_slice _ _ _ _ _ _ hund,run_slice_l W _ A L.length cap hund .i64 k (by omega) (by omega),hsz]
  simp only [Result.andThen,sliced,Int.toNat_natCast]
 have htl : (L.take k).length = k:=by rw [List.length_take];omega
 have hdl : (L.drop k).length = L.length - k:=List.length_drop
 refine ⟨_,_,hm6,hm18,fun V hV => ?_,fun V hV ty base v l hown hl61 hbase => ?_⟩
 ·have hrow2:=row_mod hrow hV (by simp)
  have hA : (if cap = 0 then A else A.map (·.add (0 * 4))) = A:=by
   split
   ·rfl
   ·rcases hrow with ⟨-,⟨h1,-⟩ | ⟨g,cap2,cur,h1,-⟩⟩
    ·simp only [Value.slice.injEq] at h1;rw [h1.1];rfl
    ·simp only [Value.slice.injEq] at h1;rw [h1.1];rfl
  rw [hA]
  have hh:=copyB_any A (cap - 0) (L.take k) V (by rw [htl];omega) (fun j u hu => by
   obtain ⟨A2,c2,e,-,hl2⟩:=own_lies hrow2
   cases e
   refine hl2 j u ?_
   have hj:=(List.getElem?_eq_some_iff.1 hu).1
   conv => lhs;rw [← List.take_append_drop k L]
   rw [List.flatMap_append,List.getElem?_append_left hj]
   exact hu) (fun e => ?_) (fun e => ?_)
  ·rw [htl] at hh;exact hh
  ·subst e
   rcases hrow with ⟨-,⟨h1,h2⟩ | ⟨g,cap2,cur,h1,-⟩⟩
   ·simp only [Value.slice.injEq,true_and] at h1
    rw [List.eq_nil_of_length_eq_zero h1.1];simp
   ·cases h1
  ·subst e
   rcases hrow with ⟨-,⟨h1,h2⟩ | ⟨g,cap2,cur,h1,-⟩⟩
   ·simp only [Value.slice.injEq,true_and] at h1
    omega
   ·cases h1
 ·have hrow2:=row_mod hrow hV (by simp)
  rcases hrow2 with ⟨hx,⟨h1,h2⟩ | ⟨g,cap2,cur,h1,-⟩⟩
  ·simp only [Value.slice.injEq] at h1
   obtain ⟨rfl,h3,h4⟩:=h1
   have hL : L = []:=List.eq_nil_of_length_eq_zero h3
   subst hL
   obtain rfl : k = 0:=by simpa using hk
   refine ⟨v,V,?_,by simpa using hown,⟨rfl,rfl,rfl,Nat.le_refl _,fun _ _ _ => rfl⟩⟩
   have:=run_append_owned_none (P:=Tryz.prog) V base 24 ty 60 i0 4 Tryz.underlying24 hi v l.length _ hown
   subst h4
   exact this
  ·simp only [Value.slice.injEq] at h1
   obtain ⟨rfl,-,rfl⟩:=h1
   have hrow2:=row_mod hrow hV (by simp)
   obtain ⟨ad,had,hc⟩ : ∃ ad,(if cap = k then some (⟨g,0,none⟩ : Addr) else (some (⟨g,0,none⟩ : Addr)).map (·.add (k * 4))) = some ad ∧ ∀ j u,((L.drop k).flatMap bdC)[j]? = some u → V.cell? (ad.add j) = some u:=by
    by_cases e : cap = k
    ·refine ⟨⟨g,0,none⟩,by rw [if_pos e],fun j u hu => ?_⟩
     rw [List.drop_eq_nil_of_le (by omega)] at hu
     simp at hu
    ·refine ⟨(⟨g,0,none⟩ : Addr).add (k * 4),by rw [if_neg e];rfl,fun j u hu => ?_⟩
     have h5:=row_cell hrow2 (i:=k * 4 + j) (u:=u) (by
      conv => lhs;rw [← List.take_append_drop k L]
      rw [List.flatMap_append,List.getElem?_append_right (by rw [flatV_length bdC_len,htl];omega),flatV_length bdC_len,htl,show k * 4 + j - k * 4 = j by omega]
      exact hu)
     rw [show ((⟨g,0,none⟩ : Addr).add (k * 4)).add j = ⟨g,k * 4 + j,none⟩ by rw [Addr.add_mid,Addr.add_mid,Nat.zero_add]]
     exact h5
   rw [had]
   obtain ⟨v',V',hr,h2,h3,-,-⟩:=run_append_own_at (P:=Tryz.prog) V base 24 ty 60 i0 _ 4 32 Tryz.underlying24 hi hz0 hz1 hz2 rfl (by omega) v l.length _ hown ad (L.length - k) (cap - k) ((L.drop k).flatMap bdC) (by rw [flatV_length bdC_len,hdl]) hc (flat_one bdC_one _) (by unfold maxLen;omega) (by omega) hbase
   refine ⟨v',V',hr,?_,h3⟩
   rw [List.length_append,List.flatMap_append,hdl]
   exact h2
structure IAd (w5 : World) (l1 l2 : List Bd) (x : Bd) (L : Nat → Bool) (σ : Nat → Value) (V : World) : Prop where
 b : Below w5.heap.size w5 V
 c : L 4 = true → L 9 = false → V.ownsRow w5.heap.size 60 4 (σ 4) l1.length (l1.flatMap bdC)
 o : L 8 = true → L 9 = false → oneR w5.heap.size (bdC x).toArray 60 (σ 8) V
 a : L 9 = true → L 13 = false → V.ownsRow w5.heap.size 60 4 (σ 9) (l1 ++ [x]).length ((l1 ++ [x]).flatMap bdC)
 e : L 13 = true → V.ownsRow w5.heap.size 60 4 (σ 13) (l1 ++ [x] ++ l2).length ((l1 ++ [x] ++ l2).flatMap bdC)
section
variable {w5 V V' : World} {l1 l2 : List Bd} {x : Bd} {L : Nat → Bool} {σ : Nat → Value}
theorem IAd.start (h : Below w5.heap.size w5 V) : IAd w5 l1 l2 x (fun _ => false) σ V:=⟨h,fun e => (by cases e),fun e => (by cases e),fun e => (by cases e),fun e => (by cases e)⟩
theorem IAd.read (h : IAd w5 l1 l2 x L σ V) {i : Nat} (h1 : 4 ≠ i ∧ 8 ≠ i ∧ 9 ≠ i ∧ 13 ≠ i) (v : Value) : IAd w5 l1 l2 x (upd L i) (updv σ i v) V:=by
 obtain ⟨n1,n2,n3,n4⟩:=h1
 have eL : ∀ j,j ≠ i → upd L i j = L j:=fun j hj => by unfold upd;simp [hj]
 have es : ∀ j,j ≠ i → updv σ i v j = σ j:=fun j hj => by unfold updv;rw [if_neg hj]
 refine ⟨h.b,?_,?_,?_,?_⟩
 ·rw [eL 4 n1,eL 9 n3,es 4 n1];exact h.c
 ·rw [eL 8 n2,eL 9 n3,es 8 n2];exact h.o
 ·rw [eL 9 n3,eL 13 n4,es 9 n3];exact h.a
 ·rw [eL 13 n4,es 13 n4];exact h.e
theorem IAd.copied (h : IAd w5 l1 l2 x L σ V) (h13 : L 13 = false) (hb : Below V.heap.size V V') {v : Value} (hv : V'.ownsRow V.heap.size 60 4 v l1.length (l1.flatMap bdC)) (h9 : L 9 = false) : IAd w5 l1 l2 x (upd L 4) (updv σ 4 v) V':=by
 have eL : ∀ j,j ≠ 4 → upd L 4 j = L j:=fun j hj => by unfold upd;simp [hj]
 have es : ∀ j,j ≠ 4 → updv σ 4 v j = σ j:=fun j hj => by unfold updv;rw [if_neg hj]
 have hs:=h.b.size
 refine ⟨h.b.trans (hb.mono hs),fun _ _ => ?_,?_,?_,?_⟩
 ·show V'.ownsRow _ _ _ (updv σ 4 v 4) _ _
  rw [show updv σ 4 v 4 = v from rfl]
  exact row_base hv (fun k hk => by have:=(hv.lt k hk).1;omega)
 ·rw [eL 8 (by decide),eL 9 (by decide),es 8 (by decide)];exact fun h1 h2 => oneR_mod (h.o h1 h2) (Mod.ofBelow hb) (by simp)
 ·rw [eL 9 (by decide),h9];intro e;cases e
 ·rw [eL 13 (by decide),h13];intro e;cases e
theorem IAd.oned (h : IAd w5 l1 l2 x L σ V) (h13 : L 13 = false) (h9 : L 9 = false) : IAd w5 l1 l2 x (upd L 8) (updv σ 8 (.slice (some ⟨V.heap.size,0,none⟩) 1 1)) (V.alloc (.cells (bdC x).toArray 60)):=by
 have eL : ∀ j,j ≠ 8 → upd L 8 j = L j:=fun j hj => by unfold upd;simp [hj]
 have es : ∀ v j,j ≠ 8 → updv σ 8 v j = σ j:=fun v j hj => by unfold updv;rw [if_neg hj]
 have hs:=h.b.size
 refine ⟨h.b.alloc hs _,?_,fun _ _ => ?_,?_,?_⟩
 ·rw [eL 4 (by decide),eL 9 (by decide),es _ 4 (by decide)];exact fun h1 h2 => row_mod (h.c h1 h2) ((Mod.refl [] V).alloc _) (by simp)
 ·exact oneR_new hs
 ·rw [eL 9 (by decide),h9];intro e;cases e
 ·rw [eL 13 (by decide),h13];intro e;cases e
theorem IAd.apped (h : IAd w5 l1 l2 x L σ V) (h13 : L 13 = false) (h4 : L 4 = true) (h9 : L 9 = false) {v : Value} (hg : V.grownBy V' (σ 4).ownBlock) (hv : V'.ownsRow w5.heap.size 60 4 v (l1 ++ [x]).length ((l1 ++ [x]).flatMap bdC)) : IAd w5 l1 l2 x (upd L 9) (updv σ 9 v) V':=by
 have eL : ∀ j,j ≠ 9 → upd L 9 j = L j:=fun j hj => by unfold upd;simp [hj]
 refine ⟨h.b.trans ((Below.refl w5.heap.size V).grown hg h.b.size (own_ge (h.c h4 h9))),?_,?_,fun _ _ => hv,?_⟩
 ·intro _ e;simp [upd] at e
 ·intro _ e;simp [upd] at e
 ·rw [eL 13 (by decide),h13];intro e;cases e
theorem IAd.apped2 (h : IAd w5 l1 l2 x L σ V) (h13 : L 13 = false) (h9 : L 9 = true) {v : Value} (hg : V.grownBy V' (σ 9).ownBlock) (hv : V'.ownsRow w5.heap.size 60 4 v (l1 ++ [x] ++ l2).length ((l1 ++ [x] ++ l2).flatMap bdC)) : IAd w5 l1 l2 x (upd L 13) (updv σ 13 v) V':=by
 have eL : ∀ j,j ≠ 13 → upd L 13 j = L j:=fun j hj => by unfold upd;simp [hj]
 refine ⟨h.b.trans ((Below.refl w5.heap.size V).grown hg h.b.size (own_ge (h.a h9 h13))),?_,?_,?_,fun _ => hv⟩
 ·rw [eL 9 (by decide),h9];intro _ e;cases e
 ·rw [eL 9 (by decide),h9];intro _ e;cases e
 ·intro _ e;simp [upd] at e
end
theorem whiles {α : Type} (p : α → Bool) : ∀ (l : List α) (k : Nat), k ≤ l.length → (∀ j (h : j < l.length), j < k → p l[j] = true) → (∀ h : k < l.length, p l[k] = false) → l.takeWhile p = l.take k ∧ l.dropWhile p = l.drop k
  | [], k, hk, _, _ => by obtain rfl : k = 0 := by simpa using hk
                          exact ⟨rfl, rfl⟩
  | x :: l, 0, _, _, h2 => by
    have : p x = false := h2 (by simp)
    simp [this]
  | x :: l, k + 1, hk, h1, h2 => by
    have hx : p x = true := h1 0 (by simp) (by omega)
    obtain ⟨a, b⟩ := whiles p l k (by simpa using hk) (fun j hj hjk => h1 (j + 1) (by simpa using hj) (by omega)) (fun h => h2 (by simpa using h))
    simp [hx, a, b]
theorem insB_at {B : List Bd} {x : Bd} {k : Nat} (hk : k ≤ (outB B x.1).length) (h1 : ∀ j (h : j < (outB B x.1).length),j < k → ltH (outB B x.1)[j].1 x.1 = true) (h2 : ∀ h : k < (outB B x.1).length,ltH (outB B x.1)[k].1 x.1 = false) :
  insB B x = (outB B x.1).take k ++ [x] ++ (outB B x.1).drop k:=by
 obtain ⟨a,b⟩:=whiles (fun b : Bd => ltH b.1 x.1) _ k hk h1 h2
 unfold insB
 rw [a,b];simp
structure IUnd (w1 : World) (l : List Hd) (L : Nat → Bool) (σ : Nat → Value) (V : World) : Prop where
 b : Below w1.heap.size w1 V
 r : L 6 = true → V.ownsRow 0 47 2 (σ 6) l.length (l.flatMap handleC)
theorem IUnd.start {w1 V : World} {l : List Hd} {σ : Nat → Value} (h : Below w1.heap.size w1 V) : IUnd w1 l (fun _ => false) σ V:=⟨h,fun e => (by cases e)⟩
theorem IUnd.read {w1 V : World} {l : List Hd} {L : Nat → Bool} {σ : Nat → Value} (h : IUnd w1 l L σ V) {i : Nat} (hi : 6 ≠ i) (v : Value) : IUnd w1 l (upd L i) (updv σ i v) V:=by
 have eL : upd L i 6 = L 6:=by unfold upd;simp [hi]
 have es : updv σ i v 6 = σ 6:=by unfold updv;rw [if_neg hi]
 exact ⟨h.b,by rw [eL,es];exact h.r⟩
theorem IUnd.got {w1 V V' : World} {l : List Hd} {L : Nat → Bool} {σ : Nat → Value} (h : IUnd w1 l L σ V) (hb : Below V.heap.size V V') {v : Value} (hv : V'.ownsRow 0 47 2 v l.length (l.flatMap handleC)) : IUnd w1 l (upd L 6) (updv σ 6 v) V' :=
 ⟨h.b.trans (hb.mono h.b.size),fun _ => hv⟩
section
variable {vg vl vr : Value} {w : World} {q : Nat} {B : List Bd} {F : List Nat}
set_option maxRecDepth 20000 in
set_option maxHeartbeats 4000000 in
theorem radopt_same (h : RepB vg vl vr w q B F) (s g : Int) : Calls Tryz.prog 68 #[.pointer (some ⟨q,0,none⟩),.agg #[.int .i64 s,.int .i64 g],.agg #[.int .i64 s,.int .i64 g]] w (RFRet vg vl vr B (.int .i64 8) q F w):=by
 obtain ⟨w0,hw0,hb0,hz0,hs0⟩:=box1 w (.cells #[.int .i64 s,.int .i64 g] 47)
 obtain ⟨w1,hw1,hb1,hz1,hs1⟩:=box1 w0 (.cells #[.int .i64 s,.int .i64 g] 47)
 have hz01:=(Mod.ofBelow hb1).keep hz0 (by simp)
 have hB1:=hb0.trans (hb1.mono hb0.size)
 have heq:=fun w => eqlHandle w s g s g
 simp only [eqB_self] at heq
 obtain ⟨q0,q1,ql⟩:=cells2 hz01
 obtain ⟨y0,y1,yl⟩:=cells2 hz1
 have hfin : RFRet vg vl vr B (.int .i64 8) q F w (.returned (.int .i64 8)) w1.drew:=⟨rfl,F,h.below hB1.drew,Turns.same hB1.drew⟩
 have Hfin:=Lib.hid hfin
 clear hfin
 clear h hb0 hz0 hs0 hb1 hz1 hs1 hz01 hB1
 go_enter Tryz.func68,Tryz.ntmps68
 go_wp2_with fail
 clear hw0 hw1
 refine wp_planR 8 [] [some 9,some 10,some 11,some 12,some 13,some 14,some 15,some 16,some 17,some 18] [[],[],[0,1],[0,1,2],[0,1,2,3],[0,1,2,3],[0,1,2,3,4,5],[0,1,2,3],[0,1,2,3,4,5,6,7],[0,1,2,3,4,5,6,7,8]] [0,1,2,3,4,5,6,7] mixed rfl (by kernel_rfl) (by decide) (by decide) rfl ?_
 iterate 8 apply Exists.intro
 refine ⟨rfl,?_,?_⟩
 ·simp only [tS,List.take_zero,AllFrom.cons_eq,AllFrom.nil_eq,OpGoalQ]
  refine ⟨?_,?_,?_,?_,?_,?_,?_,?_,trivial⟩
  all_goals (intro σ hp;(try simp only [gZ,gS,mC,mN,preF_cons,preF_nil,isV,and_true] at hp);(first | (have hq : True:=hp;clear hq hp) | skip))
  all_goals (go_simp;exact ⟨rfl,rfl⟩)
 intro σ hp
 simp only [gZ,gS,mC,mN,preF_cons,preF_nil,isV,and_true] at hp
 simp only [dS,List.drop_zero]
 go_simp
 clear hp
 go_wp2
 refine ⟨rfl,?_⟩
 go_wp2
 refine bodyPost_ret (v:=.int .i64 8) (by unfold results;try go_simp) rfl ?_
 exact Hfin.out
 all_goals exact undef
end
section
variable {vg vl vr : Value} {w : World} {q : Nat} {B : List Bd} {F : List Nat}
theorem hasHandle_own {W : World} {v : Value} {l : List Hd} (hl : l.length ≤ 9223372036854775807) (h : W.ownsRow 0 47 2 v l.length (l.flatMap handleC)) (s g : Int) :
  Calls Tryz.prog 112 #[v,.agg #[.int .i64 s,.int .i64 g]] W fun e w' => e = .returned (.bool (hasB l (s,g))) ∧ Below W.heap.size W w':=by
 obtain ⟨A,c,rfl,-,hL⟩:=own_lies h
 exact hasHandle_any A c l s g W hl hL
set_option maxRecDepth 20000 in
set_option maxHeartbeats 8000000 in
theorem radopt_diff (hO : FamOk B) (hl : B.length ≤ 1200000000000) (h : RepB vg vl vr w q B F) (s g t u : Int) (hne : (s,g) ≠ (t,u)) : Calls Tryz.prog 68 #[.pointer (some ⟨q,0,none⟩),.agg #[.int .i64 s,.int .i64 g],.agg #[.int .i64 t,.int .i64 u]] w (RFRet vg vl vr (adoB B (s,g) (t,u)) (.int .i64 (adoE B (s,g) (t,u))) q F w):=by
 obtain ⟨w0,hw0,hb0,hz0,hs0⟩:=box1 w (.cells #[.int .i64 s,.int .i64 g] 47)
 obtain ⟨w1,hw1,hb1,hz1,hs1⟩:=box1 w0 (.cells #[.int .i64 t,.int .i64 u] 47)
 have hz01:=(Mod.ofBelow hb1).keep hz0 (by simp)
 have hB1:=hb0.trans (hb1.mono hb0.size)
 have heq:=fun w => eqlHandle w s g t u
 simp only [eqB_ne hne] at heq
 have h1:=h.below hB1
 have hun:=fun V (hb : Below w1.heap.size w1 V) => runder_any hO hl (lowN B) s g V (lowN_spec hO.ac _) (h1.below hb)
 have hul:=underN_len hO (lowN_spec hO.ac (s,g))
 have hup : hasB (underN B (lowN B) (s,g)) (t,u) = true ↔ Up B (t,u) (s,g):=by
  rw [hasB_iff,← mem_underB hO]
  exact ⟨fun h => .inr h,fun h => h.resolve_left hne⟩
 generalize underN B (lowN B) (s,g) = un at *
 obtain ⟨q0,q1,ql⟩:=cells2 hz01
 obtain ⟨y0,y1,yl⟩:=cells2 hz1
 obtain ⟨Hun,Hul,HUP,HZ1,HB1,Hz01,Hz1,H,Hl,HO⟩:=hid10 hun hul hup h1 hB1 hz01 hz1 h hl hO
 clear hun hul hup h1 hB1 hz01 hz1 h hl hO
 clear hb0 hz0 hs0 hb1 hs1
 go_enter Tryz.func68,Tryz.ntmps68
 go_wp2_with fail
 clear hw0 hw1 q0 q1 ql y0 y1 yl
 refine wp_planK [6] 8 [] [some 9,some 10,some 11,some 12,some 13,some 14,some 15,some 16,some 17,some 18] [[],[],[0,1],[0,1,2],[0,1,2,3],[0,1,2,3],[0,1,2,3,4,5],[0,1,2,3],[0,1,2,3,4,5,6,7],[0,1,2,3,4,5,6,7,8]] [0,1,2,3,4,5,6,7] (fun Lf σ V => IUnd w1 un Lf σ V) mixed rfl (by kernel_rfl) (by decide) (by decide) (by decide) (IUnd.start below_drew) rfl ?_
 iterate 8 apply Exists.intro
 refine ⟨rfl,?_,?_⟩
 ·simp only [tS,List.take_zero,AllFrom.cons_eq,AllFrom.nil_eq,OpGoalK]
  refine ⟨?_,?_,?_,?_,?_,?_,?_,?_,trivial⟩
  all_goals (intro L' σ V h1 h2 h3 hI hp;have HA1:=Lib.hid h1;have HA2:=Lib.hid h2;have HA3:=Lib.hid h3;clear h1 h2 h3;(try simp only [gZ,gS,preK_cons,preK_nil] at hp);(try simp only [List.mem_cons,List.not_mem_nil,or_false,eq_self,Nat.reduceEqDiff,Nat.reduceAdd,Nat.zero_add,false_or,true_or,true_and,and_true] at hp);(first | (have hq : True:=hp;clear hq hp) | skip);have HI:=Lib.hid hI;clear hI)
  all_goals (
   have hzV:=(Mod.ofBelow HI.out.b).keep Hz01.out (by simp)
   have hyV:=(Mod.ofBelow HI.out.b).keep Hz1.out (by simp)
   have q0:=blk_cell hzV 0
   have q1:=blk_cell hzV 1
   simp only [eA,eZ,eS] at q0 q1
   have ql:=blk_lt hzV
   have y0:=blk_cell hyV 0
   have y1:=blk_cell hyV 1
   simp only [eA,eZ,eS] at y0 y1
   have yl:=blk_lt hyV
   clear hzV hyV)
  iterate 6 · (go_simp;exact ⟨.inr rfl,HI.out.read (by decide) _⟩)
  ·go_simp
   refine (Hun.out V HI.out.b).mono ?_
   rintro e V' ⟨v,rfl,hv,hb⟩
   exact ⟨_,rfl,PostK.mk (c:=undef) (.inl (by decide)) (HI.out.got hb (row_base hv (fun k _ => Nat.zero_le k)))⟩
  ·(go_simp;exact ⟨.inr rfl,HI.out.read (by decide) _⟩)
 ·intro L' σ V h1 hI hp
  have h6:=hI.r (h1 6 (by decide))
  have hbV:=hI.b
  clear h1 hI
  simp only [preK_cons,preK_nil,gZ,gS] at hp;simp only [List.mem_cons,List.not_mem_nil,or_false,eq_self,Nat.reduceEqDiff,false_or,true_or,true_and,and_true] at hp
  have HH:=Lib.hid (hasHandle_own (by have:=Hul.out;have:=Hl.out;omega) h6 t u)
  have hZV:=HZ1.out.below hbV
  have hzV:=(Mod.ofBelow hbV).keep Hz01.out (by simp)
  have hyV:=(Mod.ofBelow hbV).keep Hz1.out (by simp)
  have hBV:=HB1.out.trans (hbV.mono HB1.out.size)
  obtain ⟨HZV,HzV,HyV,HBV⟩:=hid4 hZV hzV hyV hBV
  clear hZV hzV hyV hBV
  clear h6 hbV
  simp only [dS,List.drop_zero]
  go_simp
  clear hp
  generalize σ 6 = v6 at *
  go_wp2_with fail
  refine HH.out.mono ?_
  rintro e w2 ⟨rfl,hb2⟩
  have hBw2:=HBV.out.trans (hb2.mono HBV.out.size)
  cases hh : hasB un (t,u) with
  | true =>
   have hfin : RFRet vg vl vr (adoB B (s,g) (t,u)) (.int .i64 (adoE B (s,g) (t,u))) q F w (.returned (.int .i64 8)) w2:=by
    have hu:=HUP.out.1 hh
    have e1 : adoB B (s,g) (t,u) = B:=by unfold adoB;rw [if_pos hu]
    have e2 : adoE B (s,g) (t,u) = 8:=by unfold adoE;rw [if_pos hu]
    rw [e1,e2]
    exact ⟨rfl,F,H.out.below hBw2,Turns.same hBw2⟩
   have Hfin:=Lib.hid hfin
   clear hfin
   clear hb2 hBw2 hh
   go_wp2
   refine ⟨rfl,?_⟩
   go_wp2
   refine bodyPost_ret (v:=.int .i64 8) (by unfold results;try go_simp) rfl ?_
   exact Hfin.out
  | false =>
   have hnu : ¬ Up B (t,u) (s,g):=fun hu => by rw [HUP.out.2 hu] at hh;cases hh
   have hZ2:=HZV.out.below hb2
   have hz2:=(Mod.ofBelow hb2).keep HzV.out (by simp)
   have hy2:=(Mod.ofBelow hb2).keep HyV.out (by simp)
   obtain ⟨A,cap,hq,hrow⟩:=hZ2.open_
   have H3:=Lib.hid (withoutAdopt_any hrow Hl.out s g w.heap.size hz2)
   obtain ⟨c0,c1,c2,c3,cl⟩:=cells4 hq
   obtain ⟨HZ2,Hz2,Hy2,Hq,Hnu,HBw2⟩:=hid6 hZ2 hz2 hy2 hq hnu hBw2
   clear hZ2 hz2 hy2 hq hnu hBw2
   clear hb2 hrow hh
   go_wp2_with fail
   refine ⟨rfl,?_⟩
   go_wp2_with fail
   clear c0 c1 c2 c3 cl
   refine H3.out.mono ?_
   rintro e w3 ⟨v,rfl,hv,hb3⟩
   have hB : (outB B (s,g)).length ≤ 1200000000000:=by
    have h1 : (outB B (s,g)).length ≤ B.length:=List.length_filter_le _ _
    have:=Hl.out
    omega
   have hat:=fun k => @insB_at B ((s,g),(t,u)) k
   simp only at hat
   have hv0 : w3.ownsRow 0 60 4 v (outB B (s,g)).length ((outB B (s,g)).flatMap bdC):=row_base hv (fun k _ => Nat.zero_le k)
   have hins : adoB B (s,g) (t,u) = insB B ((s,g),(t,u)):=by unfold adoB;rw [if_neg Hnu.out]
   have hinE : adoE B (s,g) (t,u) = 0:=by unfold adoE;rw [if_neg Hnu.out]
   have hz3:=(Mod.ofBelow hb3).keep Hz2.out (by simp)
   have hy3:=(Mod.ofBelow hb3).keep Hy2.out (by simp)
   have hZ3:=HZ2.out.below hb3
   have hq3:=(Mod.ofBelow hb3).keep Hq.out (by simp)
   have hBw3:=HBw2.out.trans (hb3.mono HBw2.out.size)
   generalize outB B (s,g) = l at *
   obtain ⟨A3,cap3,rfl,-,-⟩:=row_slice hv0
   obtain ⟨Hat,Hv,Hins,HinE,Hz3,Hy3,HZ3,HBw3,HLB,Hq3⟩:=hid10 hat hv0 hins hinE hz3 hy3 hZ3 hBw3 hB hq3
   clear hat hv0 hins hinE hz3 hy3 hZ3 hBw3 hB hq3
   clear hb3 hv
   go_wp2_with fail
   go_loopw [8] (fun i wr => ∃ k : Nat,k ≤ l.length ∧ i = .int .i64 k ∧ (∀ j (h : j < l.length),j < k → ltH l[j].1 (s,g) = true) ∧ Below w3.heap.size w3 wr) (fun i _ => l.length - (Go.RowKit.intOf i).toNat)
   case atStart => exact ⟨0,by omega,rfl,fun j h hj => by omega,Below.refl _ _⟩
   case round =>
    obtain ⟨k,hk,rfl,hno,hbel⟩:=hrel
    have hsz:=hbel.size
    have hzr:=(Mod.ofBelow hbel).keep Hz3.out (by simp)
    have hyr:=(Mod.ofBelow hbel).keep Hy3.out (by simp)
    have hrow:=row_mod Hv.out (Mod.ofBelow hbel) (by simp)
    have hl63 : l.length ≤ 9223372036854775807:=by have:=HLB.out;omega
    obtain ⟨q0,q1,ql⟩:=cells2 hzr
    by_cases hgo : ∃ h : k < l.length,ltH l[k].1 (s,g) = true
    ·obtain ⟨hlt,hgo⟩:=hgo
     obtain ⟨g0,cap0,cur0,hv,-,-,-⟩:=row_some hrow (by omega)
     cases hv
     obtain ⟨g0',cap',e,hcell⟩:=row_rec bdC_len hrow hlt
     cases e
     have c3:=hcell 0 (.int .i64 l[k].1.1) rfl
     have c4:=hcell 1 (.int .i64 l[k].1.2) rfl
     rw [Nat.add_zero] at c3
     have hgl:=row_lt hrow g0 rfl
     have hno2 : ∀ j (h : j < l.length),j < k + 1 → ltH l[j].1 (s,g) = true:=by
      intro j h1 h2
      rcases Nat.lt_or_eq_of_le (Nat.lt_succ_iff.1 h2) with h3 | rfl
      ·exact hno j h1 h3
      ·exact hgo
     have hki : (k : Int) < (l.length : Int):=by omega
     have HLs:=Lib.hid (less_any l[k].1.1 l[k].1.2 s g)
     have hgo' : ltH (l[k].1.1,l[k].1.2) (s,g) = true:=hgo
     generalize l[k].1.1 = z0 at *
     generalize l[k].1.2 = z1 at *
     rw [hgo'] at HLs
     have hb2:=hbel.drew
     obtain ⟨Hno2,Hb2⟩:=hid2 hno2 hb2
     clear hno2 hb2
     clear hno hbel hzr hyr hrow hcell hgo hgo'
     go_wp2_with fail
     refine wp_planR 11 [0,1] [some 25,some 26,some 27,some 28,some 29,some 30,some 31,some 32,some 33,some 34,some 35,some 36,some 37] [[],[],[1],[0,1,2],[0,1,2,3],[0,1,2,3,4],[0,1,2,3,4],[0,1,2,3,4,5,6],[0,1,2,3,4,5,6,7],[0,1,2,3,4,5,6,7,8],[0,1,2,3,4],[0,1,2,3,4,5,6,7,8,9,10],[0,1,2,3,4,5,6,7,8,9,10,11]] [0,1,2,3,4,5,6,7,8,9,10] mixed rfl (by kernel_rfl) (by decide) (by decide) rfl ?_
     iterate 11 apply Exists.intro
     refine ⟨rfl,?_,?_⟩
     ·simp only [tS,List.take_zero,AllFrom.cons_eq,AllFrom.nil_eq,OpGoalQ]
      refine ⟨?_,?_,?_,?_,?_,?_,?_,?_,?_,?_,?_,trivial⟩
      all_goals (intro σ hp;(try simp only [gZ,gS,mC,mN,preF_cons,preF_nil,isV,and_true] at hp);(first | (have hq : True:=hp;clear hq hp) | skip))
      all_goals (go_simp;exact ⟨rfl,rfl⟩)
     intro σ hp
     simp only [gZ,gS,mC,mN,preF_cons,preF_nil,isV,and_true] at hp
     simp only [dS,List.drop_zero]
     go_simp
     clear hp
     go_wp2_with fail
     refine (HLs.out _).mono ?_
     rintro e w5 ⟨rfl,hb5⟩
     have hb25:=Hb2.out.trans (hb5.mono Hb2.out.size)
     have Hb25:=Lib.hid hb25
     clear hb25
     clear hb5 q0 q1 ql c3 c4
     go_wp2_with fail
     refine ⟨rfl,?_⟩
     go_wp2
     go_roundw
     case rel => exact ⟨k + 1,by omega,by go_num,Hno2.out,Hb25.out⟩
     case measure => simp [Go.RowKit.intOf];omega
    ·have hins2:=Hat.out k hk hno (fun h => by
      cases e : ltH l[k].1 (s,g) with
      | false => rfl
      | true => exact absurd ⟨h,e⟩ hgo)
     have hlB:=HLB.out
     have hZr:=HZ3.out.below hbel
     have hBr:=HBw3.out.trans (hbel.mono HBw3.out.size)
     obtain ⟨Hins2,Hbel,HZr,HBr,Hzr,Hyr,Hrow,Hno⟩:=hid8 hins2 hbel hZr hBr hzr hyr hrow hno
     clear hins2 hbel hZr hBr hzr hyr hrow hno
     have Hk:=Lib.hid hk
     rcases Nat.lt_or_ge k l.length with hlt | hlt
     case' inl =>
      have hgo' : ltH (l[k].1.1,l[k].1.2) (s,g) = false:=by
       cases e : ltH (l[k].1.1,l[k].1.2) (s,g) with
       | false => rfl
       | true => exact absurd ⟨hlt,e⟩ hgo
      have hrow:=Hrow.out
      obtain ⟨g0,cap0,cur0,hv,-,-,-⟩:=row_some hrow (by omega)
      cases hv
      obtain ⟨g0',cap',e,hcell⟩:=row_rec bdC_len hrow hlt
      cases e
      have c3:=hcell 0 (.int .i64 l[k].1.1) rfl
      have c4:=hcell 1 (.int .i64 l[k].1.2) rfl
      rw [Nat.add_zero] at c3
      have hgl:=row_lt hrow g0 rfl
      have hki : (k : Int) < (l.length : Int):=by omega
      have HLs:=Lib.hid (less_any l[k].1.1 l[k].1.2 s g)
      generalize l[k].1.1 = z0 at *
      generalize l[k].1.2 = z1 at *
      rw [hgo'] at HLs
      clear hcell hgo hgo' hrow
      go_wp2_with fail
      refine wp_planR 11 [0,1] [some 25,some 26,some 27,some 28,some 29,some 30,some 31,some 32,some 33,some 34,some 35,some 36,some 37] [[],[],[1],[0,1,2],[0,1,2,3],[0,1,2,3,4],[0,1,2,3,4],[0,1,2,3,4,5,6],[0,1,2,3,4,5,6,7],[0,1,2,3,4,5,6,7,8],[0,1,2,3,4],[0,1,2,3,4,5,6,7,8,9,10],[0,1,2,3,4,5,6,7,8,9,10,11]] [0,1,2,3,4,5,6,7,8,9,10] mixed rfl (by kernel_rfl) (by decide) (by decide) rfl ?_
      iterate 11 apply Exists.intro
      refine ⟨rfl,?_,?_⟩
      ·simp only [tS,List.take_zero,AllFrom.cons_eq,AllFrom.nil_eq,OpGoalQ]
       refine ⟨?_,?_,?_,?_,?_,?_,?_,?_,?_,?_,?_,trivial⟩
       all_goals (intro σ hp;(try simp only [gZ,gS,mC,mN,preF_cons,preF_nil,isV,and_true] at hp);(first | (have hq : True:=hp;clear hq hp) | skip))
       all_goals (go_simp;exact ⟨rfl,rfl⟩)
      intro σ hp
      simp only [gZ,gS,mC,mN,preF_cons,preF_nil,isV,and_true] at hp
      simp only [dS,List.drop_zero]
      go_simp
      clear hp
      go_wp2_with fail
      refine (HLs.out _).mono ?_
      rintro e w5 ⟨rfl,hb5⟩
      have hb35 : Below wr.heap.size wr w5:=below_drew.trans hb5
      have Hb35:=Lib.hid hb35
      clear hb35
      clear hb5 q0 q1 ql c3 c4 hki hgl hlt
      go_wp2_with fail
      refine ⟨rfl,?_⟩
      go_wp2_with fail
     case' inr =>
      have hki : decide (k < l.length) = false:=by simp;omega
      have hb35 : Below wr.heap.size wr wr.drew:=below_drew
      have Hb35:=Lib.hid hb35
      clear hb35
      clear hgo
      go_wp2_with fail
      refine wp_planR 11 [0,1] [some 25,some 26,some 27,some 28,some 29,some 30,some 31,some 32,some 33,some 34,some 35,some 36,some 37] [[],[],[1],[0,1,2],[0,1,2,3],[0,1,2,3,4],[0,1,2,3,4],[0,1,2,3,4,5,6],[0,1,2,3,4,5,6,7],[0,1,2,3,4,5,6,7,8],[0,1,2,3,4],[0,1,2,3,4,5,6,7,8,9,10],[0,1,2,3,4,5,6,7,8,9,10,11]] [0,1,2,3,4,5,6,7,8,9,10] mixed rfl (by kernel_rfl) (by decide) (by decide) rfl ?_
      iterate 11 apply Exists.intro
      refine ⟨rfl,?_,?_⟩
      ·simp only [tS,List.take_zero,AllFrom.cons_eq,AllFrom.nil_eq,OpGoalQ]
       refine ⟨?_,?_,?_,?_,?_,?_,?_,?_,?_,?_,?_,trivial⟩
       all_goals (intro σ hp;(try simp only [gZ,gS,mC,mN,preF_cons,preF_nil,isV,and_true] at hp);(first | (have hq : True:=hp;clear hq hp) | skip))
       all_goals (go_simp;exact ⟨rfl,rfl⟩)
      intro σ hp
      simp only [gZ,gS,mC,mN,preF_cons,preF_nil,isV,and_true] at hp
      simp only [dS,List.drop_zero]
      go_simp
      clear hp
      generalize wr.drew = w5 at *
      go_wp2_with fail
      refine ⟨rfl,?_⟩
      go_wp2_with fail
      clear hki hlt q0 q1 ql
     all_goals (
      have hrow5:=row_mod Hrow.out (Mod.ofBelow Hb35.out) (by simp)
      obtain ⟨v6,v18,e6,e18,hcp,hap⟩:=slice_splitB hrow5 Hk.out HLB.out
      have hZ5:=HZr.out.below Hb35.out
      have hz5:=(Mod.ofBelow Hb35.out).keep Hzr.out (by simp)
      have hy5:=(Mod.ofBelow Hb35.out).keep Hyr.out (by simp)
      have hB5:=HBr.out.trans (Hb35.out.mono HBr.out.size)
      obtain ⟨A7,cap7,hq5,-⟩:=hZ5.open_
      have hfin : ∀ V v',Below w5.heap.size w5 V → V.ownsRow w5.heap.size 60 4 v' (insB B ((s,g),(t,u))).length ((insB B ((s,g),(t,u))).flatMap bdC) → RFRet vg vl vr (adoB B (s,g) (t,u)) (.int .i64 (adoE B (s,g) (t,u))) q F w (.returned (.int .i64 0)) (V.setCell ⟨q,3,none⟩ v'):=by
       intro V v' hbV hv'
       obtain ⟨F',h4,hT⟩:=hZ5.put hbV hv'
       rw [Hins.out,HinE.out]
       exact ⟨rfl,F',h4,Turns.after hB5 hT⟩
      have Hfin:=Lib.hid hfin;have E6:=Lib.hid e6;have E18:=Lib.hid e18;have HCP:=Lib.hid hcp;have HAP:=Lib.hid hap;have Hq5:=Lib.hid hq5;have Hz5:=Lib.hid hz5;have Hy5:=Lib.hid hy5
      clear hfin e6 e18 hcp hap hq5 hz5 hy5
      clear hrow5 hZ5 hB5
      refine wp_planK [4,8,9,13] 14 [0,1,2,10,11] [some 40,some 41,some 42,some 43,some 44,some 45,some 46,some 47,some 48,some 49,some 50,some 51,some 52,some 53,some 54,some 55,none] [[],[],[],[1,2],[1,2,3],[],[],[5,6],[5,6,7],[1,2,3,4,5,6,7,8],[],[],[10,11],[1,2,3,4,5,6,7,8,9,10,11,12],[0,1,2,3,4,5,6,7,8,9,10,11,12,13],[0,1,2,3,4,5,6,7,8,9,10,11,12,13,14],[0,1,2,3,4,5,6,7,8,9,10,11,12,13,14,15]] [0,1,2,3,4,5,6,7,8,9,10,11,12,13] (fun Lf σ V => IAd w5 (l.take k) (l.drop k) ((s,g),(t,u)) Lf σ V) mixed rfl (by kernel_rfl) (by decide) (by decide) (by decide) (IAd.start below_drew) rfl ?_
      iterate 14 apply Exists.intro
      refine ⟨rfl,?_,?_⟩
      ·simp only [tS,List.take_zero,AllFrom.cons_eq,AllFrom.nil_eq,OpGoalK]
       refine ⟨?_,?_,?_,?_,?_,?_,?_,?_,?_,?_,?_,?_,?_,?_,trivial⟩
       all_goals (intro L' σ V h1 h2 h3 hI hp;have HA1:=Lib.hid h1;have HA2:=Lib.hid h2;have HA3:=Lib.hid h3;clear h1 h2 h3;(try simp only [gZ,gS,preK_cons,preK_nil] at hp);(try simp only [List.mem_cons,List.not_mem_nil,or_false,eq_self,Nat.reduceEqDiff,Nat.reduceAdd,Nat.zero_add,false_or,true_or,true_and,and_true] at hp);(first | (have hq : True:=hp;clear hq hp) | skip);have HI:=Lib.hid hI;clear hI)
       all_goals (
        have hzV:=(Mod.ofBelow HI.out.b).keep Hz5.out (by simp)
        have hyV:=(Mod.ofBelow HI.out.b).keep Hy5.out (by simp)
        have q0:=blk_cell hzV 0
        have q1:=blk_cell hzV 1
        simp only [eA,eZ,eS] at q0 q1
        have ql:=blk_lt hzV
        have y0:=blk_cell hyV 0
        have y1:=blk_cell hyV 1
        simp only [eA,eZ,eS] at y0 y1
        have yl:=blk_lt hyV
        have e6:=E6.out
        have e18:=E18.out
        clear hzV hyV)
       ·(go_simp;exact ⟨.inr rfl,HI.out.read (by decide) _⟩)
       ·(go_simp;exact ⟨.inr rfl,HI.out.read (by decide) _⟩)
       ·(go_simp;exact ⟨.inr rfl,HI.out.read (by decide) _⟩)
       ·(go_simp;exact ⟨.inr rfl,HI.out.read (by decide) _⟩)
       ·go_simp
        refine (HCP.out _ (Mod.ofBelow HI.out.b)).mono ?_
        rintro e V' ⟨v,rfl,hv,hb⟩
        exact ⟨_,rfl,PostK.mk (c:=undef) (.inl (by decide)) (HI.out.copied (HA3.out 13 (by decide)) hb hv (HA3.out 9 (by decide)))⟩
       ·(go_simp;exact ⟨.inr rfl,HI.out.read (by decide) _⟩)
       ·(go_simp;exact ⟨.inr rfl,HI.out.read (by decide) _⟩)
       ·(go_simp;exact ⟨.inr rfl,HI.out.read (by decide) _⟩)
       ·go_simp
        exact PostK.mk (c:=undef) (.inl (by decide)) (HI.out.oned (HA3.out 13 (by decide)) (HA3.out 9 (by decide)))
       ·simp only [wantedL_none,if_true]
        have ha4:=HI.out.c (HA2.out 4 (by decide)) HA1.out
        have ha8:=HI.out.o (HA2.out 8 (by decide)) HA1.out
        have Ha4:=Lib.hid ha4;have Ha8:=Lib.hid ha8
        have Hlen:=Lib.hid (show ((l.take k).length + 1) * 32 ≤ 140737488355328 by rw [List.length_take];omega)
        clear ha4 ha8
        refine yr_app (enc:=bdC) (n:=4) (bytes:=32) (.tmp 44) (.tmp 48) 24 60 rfl Tryz.underlying24 inf_Bond rfl (by omega) (by omega) bdC_one bdC_len w5.heap.size (σ 4) (l.take k) ((s,g),(t,u)) w5.heap.size (bdC ((s,g),(t,u))).toArray 60 (by go_simp) Ha4.out (by go_simp;exact Ha8.out) rfl Hlen.out HI.out.b.size ?_
        intro v' V' hv hg _
        exact PostK.mk (c:=undef) (.inl (by decide)) (HI.out.apped (HA3.out 13 (by decide)) (HA2.out 4 (by decide)) HA1.out hg hv)
       ·(go_simp;exact ⟨.inr rfl,HI.out.read (by decide) _⟩)
       ·(go_simp;exact ⟨.inr rfl,HI.out.read (by decide) _⟩)
       ·(go_simp;exact ⟨.inr rfl,HI.out.read (by decide) _⟩)
       ·obtain ⟨v',V',hr,hv,hg⟩:=HAP.out _ (Mod.ofBelow HI.out.b) 24 _ (σ 9) (l.take k ++ [((s,g),(t,u))]) (HI.out.a (HA2.out 9 (by decide)) HA1.out) (by rw [List.length_append,List.length_take,List.length_singleton];omega) HI.out.b.size
        simp only [wantedL_none,if_true]
        refine yr_appVB (.tmp 49) (.tmp 52) 24 rfl (by go_simp) (by go_simp) hr (PostK.mk (c:=undef) (.inl (by decide)) (HI.out.apped2 HA1.out (HA2.out 9 (by decide)) hg hv))
      ·intro L' σ V h1 hI hp
       have h13:=hI.e (h1 13 (by decide))
       rw [← Hins2.out] at h13
       have hB:=hI.b
       clear h1 hI
       have hFV:=Hfin.out V (σ 13) hB h13
       have hqV:=(Mod.ofBelow hB).keep Hq5.out (by simp)
       have hql:=blk_lt hqV
       have f3:=blk_free hqV 3
       have c3:=blk_cell hqV 3
       simp only [eA,eZ,eS] at c3
       have hsl:=row_slice h13
       have hs1:=Classical.choose_spec hsl
       generalize Classical.choose hsl = A2 at hs1
       have hs2:=Classical.choose_spec hs1
       generalize Classical.choose hs1 = cap2 at hs2
       have hv2:=hs2.1
       have HFV:=Lib.hid hFV
       clear hFV
       clear hsl hs1 hs2 h13 hB hqV
       simp only [preK_cons,preK_nil,gZ,gS] at hp;simp only [List.mem_cons,List.not_mem_nil,or_false,eq_self,Nat.reduceEqDiff,false_or,true_or,true_and,and_true] at hp
       simp only [dS,List.drop_zero]
       go_simp
       clear hp
       generalize σ 13 = v13 at *
       subst hv2
       go_wp2_with fail
       refine ⟨rfl,?_⟩
       go_wp2
       refine bodyPost_ret (v:=.int .i64 0) (by unfold results;try go_simp) rfl ?_
       exact HFV.out)
 all_goals exact undef
end
end Go.Proofs.YtfdillpofciicaaGreatDoor
