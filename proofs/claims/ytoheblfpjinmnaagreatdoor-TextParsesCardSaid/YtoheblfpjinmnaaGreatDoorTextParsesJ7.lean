import Derived.Test.YtoheblfpjinmnaaGreatDoorTextParsesJ6
import Derived.Deep.MidRow
import Derived.TacticsIn
import Derived.OrdersIn
import Derived.Test.YtoheblfpjinmnaaGreatDoorTextParsesJ3
import Derived.Test.YtoheblfpjinmnaaGreatDoorTextParsesJ4
import Derived.RangeFuncLeaves
import Derived.Shelf.Abstract
import Derived.Shelf.RegionOpen
import Derived.OwnWalkIn
import Derived.TacticsInMore
import Derived.LoopNIn
import Derived.LoopIn
set_option linter.unusedVariables false
set_option linter.unusedSimpArgs false
/- A part of the proof that TextParses returns true. -/
namespace Go.Proofs.YtoheblfpjinmnaaGreatDoor
open Go Go.RowKit
def oneR (S : Nat) (ys : Array Value) (t : TypeId) : Value → World → Prop:=fun v w => ∃ b,v = .slice (some ⟨b,0,none⟩) 1 1 ∧ S ≤ b ∧ w.heap[b]? = some (.cells ys t (0,0))
theorem stab_oneR {S : Nat} {ys : Array Value} {t : TypeId} : Stab Grow (oneR S ys t):=by
 rintro v w w' hb ⟨b,h1,h2,h3⟩
 exact ⟨b,h1,h2,(Mod.ofBelow hb).keep h3 (by simp)⟩
theorem oneR_mod {S : Nat} {ys : Array Value} {t : TypeId} {F : List Nat} {v : Value} {w w' : World} (h : oneR S ys t v w) (hm : Mod F w w') (hF : ∀ k ∈ F,k < S) : oneR S ys t v w':=by
 obtain ⟨b,h1,h2,h3⟩:=h
 exact ⟨b,h1,h2,hm.keep h3 (fun hk => by have:=hF b hk;omega)⟩
theorem oneR_new {S : Nat} {ys : Array Value} {t : TypeId} {w : World} (h : S ≤ w.heap.size) : oneR S ys t (.slice (some ⟨w.heap.size,0,none⟩) 1 1) (w.alloc (.cells ys t)):=⟨_,rfl,h,heap_alloc_new w _⟩
theorem oneR_cells {S : Nat} {ys : Array Value} {t : TypeId} {v : Value} {w : World} {xs : List Value} (h : oneR S ys t v w) (he : ys.toList = xs) : ∃ ad,v = .slice (some ad) 1 1 ∧ ∀ j u,xs[j]? = some u → w.cell? (ad.add j) = some u:=by
 obtain ⟨b,rfl,-,hb⟩:=h
 refine ⟨_,rfl,fun j u hu => ?_⟩
 subst he
 have e : (⟨b,0,none⟩ : Addr).add j = ⟨b,j,none⟩:=by unfold Addr.add;split <;> simp_all
 rw [e,blk_cell hb]
 simpa using hu
section
variable {P : Program} {α : Type} {enc : α → List Value} {n : Nat}
theorem yr_app {o : Oper} {ρ : Operand → Value} {w : World} {J : Value → World → Prop} (s x : Operand) (T E : TypeId)
  (ho : o.op = .call { callee:=.builtin .append,args:=#[s,x],argTypes:=#[T,T] }) (ht : P.underlying T = some (.slice E)) {z : Value} {bytes : Nat}
  (hinf : (P.info? E).map (fun i => (i.zero,i.size,i.bytes)) = some (some z,n,bytes)) (hzs : z.cells.size = n) (hn : 0 < n) (hby : 0 < bytes) (hone : ∀ x,∀ u ∈ enc x,u.oneCell' = true) (hf : ∀ x,(enc x).length = n)
  (base : Nat) (v : Value) (l : List α) (y : α) (S : Nat) (ys : Array Value) (t : TypeId) (hs : ρ s = v) (hown : w.ownsRow base E n v l.length (l.flatMap enc)) (hx : oneR S ys t (ρ x) w) (hys : ys.toList = enc y)
  (hlen : (l.length + 1) * bytes ≤ 140737488355328) (hbase : base ≤ w.heap.size)
  (h : ∀ v' w',w'.ownsRow base E n v' (l ++ [y]).length ((l ++ [y]).flatMap enc) → w.grownBy w' v.ownBlock → (v'.ownBlock = v.ownBlock ∨ v'.ownBlock = some w.heap.size) → J v' w') : YieldsR P o ρ w J:=by
 obtain ⟨i0,hi,hz0,hz1,hz2⟩:=info_parts hinf
 have h1 : l.length + 1 ≤ (l.length + 1) * bytes:=Nat.le_mul_of_pos_right _ hby
 obtain ⟨ad,hxe,hc⟩:=oneR_cells hx hys
 obtain ⟨v',w',hr,h2,h3,h4,h5⟩:=run_append_own_at (P:=P) w base T o.type E i0 z n bytes ht hi hz0 hz1 hz2 hzs hn v l.length _ hown ad 1 1 (enc y) (by rw [hf,Nat.one_mul]) hc (hone y) (by unfold maxLen;omega) hlen hbase
 unfold YieldsR execOp
 simp only [ho,resolve,invoke,builtin,Sem.run_bind,Sem.run_pure,Result.andThen_ok,List.map_toArray,mC,mN,hs,hxe,hr]
 refine h v' w' ?_ h3 h5
 rw [List.length_append,List.flatMap_append]
 simpa using h2
theorem app_oneR {w : World} {ops : Array Oper} {rest : List Oper} {o : Oper} {a : Act} {Q : Exit → Act → World → Prop} (hgd : o.guard = none) (s x : Operand) (T E : TypeId)
  (ho : o.op = .call { callee:=.builtin .append,args:=#[s,x],argTypes:=#[T,T] }) (ht : P.underlying T = some (.slice E)) {z : Value} {bytes : Nat}
  (hinf : (P.info? E).map (fun i => (i.zero,i.size,i.bytes)) = some (some z,n,bytes)) (hzs : z.cells.size = n) (hn : 0 < n) (hby : 0 < bytes) (hone : ∀ x,∀ u ∈ enc x,u.oneCell' = true) (hf : ∀ x,(enc x).length = n)
  (base : Nat) (v : Value) (l : List α) (y : α) (S : Nat) (ys : Array Value) (t : TypeId) (hs : a.eval s = v) (hown : w.ownsRow base E n v l.length (l.flatMap enc)) (hx : oneR S ys t (a.eval x) w) (hys : ys.toList = enc y)
  (hlen : (l.length + 1) * bytes ≤ 140737488355328) (hbase : base ≤ w.heap.size)
  (h : ∀ v' w',w'.ownsRow base E n v' (l ++ [y]).length ((l ++ [y]).flatMap enc) → w.grownBy w' v.ownBlock → (v'.ownBlock = v.ownBlock ∨ v'.ownBlock = some w.heap.size) → wpList P ops Q rest (a.put o.dst v') w') : wpList P ops Q (o :: rest) a w:=by
 obtain ⟨ad,hxe,hc⟩:=oneR_cells hx hys
 exact app_rec hgd s x T E ho ht hinf hzs hn hby hone hf base v l y ad 1 hs hown hxe hc hlen hbase h
end
theorem grown_mod {w w' : World} {r : Option Nat} (h : w.grownBy w' r) : Mod r.toList w w':=(Mod.refl _ w).grown h (fun k hk => .inl (by simp [hk]))
theorem allStab_oneR {S : Nat} {ys : Array Value} {t : TypeId} {l : List (Value → World → Prop)} (h : AllStab Grow l) : AllStab Grow (oneR S ys t :: l):=⟨stab_oneR,h⟩
theorem grow_alloc (w : World) (o : Obj) : Grow w (w.alloc o):=(Below.refl _ _).alloc (Nat.le_refl _) o
section
variable {P : Program}
theorem run_load_flat (w : World) (ty : TypeId) (ad : Addr) (xs : List Value) (d : TypeDesc) (hu : P.underlying ty = some d) (hd : (match d with | .struct _ | .array _ _ => true | _ => false) = true)
  (hi : (P.info? ty).map (·.size) = some xs.length) (hc : ∀ j u,xs[j]? = some u → w.cell? (ad.add j) = some u) : (loadVar ty ad).run P w = .ok (.agg xs.toArray) w:=by
 have hl : (loadCells ad xs.length).run P w = .ok xs.toArray w:=run_loadCells_list (P:=P) w ad xs hc
 cases hq : P.info? ty with
 | none => simp [hq] at hi
 | some i =>
  have hs : i.size = xs.length:=by simpa [hq] using hi
  have hagg : (isAgg ty).run P w = .ok true w:=by
   unfold isAgg
   rw [Sem.run_bind,run_underlying hu w]
   cases d <;> simp_all
  simp [loadVar,Sem.run_bind,hagg,sizeOf,typeInfo,hq,hs,hl]
theorem run_op_load (ρ : Operand → Value) (o : Oper) (w : World) (ty : TypeId) (x : Operand) (ho : o.op = .load ty x) (ad : Addr) (hx : ρ x = .pointer (some ad)) (xs : List Value) (d : TypeDesc) (hu : P.underlying ty = some d)
  (hd : (match d with | .struct _ | .array _ _ => true | _ => false) = true) (hi : (P.info? ty).map (·.size) = some xs.length) (hc : ∀ j u,xs[j]? = some u → w.cell? (ad.add j) = some u) :
  (execOp ρ o).run P w = .ok (.value (.agg xs.toArray)) w:=by
 unfold execOp
 simp only [ho,hx,Instr.loadAt,Instr.sureAddr,Sem.run_bind,Sem.run_pure,Result.andThen_ok,run_load_flat w ty ad xs d hu hd hi hc]
theorem wpList_load_flat {ops : Array Oper} {rest : List Oper} {o : Oper} {a : Act} {w : World} {Q : Exit → Act → World → Prop} (hgd : o.guard = none) (ty : TypeId) (x : Operand) (ho : o.op = .load ty x)
  (ad : Addr) (hx : a.eval x = .pointer (some ad)) (xs : List Value) (d : TypeDesc) (hu : P.underlying ty = some d) (hd : (match d with | .struct _ | .array _ _ => true | _ => false) = true)
  (hi : (P.info? ty).map (·.size) = some xs.length) (hc : ∀ j u,xs[j]? = some u → w.cell? (ad.add j) = some u)
  (h : wpList P ops Q rest (a.put o.dst (.agg xs.toArray)) w) : wpList P ops Q (o :: rest) a w :=
 wpList_plain hgd fun K hK => by
  unfold Oper.wp
  rw [run_op_load a.eval o w ty x ho ad hx xs d hu hd hi hc,Oper.upon_value]
  exact hK _ _ h
end
section
variable {P : Program}
def OpGoalQ (P : Program) (dsts : List (Option Tmp)) (pre : List (List Nat)) (vs : List Value) (a : World) (a0 : Act) (i : Nat) (o : Oper) : Prop :=
 ∀ (σ : Nat → Value),PreF (vs.map isV) σ a (pre.getD i []) →
  if wantedL dsts (putF dsts σ (pre.getD i []) a0) o.guard = true then YieldsR P o (putF dsts σ (pre.getD i []) a0).eval a (PostS (vs.getD i undef) a)
  else PostS (vs.getD i undef) a undef a
theorem allFrom_imp {p q : Nat → Oper → Prop} : ∀ (l : List Oper) (k : Nat),(∀ j o,l[j]? = some o → p (k + j) o → q (k + j) o) → AllFrom p k l → AllFrom q k l
 | [],_,_,_ => trivial
 | o :: l,k,h,⟨h1,h2⟩ => ⟨h 0 o rfl h1,allFrom_imp l (k + 1) (fun j o' hj hp => by
   have:=h (j + 1) o' (by simpa using hj)
   rw [show k + (j + 1) = k + 1 + j by omega] at this
   exact this hp) h2⟩
theorem wp_planR {Q : Exit → Act → World → Prop} {id : Nat} {l : List Oper} {a0 : Act} {w0 : World} (m : Nat) (fl : List Nat) (dsts : List (Option Tmp)) (pre : List (List Nat)) (is : List Nat)
  (hm : P.follows .mixedOrders = true) (hd : l.map (·.dst) = dsts) (hc : planOk l.toArray pre = true) (hT : tailOkB l pre m fl = true) (hmn : m ≤ l.length) (his : List.range m = is)
  (h : ExL m fun vs => vs.length = m ∧ AllFrom (OpGoalQ P dsts pre vs w0.drew a0) 0 (l.take m) ∧
   (∀ (σ : Nat → Value),PreF (vs.map isV) σ w0.drew is → wpList P l.toArray (OnlyN Q) (l.drop m) (putF dsts σ is a0) w0.drew)) :
  (Code.region id l.toArray true).wp P Q a0 w0:=by
 obtain ⟨vs,hl,h1,h2⟩:=h.out
 have hgd : ∀ i,i < m → (vs.map isV).getD i (fun _ _ => True) = isV (vs.getD i undef):=fun i hi => by
  rw [List.getD_eq_getElem?_getD,List.getElem?_map,List.getD_eq_getElem?_getD]
  have : i < vs.length:=by omega
  rw [List.getElem?_eq_getElem this];rfl
 refine wp_planF m fl dsts pre is 0 (fun _ => vs.map isV) (fun _ _ V => V = w0.drew) hm hd hc hT hmn rfl his ?_
 show _ ∧ _
 refine ⟨allFrom_imp _ _ (fun j o hj hp => ?_) h1,?_⟩
 ·have hjm : j < m:=by
   rcases Nat.lt_or_ge j m with h | h
   ·exact h
   ·rw [List.getElem?_eq_none (by rw [List.length_take];omega)] at hj;cases hj
  intro L σ w hL1 hL2 hL3 hI hpre
  subst hI
  have:=hp σ hpre
  simp only [Nat.zero_add] at this ⊢
  split
  ·next hw =>
   rw [if_pos hw] at this
   refine this.mono ?_
   rintro v w' ⟨hv,hw'⟩
   subst hw'
   exact ⟨by rw [hgd j hjm];exact hv,rfl,KeepAll.refl⟩
  ·next hw =>
   rw [if_neg hw] at this
   exact ⟨by rw [hgd j hjm];exact this.1,rfl,KeepAll.refl⟩
 ·intro L σ w hL hI hpre
  subst hI
  exact h2 σ hpre
theorem yr_load {o : Oper} {ρ : Operand → Value} {w : World} {J : Value → World → Prop} (ty : TypeId) (x : Operand) (ho : o.op = .load ty x) (ad : Addr) (hx : ρ x = .pointer (some ad)) (xs : List Value) (d : TypeDesc)
  (hu : P.underlying ty = some d) (hd : (match d with | .struct _ | .array _ _ => true | _ => false) = true) (hi : (P.info? ty).map (·.size) = some xs.length) (hc : ∀ j u,xs[j]? = some u → w.cell? (ad.add j) = some u)
  (h : J (.agg xs.toArray) w) : YieldsR P o ρ w J:=by
 unfold YieldsR
 rw [run_op_load ρ o w ty x ho ad hx xs d hu hd hi hc]
 exact h
end
def setL : List Value → Nat → List Value → List Value
 | xs,_,[] => xs
 | xs,i,v :: vs => setL (xs.set i v) (i + 1) vs
theorem setL_all : ∀ (vs ys : List Value),vs.length = ys.length → setL ys 0 vs = vs:=by
 have key : ∀ (vs ys zs : List Value),vs.length = zs.length → setL (ys ++ zs) ys.length vs = ys ++ vs:=by
  intro vs
  induction vs with
  | nil => intro ys zs h;have : zs = []:=List.eq_nil_of_length_eq_zero (by simpa using h.symm);subst this;rfl
  | cons v vs ih =>
   intro ys zs h
   match zs,h with
   | z :: zs,h =>
    rw [setL,List.set_append_right _ _ (Nat.le_refl _),Nat.sub_self,List.set_cons_zero]
    have:=ih (ys ++ [v]) zs (by simpa using h)
    simpa using this
 intro vs ys h
 simpa using key vs [] ys h
theorem mod_setCells {F : List Nat} {a : World} {g : Nat} (hg : g ∈ F ∨ a.heap.size ≤ g) : ∀ (vs : List Value) (i : Nat) (w : World),Mod F a w → Mod F a (w.setCells g i vs)
 | [],_,_,h => h
 | v :: vs,i,_,h => mod_setCells hg vs (i + 1) _ (h.setCell hg v)
theorem row_piece {α : Type} {enc : α → List Value} {n : Nat} (hf : ∀ x,(enc x).length = n) {w : World} {B e cap g : Nat} {l : List α} (h : w.ownsRow B e n (.slice (some ⟨g,0,none⟩) l.length cap) l.length (l.flatMap enc)) {k : Nat} (hk : k < l.length) (o : Nat) (xs : List Value) (ho : ∀ j u,xs[j]? = some u → (enc l[k])[o + j]? = some u) :
  ∀ j u,xs[j]? = some u → w.cell? ((⟨g,k * n + o,none⟩ : Addr).add j) = some u:=by
 intro j u hu
 obtain ⟨g',cap',he,hc⟩:=row_rec hf h hk
 simp only [Value.slice.injEq,Option.some.injEq,Addr.mk.injEq,and_true,true_and] at he
 obtain ⟨rfl,rfl⟩:=he
 have:=hc (o + j) u (ho j u hu)
 have e : (⟨g,k * n + o,none⟩ : Addr).add j = ⟨g,k * n + (o + j),none⟩:=by
  unfold Addr.add
  split
  ·next h0 => simp only [Addr.mk.injEq,true_and,and_true];omega
  ·simp only [Addr.mk.injEq,true_and,and_true];omega
 rw [e];exact this
section
variable {P : Program}
theorem keepAll_isV {σ : Nat → Value} {L : Nat → Bool} {w w' : World} : ∀ (vs : List Value) (k : Nat),KeepAll σ L w w' k (vs.map isV)
 | [],_ => trivial
 | _ :: vs,k => keep_isV (keepAll_isV vs (k + 1))
def OpGoalA (P : Program) (dsts : List (Option Tmp)) (pre : List (List Nat)) (vs : List Value) (a b : World) (n : Nat) (a0 : Act) (i : Nat) (o : Oper) : Prop :=
 ∀ (σ : Nat → Value),PreF (vs.map isV) σ a (pre.getD i []) →
  if i = n then (wantedL dsts (putF dsts σ (pre.getD i []) a0) o.guard = true ∧ YieldsR P o (putF dsts σ (pre.getD i []) a0).eval a (PostS (vs.getD i undef) b))
  else if wantedL dsts (putF dsts σ (pre.getD i []) a0) o.guard = true then YieldsR P o (putF dsts σ (pre.getD i []) a0).eval a (PostS (vs.getD i undef) a) ∧ YieldsR P o (putF dsts σ (pre.getD i []) a0).eval b (PostS (vs.getD i undef) b)
  else vs.getD i undef = undef
theorem wp_planA {Q : Exit → Act → World → Prop} {id : Nat} {l : List Oper} {a0 : Act} {w0 : World} (b : World) (n m : Nat) (fl : List Nat) (dsts : List (Option Tmp)) (pre : List (List Nat)) (is : List Nat)
  (hm : P.follows .mixedOrders = true) (hd : l.map (·.dst) = dsts) (hc : planOk l.toArray pre = true) (hT : tailOkB l pre m fl = true) (hmn : m ≤ l.length) (hn : n < m) (his : List.range m = is)
  (h : ExL m fun vs => vs.length = m ∧ AllFrom (OpGoalA P dsts pre vs w0.drew b n a0) 0 (l.take m) ∧
   (∀ (σ : Nat → Value),PreF (vs.map isV) σ w0.drew is → wpList P l.toArray (OnlyN Q) (l.drop m) (putF dsts σ is a0) b)) :
  (Code.region id l.toArray true).wp P Q a0 w0:=by
 obtain ⟨vs,hl,h1,h2⟩:=h.out
 have hgd : ∀ i,i < m → (vs.map isV).getD i (fun _ _ => True) = isV (vs.getD i undef):=fun i hi => by
  rw [List.getD_eq_getElem?_getD,List.getElem?_map,List.getD_eq_getElem?_getD]
  have : i < vs.length:=by omega
  rw [List.getElem?_eq_getElem this];rfl
 refine wp_planF m fl dsts pre is 0 (fun _ => vs.map isV) (fun L _ V => V = if L n = true then b else w0.drew) hm hd hc hT hmn rfl his ?_
 show _ ∧ _
 refine ⟨allFrom_imp _ _ (fun j o hj hp => ?_) h1,?_⟩
 ·have hjm : j < m:=by
   rcases Nat.lt_or_ge j m with h | h
   ·exact h
   ·rw [List.getElem?_eq_none (by rw [List.length_take];omega)] at hj;cases hj
  intro L σ w hL1 hL2 hL3 hI hpre
  have:=hp σ (preF_isV hpre)
  simp only [Nat.zero_add] at this hL1 ⊢
  by_cases hjn : j = n
  ·subst hjn
   rw [if_pos rfl] at this
   rw [hL1] at hI
   simp only [Bool.false_eq_true,if_false] at hI
   subst hI
   rw [if_pos this.1]
   refine this.2.mono ?_
   rintro v w' ⟨hv,hw'⟩
   subst hw'
   exact ⟨by rw [hgd j hjm];exact hv,by simp [upd],keepAll_isV _ _⟩
  ·rw [if_neg hjn] at this
   have hu : upd L j n = L n:=by unfold upd;simp [Ne.symm hjn]
   split
   ·next hw =>
    rw [if_pos hw] at this
    by_cases hLn : L n = true
    ·rw [if_pos hLn] at hI;subst hI
     refine this.2.mono ?_
     rintro v w' ⟨hv,hw'⟩
     subst hw'
     exact ⟨by rw [hgd j hjm];exact hv,by rw [hu,if_pos hLn],keepAll_isV _ _⟩
    ·rw [if_neg hLn] at hI;subst hI
     refine this.1.mono ?_
     rintro v w' ⟨hv,hw'⟩
     subst hw'
     exact ⟨by rw [hgd j hjm];exact hv,by rw [hu,if_neg hLn],keepAll_isV _ _⟩
   ·next hw =>
    rw [if_neg hw] at this
    exact ⟨by rw [hgd j hjm,this];rfl,by rw [hu];exact hI,keepAll_isV _ _⟩
 ·intro L σ w hL hI hpre
  have : L n = true:=hL n (by rw [← his];simpa using hn)
  rw [if_pos this] at hI
  subst hI
  exact h2 σ (preF_isV hpre)
end
def notDefer (o : Oper) : Bool:=match o.op with | .defer _ => false | _ => true
theorem notDefer_ne {o : Oper} (h : notDefer o = true) : ∀ c,o.op ≠ .defer c:=fun c e => by unfold notDefer at h;rw [e] at h;cases h
theorem letsOut_onlyN {Q : Exit → Act → World → Prop} : ¬ LetsOut (OnlyN Q):=fun ⟨_,_,h,_⟩ => by cases h
section
variable {P : Program} {r n : Nat} {ops : Array Oper} {Q Q' : Exit → Act → World → Prop}
theorem oper_round {o : Oper} {a : Act} {w : World} {K K' : Act → World → Prop} (hnd : notDefer o = true) (hK : ∀ a w,K a w → K' a w) (h : o.wp P a w K (OnlyN Q)) : o.wpIn (Fence.wide.inRound r) n P a w K' Q':=by
 refine ⟨fun _ _ => trivial,?_⟩
 unfold Oper.wp at h
 rw [Fence.inRound_round,Oper.semAt_some r _ _ (notDefer_ne hnd)]
 generalize (execOp a.eval o).run P w = x at *
 cases x with
 | ok y w' =>
  cases y with
  | value v => exact hK _ _ h
  | skip => exact hK _ _ h
  | «defer» d => exact hK _ _ h
  | enter f args =>
   refine ⟨fun e => (by cases e),CallsIn.inRound r (callsIn_wide.2 (Calls.mono h fun e w'' he => ?_))⟩
   cases e with
   | returned v => exact hK _ _ he
   | panicked c => cases he.1
   | outgrown => exact (letsOut_onlyN he).elim
  | row row args =>
   refine ⟨fun e => (by cases e),fun c cs _ => ?_⟩
   obtain ⟨v,w2,h1,h2⟩:=h c cs
   exact ⟨v,w2,hK _ _ h1,stepsIn_wide.2 h2⟩
  | _ => exact h.elim
 | halt y w' =>
  cases y with
  | panic v => cases h.1
  | _ => exact h.elim
theorem list_round : ∀ {l : List Oper} {a : Act} {w : World},l.all notDefer = true → wpList P ops (OnlyN Q) l a w → wpListIn (Fence.wide.inRound r) n P ops Q l a w
 | [],a,w,_,h => h.2
 | o :: l,a,w,hnd,h => by
  rw [List.all_cons,Bool.and_eq_true] at hnd
  unfold wpList at h
  unfold wpListIn
  split at h
  ·rename_i hw
   rw [if_pos hw]
   rcases h with h | h
   ·exact oper_round hnd.1 (fun a w => list_round hnd.2) h
   ·exact (letsOut_onlyN h.2).elim
  ·rename_i hw
   rw [if_neg hw]
   exact ⟨fun _ _ => trivial,list_round hnd.2 h⟩
theorem any_round (hnd : ops.toList.all notDefer = true) : ∀ (fuel : Nat) (listed : Array Bool) (a : Act) (w : World),wpAny P .any ops (OnlyN Q) fuel listed a w → wpAnyIn (Fence.wide.inRound r) n P .any ops Q fuel listed a w
 | 0,listed,a,w,h => ⟨h.1,h.2.2⟩
 | fuel + 1,listed,a,w,h => by
  refine ⟨fun e => (h.1 e).2,fun i hi => ?_⟩
  have h2:=h.2 i hi
  unfold wpOp at h2
  unfold wpOpIn
  cases ho : ops[i]? with
  | none => rw [ho] at h2;exact any_round hnd fuel _ _ _ h2
  | some o =>
   rw [ho] at h2
   simp only at h2 ⊢
   have hmem : o ∈ ops.toList:=by
    obtain ⟨hlt,e⟩:=Array.getElem?_eq_some_iff.1 ho
    rw [← e];exact Array.getElem_mem_toList hlt
   split at h2
   ·rename_i hw
    rw [if_pos hw]
    rcases h2 with h3 | h3
    ·exact oper_round (List.all_eq_true.1 hnd o hmem) (fun a w => any_round hnd fuel _ a w) h3
    ·exact (letsOut_onlyN h3.2).elim
   ·rename_i hw
    rw [if_neg hw]
    exact ⟨fun _ _ => trivial,any_round hnd fuel _ _ _ h2⟩
theorem oper_monoQ {o : Oper} {a : Act} {w : World} {K K' : Act → World → Prop} (hK : ∀ a w,K a w → K' a w) (h : o.wp P a w K (OnlyN Q)) : o.wp P a w K' (OnlyN (OnlyN Q)):=by
 unfold Oper.wp at *
 generalize (execOp a.eval o).run P w = x at *
 cases x with
 | ok y w' =>
  cases y with
  | value v => exact hK _ _ h
  | skip => exact hK _ _ h
  | «defer» d => exact hK _ _ h
  | enter f args =>
   refine Calls.mono h fun e w'' he => ?_
   cases e with
   | returned v => exact hK _ _ he
   | panicked c => cases he.1
   | outgrown => exact (letsOut_onlyN he).elim
  | row row args => exact Rows.mono h (fun _ _ he => hK _ _ he)
  | _ => exact h.elim
 | halt y w' =>
  cases y with
  | panic v => cases h.1
  | _ => exact h.elim
theorem list_monoQ : ∀ {l : List Oper} {a : Act} {w : World},wpList P ops (OnlyN Q) l a w → wpList P ops (OnlyN (OnlyN Q)) l a w
 | [],a,w,h => ⟨rfl,h⟩
 | o :: l,a,w,h => by
  unfold wpList at h ⊢
  split at h
  ·rename_i hw
   rw [if_pos hw]
   rcases h with h | h
   ·exact .inl (oper_monoQ (fun a w => list_monoQ) h)
   ·exact (letsOut_onlyN h.2).elim
  ·rename_i hw
   rw [if_neg hw]
   exact list_monoQ h
end
theorem wpAny_planFI {P : Program} {Q : Exit → Act → World → Prop} {l : List Oper} {a0 : Act} {w0 : World} (m : Nat) (fl : List Nat) (dsts : List (Option Tmp)) (pre : List (List Nat)) (is : List Nat) (n : Nat) (VP : List Value → List (Value → World → Prop)) (I : (Nat → Bool) → (Nat → Value) → World → Prop)
  (hm : P.follows .mixedOrders = true) (hd : l.map (·.dst) = dsts) (hc : planOk l.toArray pre = true) (hT : tailOkB l pre m fl = true) (hmn : m ≤ l.length)
  (h0 : I (fun _ => false) (fun _ => undef) w0.drew) (his : List.range m = is)
  (h : ExL n fun vs => AllFrom (OpGoalV P dsts pre (VP vs) I a0) 0 (l.take m) ∧
   (∀ (L : Nat → Bool) (σ : Nat → Value) w,(∀ i ∈ is,L i = true) → I L σ w → PreF (VP vs) σ w is → wpList P l.toArray (OnlyN Q) (l.drop m) (putF dsts σ is a0) w)) :
  wpAny P .any l.toArray Q l.toArray.size (Array.replicate l.toArray.size false) a0 w0.drew:=by
 obtain ⟨vs,hops,hend⟩:=h.out
 generalize VP vs = VP at hops hend
 refine wpAny_planF (a0:=a0) (I:=fun L σ w => I L σ w ∧ ∀ i,i < m → L i = true → VP.getD i (fun _ _ => True) (σ i) w) m fl (tailOk_of hT) hc (fun i o him ho => ?_) (fun L σ a w hL ha hI => ?_) (by simpa using hmn) _ _ (fun _ => undef) a0 _ (by simp) (by simp) (fun i hi h => ?_) ?_ ?_ ?_
 ·have h:=AllFrom.get (l.take m) 0 hops i o (by rw [List.getElem?_take,if_pos him];simpa using ho)
  rw [Nat.zero_add] at h
  have hi : i < l.length:=by
   have:=(Array.getElem?_eq_some_iff.1 ho).1
   simpa using this
  have hlt : ∀ j ∈ pre.getD i [],j < l.length:=fun j hj => by
   have:=planOk_lt hc (by simpa using hi) hj
   omega
  have hlt2 : ∀ j ∈ pre.getD i [],j < m:=fun j hj => by
   have:=planOk_lt hc (by simpa using hi) hj
   omega
  intro L σ w h1 h2 h3 ⟨h4,h4'⟩
  have h5:=h L σ w h1 h2 h3 h4 (preF_of fun j hj => h4' j (hlt2 j hj) (h2 j hj))
  have hw : Region.wanted o (yielded l.toArray (seesOf l.toArray σ pre a0 i).tmps) = wantedL dsts (putF dsts σ (pre.getD i []) a0) o.guard:=by
   unfold seesOf
   rw [putAll_eq_putF hd _ hlt,wanted_eq_wantedL hd]
  have hs : (seesOf l.toArray σ pre a0 i).eval = (putF dsts σ (pre.getD i []) a0).eval:=by
   unfold seesOf
   rw [putAll_eq_putF hd _ hlt]
  rw [hw,hs]
  have key : ∀ v w',PostV (VP.getD i (fun _ _ => True)) (fun v => I (upd L i) (updv σ i v)) (fun w' => KeepAll σ L w w' 0 VP) v w' → I (upd L i) (updv σ i v) w' ∧ ∀ j,j < m → upd L i j = true → VP.getD j (fun _ _ => True) (updv σ i v j) w':=by
   intro v w' ⟨k1,k2,k3⟩
   refine ⟨k2,fun j hj hu => ?_⟩
   by_cases e : j = i
   ·subst e;rw [updv,if_pos rfl];exact k1
   ·rw [updv,if_neg e]
    have : L j = true:=by simpa [upd,e] using hu
    have hg:=KeepAll.get k3 j (by rw [Nat.zero_add];exact this) (by rw [Nat.zero_add];exact h4' j hj this)
    rw [Nat.zero_add] at hg
    exact hg
  split at h5
  ·rename_i hy
   rw [if_pos hy]
   exact h5.mono key
  ·rename_i hy
   rw [if_neg hy]
   exact key _ _ h5
 ·have hms : ∀ j ∈ List.range m,j < l.toArray.size:=by
   intro j hj
   have h1 : j < m:=by simpa using hj
   have h2 : l.toArray.size = l.length:=by simp
   omega
  have h1:=atPlan_putAll (vals:=σ) hc (List.range m) a0 (fun _ => false) (AtPlan.start l.toArray σ a0) hms
  have he : a = putAll l.toArray σ (List.range m) a0:=by
   refine AtPlan.same (L:=fun j => decide (j < m)) ⟨ha.defers,ha.size,fun i o t h1 h2 h3 h4 => ha.new i o t h1 h2 (by rw [hL];exact h3) h4,fun t ht => ha.old t fun i o h1 h2 => by rw [hL];exact ht i o h1 h2⟩ ?_
   simpa using h1
  rw [he,putAll_eq_putF hd _ (fun i hi => by have:=hms i hi;simpa using this)]
  subst his
  exact hend L σ w (fun i hi => by rw [hL];simpa using hi) hI.1 (preF_of fun j hj => hI.2 j (by simpa using hj) (by rw [hL];simpa using hj))
 ·simp [Array.getD] at h
 ·refine ⟨rfl,rfl,fun i o t h1 _ h3 _ => ?_,fun t _ => rfl⟩
  have hi:=(Array.getElem?_eq_some_iff.1 h1).1
  simp [Array.getD,hi] at h3
 ·have : (fun j => (Array.replicate l.toArray.size false).getD j false) = fun _ => false:=by
   funext j
   simp [Array.getD]
  rw [this]
  exact ⟨h0,fun i _ h => by cases h⟩
 ·intro i _
  simp [Array.getD]
theorem wp_planFR {P : Program} {Q : Exit → Act → World → Prop} {id r k : Nat} {l : List Oper} {a0 : Act} {w0 : World} (m : Nat) (fl : List Nat) (dsts : List (Option Tmp)) (pre : List (List Nat)) (is : List Nat) (n : Nat) (VP : List Value → List (Value → World → Prop)) (I : (Nat → Bool) → (Nat → Value) → World → Prop)
  (hnd : l.all notDefer = true) (hm : P.follows .mixedOrders = true) (hd : l.map (·.dst) = dsts) (hc : planOk l.toArray pre = true) (hT : tailOkB l pre m fl = true) (hmn : m ≤ l.length)
  (h0 : I (fun _ => false) (fun _ => undef) w0.drew) (his : List.range m = is)
  (h : ExL n fun vs => AllFrom (OpGoalV P dsts pre (VP vs) I a0) 0 (l.take m) ∧
   (∀ (L : Nat → Bool) (σ : Nat → Value) w,(∀ i ∈ is,L i = true) → I L σ w → PreF (VP vs) σ w is → wpList P l.toArray (OnlyN Q) (l.drop m) (putF dsts σ is a0) w)) :
  (Code.region id l.toArray true).wpIn (Fence.wide.inRound r) k P Q a0 w0:=by
 refine wpIn_region_any hm (any_round (by simpa using hnd) _ _ _ _ ?_)
 obtain ⟨vs,hops,hend⟩:=h.out
 exact wpAny_planFI (Q:=OnlyN Q) m fl dsts pre is 0 (fun _ => VP vs) I hm hd hc hT hmn h0 his ⟨hops,fun L σ w h1 h2 h3 => list_monoQ (hend L σ w h1 h2 h3)⟩
section
variable {P : Program}
theorem wp_planRR {Q : Exit → Act → World → Prop} {id r n : Nat} {l : List Oper} {a0 : Act} {w0 : World} (m : Nat) (fl : List Nat) (dsts : List (Option Tmp)) (pre : List (List Nat)) (is : List Nat)
  (hnd : l.all notDefer = true) (hm : P.follows .mixedOrders = true) (hd : l.map (·.dst) = dsts) (hc : planOk l.toArray pre = true) (hT : tailOkB l pre m fl = true) (hmn : m ≤ l.length) (his : List.range m = is)
  (h : ExL m fun vs => vs.length = m ∧ AllFrom (OpGoalQ P dsts pre vs w0.drew a0) 0 (l.take m) ∧
   (∀ (σ : Nat → Value),PreF (vs.map isV) σ w0.drew is → wpList P l.toArray (OnlyN Q) (l.drop m) (putF dsts σ is a0) w0.drew)) :
  (Code.region id l.toArray true).wpIn (Fence.wide.inRound r) n P Q a0 w0:=by
 obtain ⟨vs,hl,h1,h2⟩:=h.out
 have hgd : ∀ i,i < m → (vs.map isV).getD i (fun _ _ => True) = isV (vs.getD i undef):=fun i hi => by
  rw [List.getD_eq_getElem?_getD,List.getElem?_map,List.getD_eq_getElem?_getD]
  have : i < vs.length:=by omega
  rw [List.getElem?_eq_getElem this];rfl
 refine wp_planFR m fl dsts pre is 0 (fun _ => vs.map isV) (fun _ _ V => V = w0.drew) hnd hm hd hc hT hmn rfl his ?_
 show _ ∧ _
 refine ⟨allFrom_imp _ _ (fun j o hj hp => ?_) h1,?_⟩
 ·have hjm : j < m:=by
   rcases Nat.lt_or_ge j m with h | h
   ·exact h
   ·rw [List.getElem?_eq_none (by rw [List.length_take];omega)] at hj;cases hj
  intro L σ w hL1 hL2 hL3 hI hpre
  subst hI
  have:=hp σ hpre
  simp only [Nat.zero_add] at this ⊢
  split
  ·next hw =>
   rw [if_pos hw] at this
   refine this.mono ?_
   rintro v w' ⟨hv,hw'⟩
   subst hw'
   exact ⟨by rw [hgd j hjm];exact hv,rfl,KeepAll.refl⟩
  ·next hw =>
   rw [if_neg hw] at this
   exact ⟨by rw [hgd j hjm];exact this.1,rfl,KeepAll.refl⟩
 ·intro L σ w hL hI hpre
  subst hI
  exact h2 σ hpre
theorem wp_planAR {Q : Exit → Act → World → Prop} {id r n0 : Nat} {l : List Oper} {a0 : Act} {w0 : World} (b : World) (n m : Nat) (fl : List Nat) (dsts : List (Option Tmp)) (pre : List (List Nat)) (is : List Nat)
  (hnd : l.all notDefer = true) (hm : P.follows .mixedOrders = true) (hd : l.map (·.dst) = dsts) (hc : planOk l.toArray pre = true) (hT : tailOkB l pre m fl = true) (hmn : m ≤ l.length) (hn : n < m) (his : List.range m = is)
  (h : ExL m fun vs => vs.length = m ∧ AllFrom (OpGoalA P dsts pre vs w0.drew b n a0) 0 (l.take m) ∧
   (∀ (σ : Nat → Value),PreF (vs.map isV) σ w0.drew is → wpList P l.toArray (OnlyN Q) (l.drop m) (putF dsts σ is a0) b)) :
  (Code.region id l.toArray true).wpIn (Fence.wide.inRound r) n0 P Q a0 w0:=by
 obtain ⟨vs,hl,h1,h2⟩:=h.out
 have hgd : ∀ i,i < m → (vs.map isV).getD i (fun _ _ => True) = isV (vs.getD i undef):=fun i hi => by
  rw [List.getD_eq_getElem?_getD,List.getElem?_map,List.getD_eq_getElem?_getD]
  have : i < vs.length:=by omega
  rw [List.getElem?_eq_getElem this];rfl
 refine wp_planFR m fl dsts pre is 0 (fun _ => vs.map isV) (fun L _ V => V = if L n = true then b else w0.drew) hnd hm hd hc hT hmn rfl his ?_
 show _ ∧ _
 refine ⟨allFrom_imp _ _ (fun j o hj hp => ?_) h1,?_⟩
 ·have hjm : j < m:=by
   rcases Nat.lt_or_ge j m with h | h
   ·exact h
   ·rw [List.getElem?_eq_none (by rw [List.length_take];omega)] at hj;cases hj
  intro L σ w hL1 hL2 hL3 hI hpre
  have:=hp σ (preF_isV hpre)
  simp only [Nat.zero_add] at this hL1 ⊢
  by_cases hjn : j = n
  ·subst hjn
   rw [if_pos rfl] at this
   rw [hL1] at hI
   simp only [Bool.false_eq_true,if_false] at hI
   subst hI
   rw [if_pos this.1]
   refine this.2.mono ?_
   rintro v w' ⟨hv,hw'⟩
   subst hw'
   exact ⟨by rw [hgd j hjm];exact hv,by simp [upd],keepAll_isV _ _⟩
  ·rw [if_neg hjn] at this
   have hu : upd L j n = L n:=by unfold upd;simp [Ne.symm hjn]
   split
   ·next hw =>
    rw [if_pos hw] at this
    by_cases hLn : L n = true
    ·rw [if_pos hLn] at hI;subst hI
     refine this.2.mono ?_
     rintro v w' ⟨hv,hw'⟩
     subst hw'
     exact ⟨by rw [hgd j hjm];exact hv,by rw [hu,if_pos hLn],keepAll_isV _ _⟩
    ·rw [if_neg hLn] at hI;subst hI
     refine this.1.mono ?_
     rintro v w' ⟨hv,hw'⟩
     subst hw'
     exact ⟨by rw [hgd j hjm];exact hv,by rw [hu,if_neg hLn],keepAll_isV _ _⟩
   ·next hw =>
    rw [if_neg hw] at this
    exact ⟨by rw [hgd j hjm,this];rfl,by rw [hu];exact hI,keepAll_isV _ _⟩
 ·intro L σ w hL hI hpre
  have : L n = true:=hL n (by rw [← his];simpa using hn)
  rw [if_pos this] at hI
  subst hI
  exact h2 σ (preF_isV hpre)
end
end Go.Proofs.YtoheblfpjinmnaaGreatDoor
namespace Go.Proofs.YtoheblfpjinmnaaGreatDoor
open Go Go.RowKit Go.Shelf
attribute [local go_sem] AllFrom.cons_eq AllFrom.nil_eq putF_nil putF_cons wantedL_none wantedL_some OpGoalT OpGoalV OpGoalQ OpGoalA YieldsR preF_nil preF_cons
attribute [local go_sem] Oper.semAt_some
set_option maxRecDepth 20000 in
theorem lines_any (t : Bs) (w : World) : Calls Tryz.prog 22 #[str t] w fun e w' => e = .returned (.func (.func 43) #[] #[.pointer (some ⟨w.heap.size,0,none⟩)]) ∧ w' = w.alloc (.cells #[str t] 9):=by
 unfold str
 go_enter Tryz.func22,Tryz.ntmps22
 go_wp2
 go_ret
 exact ⟨rfl,rfl⟩
def strLen (w : World) (c : Nat) : Nat:=match w.cell? ⟨c,0,none⟩ with | some (.string s) => s.size | _ => 0
theorem strLen_eq {w : World} {c : Nat} {u : Bs} (h : w.heap[c]? = some (.cells #[str u] 9 (0,0))) : strLen w c = u.length:=by
 have e:=blk_cell h 0
 simp only [eA,eZ] at e
 unfold strLen
 rw [e]
 exact str_size u
theorem str_take (u : Bs) (m : Nat) : (⟨u.toArray⟩ : ByteArray).extract 0 m = ⟨(u.take m).toArray⟩:=by
 apply ByteArray.ext
 simp [ByteArray.data_extract]
theorem str_drop (u : Bs) (m : Nat) : (⟨u.toArray⟩ : ByteArray).extract m u.length = ⟨(u.drop m).toArray⟩:=by
 apply ByteArray.ext
 simp only [ByteArray.data_extract,List.extract_toArray,List.extract_eq_take_drop]
 rw [List.take_of_length_le (by rw [List.length_drop];omega)]
set_option maxRecDepth 20000 in
set_option maxHeartbeats 4000000 in
theorem lines_seq (n : Nat) (c : Nat) (t : Bs) (ht : t.length ≤ 4611686018427387904) : SeqC Fence.wide n Tryz.prog 43 #[.pointer (some ⟨c,0,none⟩)] str c (fun o => ∃ u : Bs,o = .cells #[str u] 9 (0,0)) (.cells #[str t] 9 (0,0)) (lns t):=by
 intro l J W hlt hlc hc hJ hY h0
 refine callsIn_of_wp Tryz.func43 rfl trivial (wpIn_wide.2 ?_) rfl
 simp only [Tryz.ntmps43,List.size_toArray,List.length_cons,List.length_nil,Nat.reduceAdd,Nat.reduceSub,Array.replicate_succ,Array.replicate_zero,List.push_toArray,List.append_toArray,List.nil_append,List.cons_append]
 obtain ⟨Hlt,Hlc,Hc,HJ,HY,H0⟩:=hid6 hlt hlc hc hJ hY h0
 clear hlt hlc hc hJ hY h0
 go_wp2_with fail
 go_loopw [3,4] (fun v3 v4 wr => ∃ (pre : List Bs) (u : Bs),lns t = pre ++ lns u ∧ J pre wr ∧ wr.heap[c]? = some (.cells #[str u] 9 (0,0)) ∧ u.length ≤ t.length) (fun _ _ wr => strLen wr c)
 case atStart => exact ⟨[],t,rfl,H0.out,Hc.out,Nat.le_refl _⟩
 case round =>
  obtain ⟨pre,u,hpre,hJp,hcu,hul⟩:=hrel
  have hmeas:=strLen_eq hcu
  have e0:=blk_cell hcu 0
  simp only [eA,eZ] at e0
  have el:=blk_lt hcu
  have hfz:=blk_free hcu 0
  by_cases hu : u = []
  ·subst hu
   rw [lns_nil,List.append_nil] at hpre
   have hfin : (∃ v : Value,Ending.returned (.tuple #[]) = .returned v) ∧ J (lns t) wr:=⟨⟨_,rfl⟩,by rw [hpre];exact hJp⟩
   unfold str at e0
   have Hfin:=Lib.hid hfin
   clear hfin
   clear hpre hJp hmeas hcu
   go_wp2
   refine bodyPost_end (v:=.tuple #[]) ?_ rfl Hfin.out
   unfold results;try go_simp
  ·have hpos : 0 < u.length:=List.length_pos_iff.2 hu
   have HI:=Lib.hid (indexByte_any u 10)
   unfold str at e0
   have hge:=Lib.indexByte_ge u 10
   by_cases hi : 0 ≤ Lib.indexByte u 10
   ·obtain ⟨m,hm⟩ : ∃ m : Nat,Lib.indexByte u 10 = (m : Int):=⟨(Lib.indexByte u 10).toNat,by omega⟩
    have hml : m < u.length:=by
     have h1:=(Lib.indexByte_some hm).1
     exact (List.getElem?_eq_some_iff.1 h1).1
    have hcut:=lns_cut hm hu
    rw [hm] at HI
    obtain ⟨W1,hW1⟩ : ∃ W1,wr.drew.setCell ⟨c,0,none⟩ (.string ⟨(u.drop (m + 1)).toArray⟩) = W1:=⟨_,rfl⟩
    have hmod : Mod [c] wr W1:=by rw [← hW1];exact (Mod.refl [c] wr).drew.setCell (.inl (by simp)) _
    have hc1 : W1.heap[c]? = some (.cells #[str (u.drop (m + 1))] 9 (0,0)):=by rw [← hW1];exact blk_set (blk_drew hcu) 0 _
    have hJ1:=HJ.out _ _ _ hJp hmod
    obtain ⟨fn,tmps,assign,body,hy,hR⟩:=HY.out pre (u.take (m + 1)) (lns (u.drop (m + 1))) W1 (by rw [hpre,hcut]) hJ1 ⟨_,hc1,_,rfl⟩
    have hpre2 : lns t = (pre ++ [u.take (m + 1)]) ++ lns (u.drop (m + 1)):=by rw [hpre,hcut];simp
    unfold str at hy
    have hwr : IntKind.i64.wrap ((m : Int) + 1) = (m : Int) + 1:=IntWalk.i64_in _ (by omega)
    have hmn : (m : Int) + 1 ≤ (u.length : Int):=by omega
    have hst:=str_take u (m + 1)
    have hsd:=str_drop u (m + 1)
    obtain ⟨HR,Hpre,HJp,Hcu,Hmeas,Hmod,Hc1,HJ1,Hpre2,Hcut,Hy⟩:=hid11 hR hpre hJp hcu hmeas hmod hc1 hJ1 hpre2 hcut hy
    clear hR hpre hJp hcu hmeas hmod hc1 hJ1 hpre2 hcut hy
    clear hge hu hm hi
    go_wp2_with fail
    refine (HI.out _).mono ?_
    rintro e w2 ⟨rfl,rfl⟩
    go_wp2_with fail
    refine wp_planS [some 12,some 13,some 14,some 15,some 16,some 17,some 18,some 19,some 3,none] [[],[],[1],[0,1,2],[],[],[5],[4,5,6],[0,1,2,3],[0,1,2,3,4,5,6,7,8]] [0,1,2,3,4,5,6,7,8,9] 10 9 mixed rfl (by kernel_rfl) (by decide) rfl ?_ (by decide)
    iterate 11 apply Exists.intro
    refine ⟨rfl,?_,?_⟩
    ·simp only [AllFrom.cons_eq,AllFrom.nil_eq,OpGoalS]
     refine ⟨?_,?_,?_,?_,?_,?_,?_,?_,?_,?_,trivial⟩
     all_goals (intro σ hp;(try simp only [gZ,gS,mC,mN,preF_cons,preF_nil,isV,and_true] at hp);(first | (have hq : True:=hp;clear hq hp) | skip))
     all_goals (go_simp;exact ⟨rfl,rfl⟩)
    intro σ hp
    simp only [gZ,gS,mC,mN,preF_cons,preF_nil,isV,and_true] at hp
    go_simp
    clear hp
    clear hW1 hst hsd hwr hmn e0 el hfz
    apply_assumption
    refine (wpIn_wide (n:=n)).1 ?_
    have hy:=Hy.out
    gi_wp2_with fail
    refine ⟨fun h => (by simp [Fence.wide] at h),HR.out.mono ?_⟩
    rintro e W3 ⟨rfl,hJ3,hc3⟩
    have hc3':=hc3.trans Hc1.out
    have hm3:=strLen_eq hc3'
    obtain ⟨HJ3,Hc3,Hm3⟩:=hid3 hJ3 hc3' hm3
    clear hJ3 hc3' hm3
    clear hy hc3
    gi_wp2
    go_roundw
    case rel => exact ⟨pre ++ [u.take (m + 1)],u.drop (m + 1),Hpre2.out,HJ3.out,Hc3.out,by rw [List.length_drop];omega⟩
    case measure => rw [Hm3.out,Hmeas.out,List.length_drop];omega
   ·have hm : Lib.indexByte u 10 = -1:=by omega
    have hcut:=lns_last hm hu
    rw [hm] at HI
    obtain ⟨W1,hW1⟩ : ∃ W1,wr.setCell ⟨c,0,none⟩ (.string ⟨([] : Bs).toArray⟩) = W1:=⟨_,rfl⟩
    have hmod : Mod [c] wr W1:=by rw [← hW1];exact (Mod.refl [c] wr).setCell (.inl (by simp)) _
    have hc1 : W1.heap[c]? = some (.cells #[str []] 9 (0,0)):=by rw [← hW1];exact blk_set hcu 0 _
    have hJ1:=HJ.out _ _ _ hJp hmod
    obtain ⟨fn,tmps,assign,body,hy,hR⟩:=HY.out pre u [] W1 (by rw [hpre,hcut]) hJ1 ⟨_,hc1,_,rfl⟩
    have hpre2 : lns t = (pre ++ [u]) ++ lns []:=by rw [hpre,hcut,lns_nil];simp
    unfold str at hy
    obtain ⟨HR,Hpre,HJp,Hcu,Hmeas,Hmod,Hc1,HJ1,Hpre2,Hcut,Hy⟩:=hid11 hR hpre hJp hcu hmeas hmod hc1 hJ1 hpre2 hcut hy
    clear hR hpre hJp hcu hmeas hmod hc1 hJ1 hpre2 hcut hy
    clear hge hu hm hi
    refine (wpIn_wide (n:=n)).1 ?_
    have hy:=Hy.out
    gi_wp2_with fail
    refine ⟨trivial,fun h => (by simp [Fence.wide] at h),(callsIn_wide.2 (HI.out _)).mono ?_⟩
    rintro e w2 ⟨rfl,rfl⟩
    gi_wp2_with fail
    refine ⟨fun h => (by simp [Fence.wide] at h),HR.out.mono ?_⟩
    rintro e W3 ⟨rfl,hJ3,hc3⟩
    have hc3':=hc3.trans Hc1.out
    have hm3:=strLen_eq hc3'
    obtain ⟨HJ3,Hc3,Hm3⟩:=hid3 hJ3 hc3' hm3
    clear hJ3 hc3' hm3
    clear hy hc3
    gi_wp2
    go_roundw
    case rel => exact ⟨pre ++ [u],[],Hpre2.out,HJ3.out,Hc3.out,by simp⟩
    case measure => rw [Hm3.out,Hmeas.out];exact hpos
end Go.Proofs.YtoheblfpjinmnaaGreatDoor
