import Derived.Test.YtfdillpofciicaaGreatDoorTopSavedJ6
import Derived.Deep.MidRow
import Derived.Test.YtfdillpofciicaaGreatDoorTopSavedJ5
import Derived.Maps.RangeRun
import Derived.Maps.Keyed
set_option linter.unusedVariables false
set_option linter.unusedSimpArgs false
/- A part of the proof that TopSaved returns true. -/
namespace Go.Proofs.YtfdillpofciicaaGreatDoor
open Go Go.RowKit
def oneR (S : Nat) (ys : Array Value) (t : TypeId) : Value → World → Prop:=fun v w => ∃ b,v = .slice (some ⟨b,0,none⟩) 1 1 ∧ S ≤ b ∧ w.heap[b]? = some (.cells ys t (0,0))
theorem stab_oneR {S : Nat} {ys : Array Value} {t : TypeId} : Stab Grow (oneR S ys t):=by
 rintro v w w' hb ⟨b,h1,h2,h3⟩
 exact ⟨b,h1,h2,(Mod.ofBelow hb).keep h3 (by simp)⟩
theorem oneR_new {S : Nat} {ys : Array Value} {t : TypeId} {w : World} (h : S ≤ w.heap.size) : oneR S ys t (.slice (some ⟨w.heap.size,0,none⟩) 1 1) (w.alloc (.cells ys t)):=⟨_,rfl,h,heap_alloc_new w _⟩
theorem oneR_cells {S : Nat} {ys : Array Value} {t : TypeId} {v : Value} {w : World} {xs : List Value} (h : oneR S ys t v w) (he : ys.toList = xs) : ∃ ad,v = .slice (some ad) 1 1 ∧ ∀ j u,xs[j]? = some u → w.cell? (ad.add j) = some u:=by
 obtain ⟨b,rfl,-,hb⟩:=h
 refine ⟨_,rfl,fun j u hu => ?_⟩
 subst he
 have e : (⟨b,0,none⟩ : Addr).add j = ⟨b,j,none⟩:=by unfold Addr.add;split <;> simp_all
 rw [e,blk_cell hb]
 simpa using hu
section
variable {P : Program} {α : Type} {enc : α → List Value} {n : Nat}
theorem yr_app {o : Oper} {ρ : Operand → Value} {w : World} {J : Value → World → Prop} (s x : Operand) (T E : TypeId)
  (ho : o.op = .call { callee:=.builtin .append,args:=#[s,x],argTypes:=#[T,T] }) (ht : P.underlying T = some (.slice E)) {z : Value} {bytes : Nat}
  (hinf : (P.info? E).map (fun i => (i.zero,i.size,i.bytes)) = some (some z,n,bytes)) (hzs : z.cells.size = n) (hn : 0 < n) (hby : 0 < bytes) (hone : ∀ x,∀ u ∈ enc x,u.oneCell' = true) (hf : ∀ x,(enc x).length = n)
  (base : Nat) (v : Value) (l : List α) (y : α) (S : Nat) (ys : Array Value) (t : TypeId) (hs : ρ s = v) (hown : w.ownsRow base E n v l.length (l.flatMap enc)) (hx : oneR S ys t (ρ x) w) (hys : ys.toList = enc y)
  (hlen : (l.length + 1) * bytes ≤ 140737488355328) (hbase : base ≤ w.heap.size)
  (h : ∀ v' w',w'.ownsRow base E n v' (l ++ [y]).length ((l ++ [y]).flatMap enc) → w.grownBy w' v.ownBlock → (v'.ownBlock = v.ownBlock ∨ v'.ownBlock = some w.heap.size) → J v' w') : YieldsR P o ρ w J:=by
 obtain ⟨i0,hi,hz0,hz1,hz2⟩:=info_parts hinf
 have h1 : l.length + 1 ≤ (l.length + 1) * bytes:=Nat.le_mul_of_pos_right _ hby
 obtain ⟨ad,hxe,hc⟩:=oneR_cells hx hys
 obtain ⟨v',w',hr,h2,h3,h4,h5⟩:=run_append_own_at (P:=P) w base T o.type E i0 z n bytes ht hi hz0 hz1 hz2 hzs hn v l.length _ hown ad 1 1 (enc y) (by rw [hf,Nat.one_mul]) hc (hone y) (by unfold maxLen;omega) hlen hbase
 unfold YieldsR execOp
 simp only [ho,resolve,invoke,builtin,Sem.run_bind,Sem.run_pure,Result.andThen_ok,List.map_toArray,mC,mN,hs,hxe,hr]
 refine h v' w' ?_ h3 h5
 rw [List.length_append,List.flatMap_append]
 simpa using h2
theorem app_oneR {w : World} {ops : Array Oper} {rest : List Oper} {o : Oper} {a : Act} {Q : Exit → Act → World → Prop} (hgd : o.guard = none) (s x : Operand) (T E : TypeId)
  (ho : o.op = .call { callee:=.builtin .append,args:=#[s,x],argTypes:=#[T,T] }) (ht : P.underlying T = some (.slice E)) {z : Value} {bytes : Nat}
  (hinf : (P.info? E).map (fun i => (i.zero,i.size,i.bytes)) = some (some z,n,bytes)) (hzs : z.cells.size = n) (hn : 0 < n) (hby : 0 < bytes) (hone : ∀ x,∀ u ∈ enc x,u.oneCell' = true) (hf : ∀ x,(enc x).length = n)
  (base : Nat) (v : Value) (l : List α) (y : α) (S : Nat) (ys : Array Value) (t : TypeId) (hs : a.eval s = v) (hown : w.ownsRow base E n v l.length (l.flatMap enc)) (hx : oneR S ys t (a.eval x) w) (hys : ys.toList = enc y)
  (hlen : (l.length + 1) * bytes ≤ 140737488355328) (hbase : base ≤ w.heap.size)
  (h : ∀ v' w',w'.ownsRow base E n v' (l ++ [y]).length ((l ++ [y]).flatMap enc) → w.grownBy w' v.ownBlock → (v'.ownBlock = v.ownBlock ∨ v'.ownBlock = some w.heap.size) → wpList P ops Q rest (a.put o.dst v') w') : wpList P ops Q (o :: rest) a w:=by
 obtain ⟨ad,hxe,hc⟩:=oneR_cells hx hys
 exact app_rec hgd s x T E ho ht hinf hzs hn hby hone hf base v l y ad 1 hs hown hxe hc hlen hbase h
end
theorem grown_mod {w w' : World} {r : Option Nat} (h : w.grownBy w' r) : Mod r.toList w w':=(Mod.refl _ w).grown h (fun k hk => .inl (by simp [hk]))
theorem keep_nil {σ : Nat → Value} {L : Nat → Bool} {w w' : World} {k : Nat} : KeepAll σ L w w' k []:=trivial
theorem allStab_oneR {S : Nat} {ys : Array Value} {t : TypeId} {l : List (Value → World → Prop)} (h : AllStab Grow l) : AllStab Grow (oneR S ys t :: l):=⟨stab_oneR,h⟩
theorem upd_false {L : Nat → Bool} {i j : Nat} (h : upd L i j = false) : L j = false:=by simp only [upd,Bool.or_eq_false_iff] at h;exact h.2
theorem grow_alloc (w : World) (o : Obj) : Grow w (w.alloc o):=(Below.refl _ _).alloc (Nat.le_refl _) o
theorem upd_true {L : Nat → Bool} {i j : Nat} (h : upd L i j = true) (hne : j ≠ i) : L j = true:=by simp only [upd,Bool.or_eq_true,beq_iff_eq] at h;exact h.resolve_left hne
section
variable {P : Program}
def OpGoalQ (P : Program) (dsts : List (Option Tmp)) (pre : List (List Nat)) (vs : List Value) (a : World) (a0 : Act) (i : Nat) (o : Oper) : Prop :=
 ∀ (σ : Nat → Value),PreF (vs.map isV) σ a (pre.getD i []) →
  if wantedL dsts (putF dsts σ (pre.getD i []) a0) o.guard = true then YieldsR P o (putF dsts σ (pre.getD i []) a0).eval a (PostS (vs.getD i undef) a)
  else PostS (vs.getD i undef) a undef a
theorem allFrom_imp {p q : Nat → Oper → Prop} : ∀ (l : List Oper) (k : Nat),(∀ j o,l[j]? = some o → p (k + j) o → q (k + j) o) → AllFrom p k l → AllFrom q k l
 | [],_,_,_ => trivial
 | o :: l,k,h,⟨h1,h2⟩ => ⟨h 0 o rfl h1,allFrom_imp l (k + 1) (fun j o' hj hp => by
   have:=h (j + 1) o' (by simpa using hj)
   rw [show k + (j + 1) = k + 1 + j by omega] at this
   exact this hp) h2⟩
theorem wp_planR {Q : Exit → Act → World → Prop} {id : Nat} {l : List Oper} {a0 : Act} {w0 : World} (m : Nat) (fl : List Nat) (dsts : List (Option Tmp)) (pre : List (List Nat)) (is : List Nat)
  (hm : P.follows .mixedOrders = true) (hd : l.map (·.dst) = dsts) (hc : planOk l.toArray pre = true) (hT : tailOkB l pre m fl = true) (hmn : m ≤ l.length) (his : List.range m = is)
  (h : ExL m fun vs => vs.length = m ∧ AllFrom (OpGoalQ P dsts pre vs w0.drew a0) 0 (l.take m) ∧
   (∀ (σ : Nat → Value),PreF (vs.map isV) σ w0.drew is → wpList P l.toArray (OnlyN Q) (l.drop m) (putF dsts σ is a0) w0.drew)) :
  (Code.region id l.toArray true).wp P Q a0 w0:=by
 obtain ⟨vs,hl,h1,h2⟩:=h.out
 have hgd : ∀ i,i < m → (vs.map isV).getD i (fun _ _ => True) = isV (vs.getD i undef):=fun i hi => by
  rw [List.getD_eq_getElem?_getD,List.getElem?_map,List.getD_eq_getElem?_getD]
  have : i < vs.length:=by omega
  rw [List.getElem?_eq_getElem this];rfl
 refine wp_planF m fl dsts pre is 0 (fun _ => vs.map isV) (fun _ _ V => V = w0.drew) hm hd hc hT hmn rfl his ?_
 show _ ∧ _
 refine ⟨allFrom_imp _ _ (fun j o hj hp => ?_) h1,?_⟩
 ·have hjm : j < m:=by
   rcases Nat.lt_or_ge j m with h | h
   ·exact h
   ·rw [List.getElem?_eq_none (by rw [List.length_take];omega)] at hj;cases hj
  intro L σ w hL1 hL2 hL3 hI hpre
  subst hI
  have:=hp σ hpre
  simp only [Nat.zero_add] at this ⊢
  split
  ·next hw =>
   rw [if_pos hw] at this
   refine this.mono ?_
   rintro v w' ⟨hv,hw'⟩
   subst hw'
   exact ⟨by rw [hgd j hjm];exact hv,rfl,KeepAll.refl⟩
  ·next hw =>
   rw [if_neg hw] at this
   exact ⟨by rw [hgd j hjm];exact this.1,rfl,KeepAll.refl⟩
 ·intro L σ w hL hI hpre
  subst hI
  exact h2 σ hpre
theorem yr_load {o : Oper} {ρ : Operand → Value} {w : World} {J : Value → World → Prop} (ty : TypeId) (x : Operand) (ho : o.op = .load ty x) (ad : Addr) (hx : ρ x = .pointer (some ad)) (xs : List Value) (d : TypeDesc)
  (hu : P.underlying ty = some d) (hd : (match d with | .struct _ | .array _ _ => true | _ => false) = true) (hi : (P.info? ty).map (·.size) = some xs.length) (hc : ∀ j u,xs[j]? = some u → w.cell? (ad.add j) = some u)
  (h : J (.agg xs.toArray) w) : YieldsR P o ρ w J:=by
 unfold YieldsR
 rw [run_op_load ρ o w ty x ho ad hx xs d hu hd hi hc]
 exact h
end
theorem wpList_store_at {P : Program} {ops : Array Oper} {rest : List Oper} {op : Oper} {a : Act} {w : World} {Q : Exit → Act → World → Prop} (hgd : op.guard = none) (ty : TypeId) (x y : Operand) (ho : op.op = .store ty x y)
  (b o : Nat) (vs : List Value) (hx : a.eval x = .pointer (some ⟨b,o,none⟩)) (hy : a.eval y = .agg vs.toArray) (ht : w.there b o vs.length) (hi : (P.info? ty).map (·.size) = some vs.length) (h1 : ∀ u ∈ vs,u.oneCell' = true)
  (h : wpList P ops Q rest (a.put op.dst undef) (w.setCells b o vs)) : wpList P ops Q (op :: rest) a w:=by
 refine wpList_store_mid hgd ty x y ho b o vs.toArray hx hy (by simpa using ht) (by simpa using hi) (all_oneCell_toArray h1) ?_
 rw [show vs.toArray.toList = vs by simp]
 exact h
def setL : List Value → Nat → List Value → List Value
 | xs,_,[] => xs
 | xs,i,v :: vs => setL (xs.set i v) (i + 1) vs
theorem setL_mid : ∀ (vs xs ys zs : List Value) (i : Nat),i + vs.length ≤ ys.length → setL (xs ++ ys ++ zs) (xs.length + i) vs = xs ++ setL ys i vs ++ zs
 | [],_,_,_,_,_ => rfl
 | v :: vs,xs,ys,zs,i,h => by
  simp only [List.length_cons] at h
  rw [setL,setL,List.append_assoc,List.set_append_right _ _ (by omega),show xs.length + i - xs.length = i by omega,List.set_append_left _ _ (by omega),← List.append_assoc,
   show xs.length + i + 1 = xs.length + (i + 1) by omega,setL_mid vs xs (ys.set i v) zs (i + 1) (by simp;omega)]
theorem setL_all : ∀ (vs ys : List Value),vs.length = ys.length → setL ys 0 vs = vs:=by
 have key : ∀ (vs ys zs : List Value),vs.length = zs.length → setL (ys ++ zs) ys.length vs = ys ++ vs:=by
  intro vs
  induction vs with
  | nil => intro ys zs h;have : zs = []:=List.eq_nil_of_length_eq_zero (by simpa using h.symm);subst this;rfl
  | cons v vs ih =>
   intro ys zs h
   match zs,h with
   | z :: zs,h =>
    rw [setL,List.set_append_right _ _ (Nat.le_refl _),Nat.sub_self,List.set_cons_zero]
    have:=ih (ys ++ [v]) zs (by simpa using h)
    simpa using this
 intro vs ys h
 simpa using key vs [] ys h
theorem flat_split {α : Type} {enc : α → List Value} {n : Nat} (hf : ∀ x,(enc x).length = n) (l : List α) (k : Nat) (hk : k < l.length) (y : α) :
  (l.set k y).flatMap enc = (l.take k).flatMap enc ++ enc y ++ (l.drop (k + 1)).flatMap enc ∧ ((l.take k).flatMap enc).length = k * n:=by
 refine ⟨?_,by rw [flatV_length hf,List.length_take];congr 1;omega⟩
 rw [List.set_eq_take_append_cons_drop,if_pos hk]
 simp
theorem setL_flat {α : Type} {enc : α → List Value} {n : Nat} (hf : ∀ x,(enc x).length = n) (l : List α) (k : Nat) (hk : k < l.length) (o : Nat) (vs : List Value) (y : α) (ho : o + vs.length ≤ n) (he : setL (enc l[k]) o vs = enc y) :
  setL (l.flatMap enc) (k * n + o) vs = (l.set k y).flatMap enc:=by
 obtain ⟨h1,h2⟩:=flat_split hf l k hk y
 obtain ⟨h3,-⟩:=flat_split hf l k hk l[k]
 rw [List.set_getElem_self] at h3
 rw [h1,h3,← h2,setL_mid _ _ _ _ _ (by rw [hf];exact ho),he]
theorem row_setCells {w : World} {B e size n g cap : Nat} : ∀ (vs : List Value) (i : Nat) (w : World) (xs : List Value),w.ownsRow B e size (.slice (some ⟨g,0,none⟩) n cap) n xs → (w.setCells g i vs).ownsRow B e size (.slice (some ⟨g,0,none⟩) n cap) n (setL xs i vs)
 | [],_,_,_,h => h
 | v :: vs,i,w,xs,h => row_setCells (w:=w) vs (i + 1) _ _ (row_set h i v)
theorem mod_setCells {F : List Nat} {a : World} {g : Nat} (hg : g ∈ F ∨ a.heap.size ≤ g) : ∀ (vs : List Value) (i : Nat) (w : World),Mod F a w → Mod F a (w.setCells g i vs)
 | [],_,_,h => h
 | v :: vs,i,_,h => mod_setCells hg vs (i + 1) _ (h.setCell hg v)
theorem row_there {w : World} {B e size n g cap : Nat} {xs : List Value} (h : w.ownsRow B e size (.slice (some ⟨g,0,none⟩) n cap) n xs) {i m : Nat} (hm : i + m ≤ xs.length) : w.there g i m:=fun j hj => by
 have h1 : xs[i + j]? = some (xs[i + j]'(by omega)):=List.getElem?_eq_getElem (by omega)
 exact ⟨by rw [row_cell h h1];rfl,row_free h _⟩
theorem row_piece {α : Type} {enc : α → List Value} {n : Nat} (hf : ∀ x,(enc x).length = n) {w : World} {B e cap g : Nat} {l : List α} (h : w.ownsRow B e n (.slice (some ⟨g,0,none⟩) l.length cap) l.length (l.flatMap enc)) {k : Nat} (hk : k < l.length) (o : Nat) (xs : List Value) (ho : ∀ j u,xs[j]? = some u → (enc l[k])[o + j]? = some u) :
  ∀ j u,xs[j]? = some u → w.cell? ((⟨g,k * n + o,none⟩ : Addr).add j) = some u:=by
 intro j u hu
 obtain ⟨g',cap',he,hc⟩:=row_rec hf h hk
 simp only [Value.slice.injEq,Option.some.injEq,Addr.mk.injEq,and_true,true_and] at he
 obtain ⟨rfl,rfl⟩:=he
 have:=hc (o + j) u (ho j u hu)
 have e : (⟨g,k * n + o,none⟩ : Addr).add j = ⟨g,k * n + (o + j),none⟩:=by
  unfold Addr.add
  split
  ·next h0 => simp only [Addr.mk.injEq,true_and,and_true];omega
  ·simp only [Addr.mk.injEq,true_and,and_true];omega
 rw [e];exact this
abbrev Hd:=Int × Int
abbrev Bt:=Int × Int × Int × Int × Int × Int × Int × Int × Int
abbrev Rw:=Hd × Bt
abbrev Cg:=Hd × Bt × Bt
abbrev Bd:=Hd × Hd
def hdI : Hd → List Int | (a,b) => [a,b]
def btI : Bt → List Int | (k,a0,a1,a2,a3,a4,a5,a6,a7) => [k,a0,a1,a2,a3,a4,a5,a6,a7]
def rwI (r : Rw) : List Int:=hdI r.1 ++ btI r.2
def cgI (c : Cg) : List Int:=hdI c.1 ++ (btI c.2.1 ++ btI c.2.2)
def bdI (b : Bd) : List Int:=hdI b.1 ++ hdI b.2
def btC (b : Bt) : List Value:=ints (btI b)
def rwC (r : Rw) : List Value:=ints (rwI r)
def bdC (b : Bd) : List Value:=ints (bdI b)
theorem rwC_len (b : Rw) : (rwC b).length = 11:=rfl
theorem bdC_len (b : Bd) : (bdC b).length = 4:=rfl
theorem ints_one (l : List Int) : ∀ u ∈ ints l,u.oneCell' = true:=by
 intro u hu
 unfold ints at hu
 obtain ⟨z,-,rfl⟩:=List.mem_map.1 hu
 rfl
theorem rwC_one (b : Rw) : ∀ u ∈ rwC b,u.oneCell' = true:=ints_one _
theorem bdC_one (b : Bd) : ∀ u ∈ bdC b,u.oneCell' = true:=ints_one _
theorem hdI_inj {a b : Hd} (h : hdI a = hdI b) : a = b:=by
 obtain ⟨a0,a1⟩:=a;obtain ⟨b0,b1⟩:=b
 simpa [hdI] using h
theorem btI_inj {a b : Bt} (h : btI a = btI b) : a = b:=by
 obtain ⟨a0,a1,a2,a3,a4,a5,a6,a7,a8⟩:=a;obtain ⟨b0,b1,b2,b3,b4,b5,b6,b7,b8⟩:=b
 simpa [btI] using h
theorem app_inj {a b c d : List Int} (hl : a.length = c.length) (h : a ++ b = c ++ d) : a = c ∧ b = d:=List.append_inj h hl
theorem rwI_inj {a b : Rw} (h : rwI a = rwI b) : a = b:=by
 obtain ⟨h1,h2⟩:=app_inj (by rfl) h
 exact Prod.ext (hdI_inj h1) (btI_inj h2)
theorem cgI_inj {a b : Cg} (h : cgI a = cgI b) : a = b:=by
 obtain ⟨h1,h2⟩:=app_inj (by rfl) h
 obtain ⟨h3,h4⟩:=app_inj (by rfl) h2
 exact Prod.ext (hdI_inj h1) (Prod.ext (btI_inj h3) (btI_inj h4))
theorem bdI_inj {a b : Bd} (h : bdI a = bdI b) : a = b:=by
 obtain ⟨h1,h2⟩:=app_inj (by rfl) h
 exact Prod.ext (hdI_inj h1) (hdI_inj h2)
instance : DecidableEq Bt:=fun a b => decidable_of_iff (btI a = btI b) ⟨fun h => btI_inj h,fun h => congrArg _ h⟩
instance : DecidableEq Rw:=fun a b => decidable_of_iff (rwI a = rwI b) ⟨fun h => rwI_inj h,fun h => congrArg _ h⟩
instance : DecidableEq Cg:=fun a b => decidable_of_iff (cgI a = cgI b) ⟨fun h => cgI_inj h,fun h => congrArg _ h⟩
theorem eqB_inj {α β : Type} [DecidableEq α] [DecidableEq β] {f : α → β} (hf : ∀ {a b},f a = f b → a = b) (a b : α) : eqB (f a) (f b) = eqB a b:=by
 unfold eqB
 by_cases h : a = b
 ·subst h;simp
 ·rw [decide_eq_false h,decide_eq_false (fun e => h (hf e))]
theorem info_of {P : Program} {t : TypeId} {z : Value} {n b : Nat} (h : (P.info? t).map (fun i => (i.zero,i.size,i.bytes)) = some (some z,n,b)) : (P.info? t).map (·.size) = some n:=by
 cases hq : P.info? t with
 | none => rw [hq] at h;cases h
 | some i => rw [hq] at h;simp only [Option.map_some,Option.some.injEq,Prod.mk.injEq] at h ⊢;exact h.2.1
theorem ieHandle (d : Nat) : IE Tryz.prog (d + 2) 47 (GInts (Tryz.prog.cellsOf 47)):=by
 rw [show Tryz.prog.cellsOf 47 = 2 by kernel_rfl]
 obtain ⟨i,hi⟩:=Option.isSome_iff_exists.1 (show (Tryz.prog.info? 47).isSome = true by kernel_rfl)
 exact (esHandle d).part Tryz.underlying47 rfl hi
theorem ieBeast (d : Nat) : IE Tryz.prog (d + 3) 45 (GInts (Tryz.prog.cellsOf 45)):=by
 rw [show Tryz.prog.cellsOf 45 = 9 by kernel_rfl]
 obtain ⟨i,hi⟩:=Option.isSome_iff_exists.1 (show (Tryz.prog.info? 45).isSome = true by kernel_rfl)
 exact (esBeast d).part Tryz.underlying45 rfl hi
theorem esRow (d : Nat) : ES Tryz.prog (d + 4) 56 (GInts 11):=by
 refine ES.flat (by kernel_rfl) (by kernel_rfl) 11 (by kernel_rfl) (by kernel_rfl) ?_
 intro f hf
 simp only [Program.fieldsOf,Tryz.underlying56,List.mem_cons,List.not_mem_nil,or_false] at hf
 rcases hf with rfl | rfl
 ·exact ieHandle (d + 1)
 ·exact ieBeast d
theorem esBond (d : Nat) : ES Tryz.prog (d + 3) 60 (GInts 4):=by
 refine ES.flat (by kernel_rfl) (by kernel_rfl) 4 (by kernel_rfl) (by kernel_rfl) ?_
 intro f hf
 simp only [Program.fieldsOf,Tryz.underlying60,List.mem_cons,List.not_mem_nil,or_false] at hf
 rcases hf with rfl | rfl <;> exact ieHandle d
theorem neqRow (w : World) (x y : Rw) : (binOp .neq 56 (.agg (rwC x).toArray) (.agg (rwC y).toArray)).run Tryz.prog w = .ok (.bool (!eqB x y)) w:=by
 refine ((esRow 9996).neqI w (rwI x) (rwI y) rfl rfl (x:=(rwC x).toArray) (y:=(rwC y).toArray) rfl rfl).trans ?_
 rw [eqB_inj rwI_inj]
theorem neqBond (w : World) (x y : Bd) : (binOp .neq 60 (.agg (bdC x).toArray) (.agg (bdC y).toArray)).run Tryz.prog w = .ok (.bool (!eqB x y)) w:=by
 refine ((esBond 9997).neqI w (bdI x) (bdI y) rfl rfl (x:=(bdC x).toArray) (y:=(bdC y).toArray) rfl rfl).trans ?_
 rw [eqB_inj bdI_inj]
theorem inf_Row : (Tryz.prog.info? 56).map (fun i => (i.zero,i.size,i.bytes)) = some (some (.agg (Array.replicate 11 (.int .i64 0))),11,88):=by kernel_rfl
theorem inf_Bond : (Tryz.prog.info? 60).map (fun i => (i.zero,i.size,i.bytes)) = some (some (.agg (Array.replicate 4 (.int .i64 0))),4,32):=by kernel_rfl
theorem sz_Row (x : Rw) : (Tryz.prog.info? 56).map (·.size) = some (rwC x).length:=info_of inf_Row
theorem sz_Bond (x : Bd) : (Tryz.prog.info? 60).map (·.size) = some (bdC x).length:=info_of inf_Bond
section
variable {P : Program}
theorem setCells_block {w : World} {b : Nat} {t : TypeId} {f : Nat × Nat} : ∀ (vs : List Value) (i : Nat) (w : World) (xs : List Value),w.heap[b]? = some (.cells xs.toArray t f) → (w.setCells b i vs).heap[b]? = some (.cells (setL xs i vs).toArray t f)
 | [],_,_,_,h => h
 | v :: vs,i,w,xs,h => setCells_block (w:=w) vs (i + 1) _ _ (by
   have:=blk_set h i v
   rw [this];simp)
theorem setCells_rest (b : Nat) : ∀ (vs : List Value) (i : Nat) (w : World),(w.setCells b i vs).os = w.os ∧ (w.setCells b i vs).tape = w.tape ∧ (w.setCells b i vs).output = w.output ∧ (w.setCells b i vs).drawn = w.drawn ∧ ∀ k,k ≠ b → (w.setCells b i vs).heap[k]? = w.heap[k]?
 | [],_,_ => ⟨rfl,rfl,rfl,rfl,fun _ _ => rfl⟩
 | v :: vs,i,w => by
  obtain ⟨h1,h2,h3,h5,h4⟩:=setCells_rest b vs (i + 1) (w.setCell ⟨b,i,none⟩ v)
  exact ⟨h1,h2,h3,h5,fun k hk => (h4 k hk).trans (blk_set_ne (by simpa using hk) v)⟩
theorem world_ext {a b : World} (h1 : a.os = b.os) (h2 : a.tape = b.tape) (h3 : a.output = b.output) (h5 : a.drawn = b.drawn) (h4 : ∀ k : Nat,a.heap[k]? = b.heap[k]?) : a = b:=by
 have : a.heap = b.heap:=Array.ext_getElem? h4
 cases a;cases b;simp_all
theorem store_new (w : World) (cs : List Value) (vs : List Value) (t : TypeId) (h : vs.length = cs.length) : (w.alloc (.cells cs.toArray t)).setCells w.heap.size 0 vs = w.alloc (.cells vs.toArray t):=by
 obtain ⟨h1,h2,h3,h5,h4⟩:=setCells_rest w.heap.size vs 0 (w.alloc (.cells cs.toArray t))
 refine world_ext h1 h2 h3 h5 fun k => ?_
 by_cases hk : k = w.heap.size
 ·subst hk
  rw [setCells_block (w:=w) vs 0 _ cs (heap_alloc_new w _),setL_all vs cs h]
  exact (heap_alloc_new w _).symm
 ·rw [h4 k hk]
  rcases Nat.lt_or_ge k w.heap.size with h | h
  ·rw [Below.heap_alloc _ _ _ h,Below.heap_alloc _ _ _ h]
  ·rw [Array.getElem?_eq_none (by simp;omega),Array.getElem?_eq_none (by simp;omega)]
theorem wpList_store_new {ops : Array Oper} {rest : List Oper} {op : Oper} {a : Act} {Q : Exit → Act → World → Prop} (hgd : op.guard = none) (ty : TypeId) (x y : Operand) (ho : op.op = .store ty x y)
  (w : World) (cs vs : List Value) (t : TypeId) (hx : a.eval x = .pointer (some ⟨w.heap.size,0,none⟩)) (hy : a.eval y = .agg vs.toArray) (hl : vs.length = cs.length) (hi : (P.info? ty).map (·.size) = some vs.length) (h1 : ∀ u ∈ vs,u.oneCell' = true)
  (h : wpList P ops Q rest (a.put op.dst undef) (w.alloc (.cells vs.toArray t))) : wpList P ops Q (op :: rest) a (w.alloc (.cells cs.toArray t)):=by
 refine wpList_store_mid hgd ty x y ho w.heap.size 0 vs.toArray hx hy ?_ (by simpa using hi) (all_oneCell_toArray h1) ?_
 ·intro j hj
  have hb:=heap_alloc_new w (.cells cs.toArray t)
  have hj' : j < cs.length:=by simp at hj;omega
  constructor
  ·rw [Nat.zero_add,blk_cell hb];simp [hj']
  ·exact blk_free hb _
 ·rw [show vs.toArray.toList = vs by simp,store_new w cs vs t hl]
  exact h
end
end Go.Proofs.YtfdillpofciicaaGreatDoor
namespace Go.Proofs.YtfdillpofciicaaGreatDoor
open Go.RowKit
attribute [local go_sem] AllFrom.cons_eq AllFrom.nil_eq putF_nil putF_cons wantedL_none wantedL_some OpGoalT OpGoalS OpGoalP YieldsR preF_nil preF_cons
end Go.Proofs.YtfdillpofciicaaGreatDoor
namespace Go.Proofs.YtfdillpofciicaaGreatDoor
open Go.RowKit
attribute [local go_sem] AllFrom.cons_eq AllFrom.nil_eq putF_nil putF_cons wantedL_none wantedL_some OpGoalT OpGoalS OpGoalP OpGoalV YieldsR preF_nil preF_cons
def intC (z : Int) : List Value:=[.int .i64 z]
theorem ints_flat (l : List Int) : ints l = l.flatMap intC:=by induction l with | nil => rfl | cons x l ih => simp only [List.flatMap_cons,← ih];rfl
theorem intC_one (z : Int) : ∀ u ∈ intC z,u.oneCell' = true:=by intro u hu;simp [intC] at hu;subst hu;rfl
end Go.Proofs.YtfdillpofciicaaGreatDoor
namespace Go.Proofs.YtfdillpofciicaaGreatDoor
open Go Go.RowKit Go.Maps Go.MapKept
open Go.ChangeMaps (setBlock)
open Go.ChangeMaps
def prs (es : Array MapEntry) : List (Value × Value):=es.toList.map fun e => (e.key,e.val)
theorem setBlock_same {w : World} {b : Nat} {o o' : Obj} (hb : w.heap[b]? = some o) : (setBlock w b o').heap[b]? = some o':=by
 have:=blk_lt hb
 simp [setBlock,this]
theorem setBlock_ne {w : World} {b k : Nat} {o' : Obj} (hk : k ≠ b) : (setBlock w b o').heap[k]? = w.heap[k]?:=by
 simp [setBlock,Array.getElem?_setIfInBounds,Ne.symm hk]
theorem setBlock_size (w : World) (b : Nat) (o' : Obj) : (setBlock w b o').heap.size = w.heap.size:=by simp [setBlock]
theorem setBlock_mod (w : World) (b : Nat) (o' : Obj) : Mod [b] w (setBlock w b o') :=
 ⟨rfl,rfl,rfl,by rw [setBlock_size];exact Nat.le_refl _,fun k _ hk => setBlock_ne (by simpa using hk)⟩
section
variable {P : Program} {kt : TypeId} {w : World} {b : Nat} {l : List (Value × Value)}
structure EsOk (P : Program) (kt : TypeId) (es : Array MapEntry) (clock : Nat) (l : List (Value × Value)) : Prop where
 st : Stamped es clock
 keys : ∀ e ∈ es.toList,∃ kl,keyOf P kt e.key = some kl
 prs : prs es = l
def MapAt (P : Program) (kt : TypeId) (w : World) (b : Nat) (l : List (Value × Value)) : Prop:=∃ es clock,w.heap[b]? = some (.map es clock) ∧ EsOk P kt es clock l
theorem MapAt.lt (h : MapAt P kt w b l) : b < w.heap.size:=by obtain ⟨es,c,hb,-⟩:=h;exact blk_lt hb
theorem MapAt.mod {w' : World} {F : List Nat} (h : MapAt P kt w b l) (hm : Mod F w w') (hd : b ∉ F) : MapAt P kt w' b l:=by
 obtain ⟨es,c,hb,hk⟩:=h;exact ⟨es,c,hm.keep hb hd,hk⟩
theorem EsOk.apart {es : Array MapEntry} {clock : Nat} (h : EsOk P kt es clock l) : l.Pairwise (fun p q => p.1 ≠ q.1):=by
 have:=((stamped_iff es clock).1 h.st).2.2
 rw [← h.prs]
 exact List.pairwise_map.2 this
theorem EsOk.mem {es : Array MapEntry} {clock : Nat} (h : EsOk P kt es clock l) {e : MapEntry} (he : e ∈ es.toList) : (e.key,e.val) ∈ l:=by
 rw [← h.prs];exact List.mem_map.2 ⟨e,he,rfl⟩
theorem pair_same : ∀ {l : List (Value × Value)},l.Pairwise (fun p q => p.1 ≠ q.1) → ∀ {k v v' : Value},(k,v) ∈ l → (k,v') ∈ l → v = v'
 | p :: l,hp,k,v,v',h1,h2 => by
  obtain ⟨ha,hb⟩:=List.pairwise_cons.1 hp
  rcases List.mem_cons.1 h1 with e1 | h1
  ·rcases List.mem_cons.1 h2 with e2 | h2
   ·have:=e1.trans e2.symm;cases this;rfl
   ·exact absurd (by rw [← e1]) (ha _ h2)
  ·rcases List.mem_cons.1 h2 with e2 | h2
   ·exact absurd (by rw [← e2]) (ha _ h1)
   ·exact pair_same hb h1 h2
variable {t e : TypeId} {key : Value} {kl : Lit}
theorem MapAt.look_in (K : Keyed P kt) (ht : P.underlying t = some (.map kt e)) (h : MapAt P kt w b l) (hkey : keyOf P kt key = some kl) {v : Value} (hv : (key,v) ∈ l) (c : Bool) :
  (Instr.lookup t (.map (some b)) key c).run P w = .ok (if c then .tuple #[v,.bool true] else v) w:=by
 obtain ⟨es,clock,hb,hok⟩:=h
 rcases K.find w hkey es.toList hok.keys with ⟨_,h2⟩ | ⟨j,e0,h1,h2,h3⟩
 ·rw [← hok.prs] at hv
  obtain ⟨x,hx,hx2⟩:=List.mem_map.1 hv
  exact absurd (congrArg Prod.fst hx2) (h2 x hx)
 ·have hm:=hok.mem (List.mem_of_getElem? h2)
  rw [h3] at hm
  have:=pair_same hok.apart hm hv
  simp [Instr.lookup,run_underlying ht,MapKept.run_getObj_map hb,K.check w _ hkey,h1,Result.andThen,this]
theorem MapAt.look_out (K : Keyed P kt) (ht : P.underlying t = some (.map kt e)) {z : Value} (hz : (zeroValue e).run P w = .ok z w) (h : MapAt P kt w b l) (hkey : keyOf P kt key = some kl) (hv : ∀ p ∈ l,p.1 ≠ key) (c : Bool) :
  (Instr.lookup t (.map (some b)) key c).run P w = .ok (if c then .tuple #[z,.bool false] else z) w:=by
 obtain ⟨es,clock,hb,hok⟩:=h
 rcases K.find w hkey es.toList hok.keys with ⟨h1,_⟩ | ⟨j,e0,h1,h2,h3⟩
 ·simp [Instr.lookup,run_underlying ht,MapKept.run_getObj_map hb,K.check w _ hkey,h1,hz,Result.andThen]
 ·exact absurd h3 (hv _ (hok.mem (List.mem_of_getElem? h2)))
theorem MapAt.put_new (K : Keyed P kt) (ht : P.underlying t = some (.map kt e)) (h : MapAt P kt w b l) (hkey : keyOf P kt key = some kl) (hv : ∀ p ∈ l,p.1 ≠ key) (v : Value) :
  ∃ w',(Instr.mapUpdate t (.map (some b)) key v).run P w = .ok () w' ∧ MapAt P kt w' b (l ++ [(key,v)]) ∧ Mod [b] w w' ∧ w'.heap.size = w.heap.size:=by
 obtain ⟨es,clock,hb,hok⟩:=h
 have hne : ∀ x ∈ es.toList,x.key ≠ key:=fun x hx => hv _ (hok.mem hx)
 rcases K.find w hkey es.toList hok.keys with ⟨h1,_⟩ | ⟨j,e0,h1,h2,h3⟩
 ·refine ⟨setBlock w b (.map (es.push ⟨key,v,clock⟩) (clock + 1)),?_,⟨_,_,setBlock_same hb,stamped_push hok.st hne,?_,?_⟩,setBlock_mod _ _ _,setBlock_size _ _ _⟩
  ·simp [Instr.mapUpdate,run_underlying ht,MapKept.run_getObj_map hb,K.check w false hkey,h1,MapKept.run_setObj_map _ hb,Result.andThen,setBlock]
  ·intro x hx
   simp only [Array.toList_push,List.mem_append,List.mem_singleton] at hx
   rcases hx with hx | rfl
   ·exact hok.keys x hx
   ·exact ⟨kl,hkey⟩
  ·rw [← hok.prs];simp [Go.Proofs.YtfdillpofciicaaGreatDoor.prs]
 ·exact absurd h3 (hne e0 (List.mem_of_getElem? h2))
theorem apart_mid {l1 l2 : List (Value × Value)} {k v : Value} (h : (l1 ++ (k,v) :: l2).Pairwise (fun p q => p.1 ≠ q.1)) : ∀ p ∈ l1 ++ l2,p.1 ≠ k:=by
 intro p hp
 rw [List.pairwise_append] at h
 obtain ⟨h1,h2,h3⟩:=h
 rcases List.mem_append.1 hp with hp | hp
 ·exact h3 p hp (k,v) (by simp)
 ·exact (fun e => (List.pairwise_cons.1 h2).1 p hp e.symm)
theorem split_at {es : Array MapEntry} {clock : Nat} {l1 l2 : List (Value × Value)} {v0 : Value} (hok : EsOk P kt es clock (l1 ++ (key,v0) :: l2)) {j : Nat} {e0 : MapEntry} (h2 : es.toList[j]? = some e0) (h3 : e0.key = key) : j = l1.length ∧ e0.val = v0:=by
 have hj : (l1 ++ (key,v0) :: l2)[j]? = some (key,e0.val):=by
  rw [← hok.prs,prs,List.getElem?_map,h2,← h3];rfl
 have hap:=hok.apart
 have hm:=pair_same hap (List.mem_of_getElem? hj) (show (key,v0) ∈ l1 ++ (key,v0) :: l2 by simp)
 refine ⟨?_,hm⟩
 rcases Nat.lt_trichotomy j l1.length with h | h | h
 ·rw [List.getElem?_append_left h] at hj
  exact absurd rfl (apart_mid hap _ (List.mem_append_left _ (List.mem_of_getElem? hj)))
 ·exact h
 ·rw [List.getElem?_append_right (by omega),show j - l1.length = (j - l1.length - 1) + 1 by omega,List.getElem?_cons_succ] at hj
  exact absurd rfl (apart_mid hap _ (List.mem_append_right _ (List.mem_of_getElem? hj)))
theorem MapAt.put_old (K : Keyed P kt) (ht : P.underlying t = some (.map kt e)) {l1 l2 : List (Value × Value)} {v0 : Value} (h : MapAt P kt w b (l1 ++ (key,v0) :: l2)) (hkey : keyOf P kt key = some kl) (v : Value) :
  ∃ w',(Instr.mapUpdate t (.map (some b)) key v).run P w = .ok () w' ∧ MapAt P kt w' b (l1 ++ (key,v) :: l2) ∧ Mod [b] w w' ∧ w'.heap.size = w.heap.size:=by
 obtain ⟨es,clock,hb,hok⟩:=h
 rcases K.find w hkey es.toList hok.keys with ⟨_,h2⟩ | ⟨j,e0,h1,h2,h3⟩
 ·have hv : (key,v0) ∈ prs es:=by rw [hok.prs];simp
  obtain ⟨x,hx,hx2⟩:=List.mem_map.1 hv
  exact absurd (congrArg Prod.fst hx2) (h2 x hx)
 ·have hj : es[j]? = some e0:=by simpa using h2
  obtain ⟨rfl,-⟩:=split_at hok h2 h3
  have hkeyf : ∀ e',es[l1.length]? = some e' → ({ e' with key:=key,val:=v } : MapEntry).key = e'.key:=fun e' he' => by rw [hj] at he';cases he';exact h3.symm
  have hlist : (es.modify l1.length (fun e' => { e' with key:=key,val:=v })).toList = es.toList.set l1.length { e0 with key:=key,val:=v }:=by rw [Array.toList_modify,modify_eq_set _ _ _ _ h2]
  refine ⟨setBlock w b (.map (es.modify l1.length (fun e' => { e' with key:=key,val:=v })) clock),?_,⟨_,_,setBlock_same hb,stamped_modify hok.st _ _ (fun _ _ => rfl) (fun e' _ he' => hkeyf e' he'),?_,?_⟩,setBlock_mod _ _ _,setBlock_size _ _ _⟩
  ·simp [Instr.mapUpdate,run_underlying ht,MapKept.run_getObj_map hb,K.check w false hkey,h1,hj,h3,K.stays w hkey,MapKept.run_setObj_map _ hb,Result.andThen,setBlock]
  ·intro x hx
   rw [hlist] at hx
   rcases List.mem_or_eq_of_mem_set hx with hx | rfl
   ·exact hok.keys x hx
   ·exact ⟨kl,hkey⟩
  ·unfold Go.Proofs.YtfdillpofciicaaGreatDoor.prs
   rw [hlist,List.map_set]
   have:=hok.prs
   unfold Go.Proofs.YtfdillpofciicaaGreatDoor.prs at this
   rw [this,List.set_append_right _ _ (Nat.le_refl _),Nat.sub_self]
   rfl
theorem MapAt.del_in {ty : TypeId} (K : Keyed P kt) (ht : P.underlying t = some (.map kt e)) {l1 l2 : List (Value × Value)} {v0 : Value} (h : MapAt P kt w b (l1 ++ (key,v0) :: l2)) (hkey : keyOf P kt key = some kl) :
  ∃ w',(Builtin.delete_ #[t,kt] ty #[.map (some b),key]).run P w = .ok (.tuple #[]) w' ∧ MapAt P kt w' b (l1 ++ l2) ∧ Mod [b] w w' ∧ w'.heap.size = w.heap.size:=by
 obtain ⟨es,clock,hb,hok⟩:=h
 rcases K.find w hkey es.toList hok.keys with ⟨_,h2⟩ | ⟨j,e0,h1,h2,h3⟩
 ·have hv : (key,v0) ∈ prs es:=by rw [hok.prs];simp
  obtain ⟨x,hx,hx2⟩:=List.mem_map.1 hv
  exact absurd (congrArg Prod.fst hx2) (h2 x hx)
 ·obtain ⟨rfl,-⟩:=split_at hok h2 h3
  have hjs : l1.length < es.size:=by have:=(List.getElem?_eq_some_iff.1 h2).1;simpa using this
  have hsub : (es.eraseIdxIfInBounds l1.length).toList = es.toList.eraseIdx l1.length:=by
   unfold Array.eraseIdxIfInBounds
   rw [dif_pos hjs]
   simp
  refine ⟨setBlock w b (.map (es.eraseIdxIfInBounds l1.length) clock),?_,⟨_,_,setBlock_same hb,stamped_erase hok.st _,?_,?_⟩,setBlock_mod _ _ _,setBlock_size _ _ _⟩
  ·simp [Builtin.delete_,run_underlying ht,MapKept.run_getObj_map hb,K.check w _ hkey,h1,MapKept.run_setObj_map _ hb,Result.andThen,setBlock]
  ·intro x hx
   rw [hsub] at hx
   exact hok.keys x ((List.eraseIdx_sublist _ _).subset hx)
  ·have:=hok.prs
   unfold Go.Proofs.YtfdillpofciicaaGreatDoor.prs at this ⊢
   rw [hsub,ChangeMaps.map_eraseIdx,this,List.eraseIdx_append_of_length_le (Nat.le_refl _),Nat.sub_self]
   rfl
def RangeAt (P : Program) (kt : TypeId) (w : World) (b r : Nat) (l todo : List (Value × Value)) : Prop :=
 ∃ es clock since seen c0,w.heap[b]? = some (.map es clock) ∧ EsOk P kt es clock l ∧ w.heap[r]? = some (.mapIter (some b) since seen c0) ∧ (∀ x ∈ es.toList,x.born < since) ∧ since ≤ c0 ∧ since ≤ clock ∧ prs (leftOf es seen) = todo
theorem RangeAt.mod {w' : World} {F : List Nat} {r : Nat} {todo : List (Value × Value)} (h : RangeAt P kt w b r l todo) (hm : Mod F w w') (hb : b ∉ F) (hr : r ∉ F) : RangeAt P kt w' b r l todo:=by
 obtain ⟨es,clock,since,seen,c0,h1,h2,h3,h4,h5,h7,h6⟩:=h
 exact ⟨es,clock,since,seen,c0,hm.keep h1 hb,h2,hm.keep h3 hr,h4,h5,h7,h6⟩
theorem RangeAt.lt {r : Nat} {todo : List (Value × Value)} (h : RangeAt P kt w b r l todo) : r < w.heap.size:=by obtain ⟨_,_,_,_,_,_,_,h3,_⟩:=h;exact blk_lt h3
theorem MapAt.range (ht : P.underlying t = some (.map kt e)) (h : MapAt P kt w b l) :
  ∃ o,(Instr.range t (.map (some b))).run P w = .ok (.pointer (some ⟨w.heap.size,0,none⟩)) (w.alloc o) ∧ RangeAt P kt (w.alloc o) b w.heap.size l l:=by
 obtain ⟨es,clock,hb,hok⟩:=h
 refine ⟨_,run_range_map w t kt e b es clock ht hb,es,clock,clock,#[],clock,blk_alloc hb _,hok,(MapKept.heap_alloc w _).1,((stamped_iff es clock).1 hok.st).1,Nat.le_refl _,Nat.le_refl _,?_⟩
 rw [← hok.prs]
 unfold leftOf
 congr 1
 rw [Array.filter_eq_self]
 simp
theorem RangeAt.over {r : Nat} (h : RangeAt P kt w b r l []) (ty : TypeId) : (Instr.next (.pointer (some ⟨r,0,none⟩)) false ty).run P w = .ok (.tuple #[.bool false]) w:=by
 obtain ⟨es,clock,since,seen,c0,h1,h2,h3,h4,h5,h7,h6⟩:=h
 rcases run_next_at (P:=P) w ty r b since c0 seen es clock h3 h1 h4 h5 with ⟨_,hr⟩ | ⟨x,hx,_⟩
 ·exact hr
 ·have : (x.key,x.val) ∈ prs (leftOf es seen):=List.mem_map.2 ⟨x,hx,rfl⟩
  rw [h6] at this
  cases this
theorem RangeAt.next {r : Nat} {todo : List (Value × Value)} (h : RangeAt P kt w b r l todo) (hne : todo ≠ []) (ty : TypeId) :
  ∃ t1 p t2 w',todo = t1 ++ p :: t2 ∧ p ∈ l ∧ (Instr.next (.pointer (some ⟨r,0,none⟩)) false ty).run P w = .ok (.tuple #[.bool true,p.1,p.2]) w' ∧
   (Instr.entry (.pointer (some ⟨r,0,none⟩))).run P w' = .ok (.tuple #[p.1,p.2]) w' ∧ RangeAt P kt w' b r l (t1 ++ t2) ∧ Mod [r] w w' ∧ w'.heap.size = w.heap.size:=by
 obtain ⟨es,clock,since,seen,c0,h1,h2,h3,h4,h5,h7,h6⟩:=h
 have hbr : b ≠ r:=by rintro rfl;rw [h1] at h3;cases h3
 rcases run_next_at (P:=P) w ty r b since c0 seen es clock h3 h1 h4 h5 with ⟨h0,_⟩ | ⟨x,hx,w1,hw1,hr⟩
 ·have : leftOf es seen = #[]:=Array.eq_empty_of_size_eq_zero h0
  rw [this] at h6
  exact absurd h6.symm hne
 ·have hm1 : Mod [] w w1:=by
   rcases hw1 with rfl | rfl
   ·exact Mod.refl _ _
   ·exact (Mod.refl _ _).drew
  have hs1 : w1.heap.size = w.heap.size:=by rcases hw1 with rfl | rfl <;> rfl
  obtain ⟨hxe,hxs⟩:=mem_left hx
  have hst:=(stamped_iff es clock).1 h2.st
  obtain ⟨a,c,hac⟩:=List.append_of_mem hx
  have hnd : ((leftOf es seen).toList.map (·.born)).Nodup:=by
   unfold leftOf
   rw [Array.toList_filter]
   exact List.Nodup.sublist (List.Sublist.map _ List.filter_sublist) hst.2.1
  have hleft : (leftOf es (seen.push x.born)).toList = a ++ c:=by
   have e1 : (leftOf es (seen.push x.born)).toList = (leftOf es seen).toList.filter (fun y => !(y.born == x.born)):=by
    unfold leftOf
    rw [Array.toList_filter,Array.toList_filter,List.filter_filter]
    apply List.filter_congr
    intro y _
    rw [Array.contains_push]
    cases (y.born == x.born) <;> cases seen.contains y.born <;> rfl
   rw [e1,hac]
   rw [hac,List.map_append,List.map_cons] at hnd
   rw [List.nodup_append] at hnd
   obtain ⟨_,n2,n3⟩:=hnd
   rw [List.nodup_cons] at n2
   rw [List.filter_append,List.filter_cons]
   simp only [beq_self_eq_true,Bool.not_true,Bool.false_eq_true,if_false]
   congr 1
   ·rw [List.filter_eq_self]
    intro y hy
    have:=n3 y.born (List.mem_map.2 ⟨y,hy,rfl⟩) x.born (by simp)
    simpa using this
   ·rw [List.filter_eq_self]
    intro y hy
    have : y.born ≠ x.born:=fun e => n2.1 (by rw [← e];exact List.mem_map.2 ⟨y,hy,rfl⟩)
    simpa using this
  have h1' : (setBlock w1 r (.mapIter (some b) since (seen.push x.born) clock)).heap[b]? = some (.map es clock):=by rw [setBlock_ne hbr];exact hm1.keep h1 (by simp)
  have h3' : (setBlock w1 r (.mapIter (some b) since (seen.push x.born) clock)).heap[r]? = some (.mapIter (some b) since (seen.push x.born) clock):=setBlock_same (hm1.keep h3 (by simp))
  refine ⟨a.map (fun y => (y.key,y.val)),(x.key,x.val),c.map (fun y => (y.key,y.val)),_,?_,h2.mem hxe,hr,run_entry_at _ r b since seen es clock x h3' h1' hxe hst.2.1,⟨es,clock,since,seen.push x.born,clock,h1',h2,h3',h4,h7,h7,?_⟩,(hm1.mono (G:=[r]) (by simp)).trans (setBlock_mod _ _ _) (fun x hx => .inl hx),?_⟩
  ·rw [← h6];unfold prs;rw [hac];simp
  ·unfold prs;rw [hleft,List.map_append]
  ·rw [setBlock_size,hs1]
end
end Go.Proofs.YtfdillpofciicaaGreatDoor
