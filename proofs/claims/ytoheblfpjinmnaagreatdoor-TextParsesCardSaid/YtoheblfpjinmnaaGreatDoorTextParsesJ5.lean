import Derived.Test.YtoheblfpjinmnaaGreatDoorTextParsesJ1
set_option linter.unusedVariables false
set_option linter.unusedSimpArgs false
/- A part of the proof that TextParses returns true. -/
namespace Go.Proofs.YtoheblfpjinmnaaGreatDoor
open Go
def RetR (J : Value → World → Prop) (e : Ending) (w : World) : Prop:=∃ u,e = .returned u ∧ J u w
def YieldsR (P : Program) (o : Oper) (ρ : Operand → Value) (w : World) (J : Value → World → Prop) : Prop :=
 match (execOp ρ o).run P w with
 | .ok (.value u) w' => J u w'
 | .ok .skip w' => J undef w'
 | .ok (.enter f args) w' => Calls P f args w' (RetR J)
 | _ => False
theorem YieldsR.wp {P : Program} {o : Oper} {a : Act} {w : World} {J : Value → World → Prop} {K : Act → World → Prop} {Q : Exit → Act → World → Prop}
  (h : YieldsR P o a.eval w J) (hK : ∀ v w',J v w' → K (a.put o.dst v) w') : o.wp P a w K Q:=by
 unfold Oper.wp
 unfold YieldsR at h
 cases hr : (execOp a.eval o).run P w with
 | halt x w' => rw [hr] at h;exact h.elim
 | ok n w' =>
  rw [hr] at h
  cases n with
  | value u => exact hK _ _ h
  | skip => exact hK _ _ h
  | enter f args =>
   refine Calls.mono h fun e w'' he => ?_
   obtain ⟨u,rfl,hj⟩:=he
   exact hK _ _ hj
  | _ => exact h.elim
theorem YieldsR.congr {P : Program} {o : Oper} {ρ ρ' : Operand → Value} {w : World} {J : Value → World → Prop}
  (h : YieldsR P o ρ w J) (he : execOp ρ' o = execOp ρ o) : YieldsR P o ρ' w J:=by
 unfold YieldsR at *
 rw [he];exact h
theorem YieldsR.mono {P : Program} {o : Oper} {ρ : Operand → Value} {w : World} {J J' : Value → World → Prop}
  (h : YieldsR P o ρ w J) (hj : ∀ v w',J v w' → J' v w') : YieldsR P o ρ w J':=by
 unfold YieldsR at *
 split at h
 ·exact hj _ _ h
 ·exact hj _ _ h
 ·refine h.mono fun e w'' he => ?_
  obtain ⟨u,rfl,hu⟩:=he
  exact ⟨u,rfl,hj _ _ hu⟩
 ·exact h.elim
def updv (σ : Nat → Value) (i : Nat) (v : Value) : Nat → Value:=fun j => if j = i then v else σ j
theorem AtPlan.putv {ops : Array Oper} {σ : Nat → Value} {a0 a : Act} {L : Nat → Bool} (h : AtPlan ops σ a0 a L) {i : Nat} {o : Oper} (ho : ops[i]? = some o)
  (hd : ∀ j o' t,ops[j]? = some o' → o'.dst = some t → o.dst = some t → i = j) (hl : L i = false) {v : Value} : AtPlan ops (updv σ i v) a0 (a.put o.dst v) (upd L i):=by
 have h1 : AtPlan ops (updv σ i v) a0 a L:=⟨h.defers,h.size,fun j o' t h1 h2 h3 h4 => by
  have hne : j ≠ i:=fun e => by rw [e,hl] at h3;cases h3
  rw [updv,if_neg hne];exact h.new j o' t h1 h2 h3 h4,h.old⟩
 have h2:=h1.put ho hd
 rw [show updv σ i v i = v by simp [updv]] at h2
 exact h2
section
variable {P : Program} {ops : Array Oper} {Q : Exit → Act → World → Prop}
def OpGoalG (P : Program) (ops : Array Oper) (pre : List (List Nat)) (I : (Nat → Bool) → (Nat → Value) → World → Prop) (a0 : Act) (i : Nat) (o : Oper) : Prop :=
 ∀ (L : Nat → Bool) (σ : Nat → Value) (w : World),L i = false → (∀ j ∈ pre.getD i [],L j = true) → (∀ k,i ∈ pre.getD k [] → L k = false) → I L σ w →
  if Region.wanted o (yielded ops (seesOf ops σ pre a0 i).tmps) = true then YieldsR P o (seesOf ops σ pre a0 i).eval w (fun v w' => I (upd L i) (updv σ i v) w')
  else I (upd L i) (updv σ i undef) w
theorem wpAny_planG {pre : List (List Nat)} {I : (Nat → Bool) → (Nat → Value) → World → Prop} {a0 : Act} (hc : planOk ops pre = true)
  (hops : ∀ i o,ops[i]? = some o → OpGoalG P ops pre I a0 i o)
  (hend : ∀ (L : Nat → Bool) (σ : Nat → Value) a w,(∀ i,i < ops.size → L i = true) → AtPlan ops σ a0 a L → I L σ w → Q .normal a w) :
  ∀ (fuel : Nat) (listed : Array Bool) (σ : Nat → Value) (a : Act) (w : World),listed.size = ops.size → (listed.toList.filter (fun b => !b)).length ≤ fuel →
   (∀ i,i < ops.size → listed.getD i false = true → ∀ j ∈ pre.getD i [],listed.getD j false = true) →
   AtPlan ops σ a0 a (fun j => listed.getD j false) → I (fun j => listed.getD j false) σ w → wpAny P .any ops Q fuel listed a w:=by
 -- nothing is ready: all is listed
 have hnil : ∀ listed : Array Bool,listed.size = ops.size → Region.ready .any ops listed = [] → ∀ i,i < ops.size → listed.getD i false = true:=by
  intro listed hsz hr i
  induction i using Nat.strongRecOn with
  | ind i ih =>
   intro hi
   cases hl : listed.getD i false with
   | true => rfl
   | false =>
    exfalso
    have : i ∈ Region.ready .any ops listed:=by
     rw [Region.ready,List.mem_filter]
     refine ⟨by simpa using hi,?_⟩
     have ho : ops[i]? = some ops[i]:=Array.getElem?_eq_getElem hi
     have hl' : listed.getD i true = false:=by
      have hs : i < listed.size:=by omega
      simp only [Array.getD,hs,dif_pos] at hl ⊢;exact hl
     simp only [hl',Bool.not_false,Bool.true_and,ho,Option.map_some,Option.getD_some,Array.all_eq_true']
     intro e he
     cases hb : Region.binds .any e with
     | false => rfl
     | true =>
      have hlt:=(planOk_spec hc ho).2.1 e (by simpa using he) hb
      have:=ih e.on hlt (by omega)
      simp [this]
    rw [hr] at this;cases this
 intro fuel
 induction fuel with
 | zero =>
  intro listed σ a w hsz hf hcl hp hI
  have hall : ∀ i,i < ops.size → listed.getD i false = true:=by
   intro i hi
   have hs : i < listed.size:=by omega
   have h0 : listed.toList.filter (fun b => !b) = []:=List.eq_nil_of_length_eq_zero (by omega)
   have:=List.filter_eq_nil_iff.1 h0 listed[i] (by simp)
   simp only [Array.getD,hs,dif_pos]
   simpa using this
  refine ⟨?_,hend _ σ a w hall hp hI⟩
  rw [List.eq_nil_iff_forall_not_mem]
  intro i hi
  rw [Region.ready,List.mem_filter] at hi
  have h1 : i < ops.size:=by simpa using hi.1
  have:=hall i h1
  have hs : i < listed.size:=by omega
  have h3 : listed.getD i true = true:=by
   simp only [Array.getD,hs,dif_pos] at this ⊢;exact this
  rw [h3] at hi
  simp at hi
 | succ fuel ih =>
  intro listed σ a w hsz hf hcl hp hI
  refine ⟨fun hr => hend _ σ a w (hnil listed hsz hr) hp hI,fun i hi => ?_⟩
  rw [Region.ready,List.mem_filter] at hi
  obtain ⟨h1,h2⟩:=hi
  have hi : i < ops.size:=by simpa using h1
  have hs : i < listed.size:=by omega
  have ho : ops[i]? = some ops[i]:=Array.getElem?_eq_getElem hi
  simp only [ho,Option.map_some,Option.getD_some,Bool.and_eq_true,Bool.not_eq_true',Array.all_eq_true'] at h2
  obtain ⟨hl0,hedge⟩:=h2
  have hl : listed.getD i false = false:=by
   simp only [Array.getD,hs,dif_pos] at hl0 ⊢;exact hl0
  have hspec:=planOk_spec hc ho
  have hpre : ∀ j ∈ pre.getD i [],listed.getD j false = true:=by
   intro j hj
   obtain ⟨hjn,e,he,hb,hej⟩:=hspec.2.2.1 j hj
   have hon:=hspec.2.1 e he hb
   have hle : listed.getD e.on false = true:=by
    have:=hedge e (by simpa using he)
    simp only [hb,Bool.not_true,Bool.false_or] at this
    exact this
   rcases hej with rfl | hej
   ·exact hle
   ·exact hcl e.on (by omega) hle j hej
  have hlen : pre.length = ops.size:=by
   unfold planOk at hc
   rw [Bool.and_eq_true] at hc
   simpa using hc.1
  have hpost : ∀ k,i ∈ pre.getD k [] → listed.getD k false = false:=by
   intro k hk
   have hkn : k < ops.size:=by
    rcases Nat.lt_or_ge k ops.size with h | h
    ·exact h
    ·rw [List.getD_eq_getElem?_getD,List.getElem?_eq_none (by omega)] at hk;cases hk
   cases hlk : listed.getD k false with
   | false => rfl
   | true =>
    have:=hcl k hkn hlk i hk
    rw [hl] at this;cases this
  have hgoal:=hops i ops[i] ho (fun j => listed.getD j false) σ w hl hpre hpost hI
  have hsees : AtPlan ops σ a0 (seesOf ops σ pre a0 i) (fun j => (pre.getD i []).contains j):=by
   have:=atPlan_putAll (vals:=σ) hc (pre.getD i []) a0 (fun _ => false) (AtPlan.start ops σ a0) (fun j hj => Nat.lt_trans (hspec.2.2.1 j hj).1 hi)
   simp only [Bool.or_false] at this;exact this
  have hslot : ∀ t ∈ ops[i].looksAt ops,a.tmps[t]? = (seesOf ops σ pre a0 i).tmps[t]?:=by
   intro t ht
   by_cases hw : ∃ (j : Nat) (o' : Oper),ops[j]? = some o' ∧ o'.dst = some t
   ·obtain ⟨j,o',hj,hd⟩:=hw
    have hone : ∀ (j' : Nat) (o'' : Oper),ops[j']? = some o'' → o''.dst = some t → j' = j:=fun j' o'' h1 h2 => ((planOk_spec hc h1).2.2.2 j o' t hj hd).1 h2
    have hnot : listed.getD j false = false → (pre.getD i []).contains j = false → a.tmps[t]? = (seesOf ops σ pre a0 i).tmps[t]?:=by
     intro h1 h2
     rw [hp.old t (fun j' o'' h3 h4 => by rw [hone j' o'' h3 h4];exact h1),hsees.old t (fun j' o'' h3 h4 => by rw [hone j' o'' h3 h4];exact h2)]
    rcases (hspec.2.2.2 j o' t hj hd).2 ht with rfl | hin | hin
    ·refine hnot hl ?_
     cases hcn : (pre.getD i []).contains i with
     | false => rfl
     | true => exact absurd (hspec.2.2.1 i (by simpa using hcn)).1 (by omega)
    ·by_cases hs' : t < a.tmps.size
     ·rw [hp.new j o' t hj hd (hpre j hin) hs',hsees.new j o' t hj hd (by simpa using hin) (by rw [hsees.size,← hp.size];exact hs')]
     ·have hle : a.tmps.size ≤ t:=Nat.le_of_not_lt hs'
      have e1 : a.tmps[t]? = none:=Array.getElem?_eq_none hle
      have hsz':=hsees.size
      have hsz'':=hp.size
      have e2 : (seesOf ops σ pre a0 i).tmps[t]? = none:=Array.getElem?_eq_none (by rw [hsz',← hsz''];exact hle)
      rw [e1,e2]
    ·refine hnot (hpost j hin) ?_
     have hij : i < j:=((planOk_spec hc hj).2.2.1 i hin).1
     cases hcn : (pre.getD i []).contains j with
     | false => rfl
     | true => exact absurd (hspec.2.2.1 j (by simpa using hcn)).1 (by omega)
   ·have hno : ∀ (j : Nat) (o' : Oper),ops[j]? = some o' → o'.dst = some t → False:=fun j o' h1 h2 => hw ⟨j,o',h1,h2⟩
    rw [hp.old t (fun j o' h1 h2 => (hno j o' h1 h2).elim),hsees.old t (fun j o' h1 h2 => (hno j o' h1 h2).elim)]
  have hexec : execOp a.eval ops[i] = execOp (seesOf ops σ pre a0 i).eval ops[i]:=by
   refine execOp_congr ops[i] hspec.1 fun x hx => ?_
   cases x with
   | tmp t =>
    have : t ∈ ops[i].looksAt ops:=by
     unfold Oper.looksAt
     rw [List.mem_append]
     left
     rw [List.mem_filterMap]
     exact ⟨_,by simpa using hx,rfl⟩
    have:=hslot t this
    simp only [Act.eval,Array.getD_eq_getD_getElem?,this]
   | _ => rfl
  have hwant : Region.wanted ops[i] (yielded ops a.tmps) = Region.wanted ops[i] (yielded ops (seesOf ops σ pre a0 i).tmps):=by
   unfold Region.wanted
   cases hg : ops[i].guard with
   | none => rfl
   | some gw =>
    obtain ⟨g,want⟩:=gw
    simp only []
    congr 1
    unfold yielded
    cases hgd : (ops[g]?).bind (·.dst) with
    | none => simp
    | some t =>
     have : t ∈ ops[i].looksAt ops:=by
      unfold Oper.looksAt
      rw [List.mem_append]
      right
      simp [hg,hgd]
     have:=hslot t this
     simp only [Option.bind_some,this]
  have hL : (fun j => (listed.setIfInBounds i true).getD j false) = upd (fun j => listed.getD j false) i:=by
   funext j
   by_cases hj : j = i
   ·subst hj;simp [upd,hs]
   ·have : (listed.setIfInBounds i true)[j]? = listed[j]?:=Array.getElem?_setIfInBounds_ne (fun e => hj e.symm)
    simp [upd,hj,Array.getD_eq_getD_getElem?,this]
  have hcount : ((listed.setIfInBounds i true).toList.filter (fun b => !b)).length ≤ fuel:=by
   have h0 : listed.toList[i]'(by simpa using hs) = false:=by
    simp only [Array.getD,hs,dif_pos] at hl
    simpa using hl
   rw [Array.toList_setIfInBounds]
   have h1 : listed.toList = listed.toList.take i ++ false :: listed.toList.drop (i + 1):=by
    rw [← h0,List.getElem_cons_drop,List.take_append_drop]
   have h2 : listed.toList.set i true = listed.toList.take i ++ true :: listed.toList.drop (i + 1):=by
    rw [List.set_eq_take_append_cons_drop,if_pos (by simpa using hs)]
   rw [h1] at hf
   rw [h2]
   simp only [List.filter_append,List.length_append,List.filter_cons,Bool.not_false,Bool.not_true,if_true,List.length_cons] at hf ⊢
   simp only [Bool.false_eq_true,if_false]
   omega
  have hcl' : ∀ k,k < ops.size → (listed.setIfInBounds i true).getD k false = true → ∀ j ∈ pre.getD k [],(listed.setIfInBounds i true).getD j false = true:=by
   intro k hk h1 j hj
   have e1 : (listed.setIfInBounds i true).getD k false = upd (fun j => listed.getD j false) i k:=congrFun hL k
   have e2 : (listed.setIfInBounds i true).getD j false = upd (fun j => listed.getD j false) i j:=congrFun hL j
   rw [e1] at h1
   rw [e2]
   simp only [upd,Bool.or_eq_true,beq_iff_eq] at h1 ⊢
   rcases h1 with rfl | h1
   ·exact .inr (hpre j hj)
   ·exact .inr (hcl k hk h1 j hj)
  have hnext : ∀ v w',I (upd (fun j => listed.getD j false) i) (updv σ i v) w' → wpAny P .any ops Q fuel (listed.setIfInBounds i true) (a.put ops[i].dst v) w':=by
   intro v w' hw'
   refine ih _ (updv σ i v) _ _ (by simpa using hsz) hcount hcl' ?_ ?_
   ·rw [hL]
    exact hp.putv ho (fun j' o' t h1 h2 h3 => (hspec.2.2.2 j' o' t h1 h2).1 h3) hl
   ·rw [hL];exact hw'
  unfold wpOp
  simp only [ho,hwant]
  split
  ·rename_i hy
   rw [if_pos hy] at hgoal
   exact .inl ((hgoal.congr hexec).wp hnext)
  ·rename_i hy
   rw [if_neg hy] at hgoal
   exact hnext _ w hgoal
theorem wp_region_planG {id : Nat} {a0 : Act} {w0 : World} {pre : List (List Nat)} (I : (Nat → Bool) → (Nat → Value) → World → Prop) (hm : P.follows .mixedOrders = true)
  (hc : planOk ops pre = true) (h0 : I (fun _ => false) (fun _ => undef) w0.drew)
  (hops : ∀ i o,ops[i]? = some o → OpGoalG P ops pre I a0 i o)
  (hend : ∀ (L : Nat → Bool) (σ : Nat → Value) w,(∀ i,i < ops.size → L i = true) → I L σ w → Q .normal (putAll ops σ (List.range ops.size) a0) w) :
  (Code.region id ops true).wp P Q a0 w0:=by
 refine wp_region_any hm ?_
 refine wpAny_planG hc hops (fun L σ a w hL ha hI => ?_) ops.size _ (fun _ => undef) a0 _ (by simp) (by simp) (fun i hi h => ?_) ?_ ?_
 ·have h1:=atPlan_putAll (vals:=σ) hc (List.range ops.size) a0 (fun _ => false) (AtPlan.start ops _ a0) (fun j hj => by simpa using hj)
  have he : a = putAll ops σ (List.range ops.size) a0:=by
   refine AtPlan.same (L:=fun j => decide (j < ops.size)) ⟨ha.defers,ha.size,fun i o t h1 h2 h3 h4 => ha.new i o t h1 h2 (hL i (by simpa using h3)) h4,fun t ht => ha.old t fun i o h1 h2 => ?_⟩ ?_
   ·have:=ht i o h1 h2
    have hi:=(Array.getElem?_eq_some_iff.1 h1).1
    simp at this;omega
   ·simpa using h1
  rw [he]
  exact hend L σ w hL hI
 ·simp [Array.getD] at h
 ·refine ⟨rfl,rfl,fun i o t h1 _ h3 _ => ?_,fun t _ => rfl⟩
  have hi:=(Array.getElem?_eq_some_iff.1 h1).1
  simp [Array.getD,hi] at h3
 ·have : (fun j => (Array.replicate ops.size false).getD j false) = fun _ => false:=by
   funext j
   simp [Array.getD]
  rw [this]
  exact h0
end
def putF (dsts : List (Option Tmp)) (σ : Nat → Value) : List Nat → Act → Act
 | [],a => a
 | j :: l,a => putF dsts σ l (a.put (dsts.getD j none) (σ j))
theorem putAll_eq_putF {l : List Oper} {dsts : List (Option Tmp)} {σ : Nat → Value} (hd : l.map (·.dst) = dsts) : ∀ (is : List Nat),(∀ i ∈ is,i < l.length) → ∀ (a : Act),
  putAll l.toArray σ is a = putF dsts σ is a:=by
 intro is
 induction is with
 | nil => intro _ a;rfl
 | cons j is ih =>
  intro hi a
  have h : (match l.toArray[j]? with | some o => a.put o.dst (σ j) | none => a) = a.put (dsts.getD j none) (σ j):=by
   subst hd
   rw [List.getElem?_toArray]
   cases hj : l[j]? with
   | none => simp [hj,Act.put]
   | some o => simp [hj]
  rw [putAll,putF,← h]
  exact ih (fun i h => hi i (by simp [h])) _
def isV (c : Value) : Value → World → Prop:=fun v _ => v = c
def PreF (VP : List (Value → World → Prop)) (σ : Nat → Value) (w : World) : List Nat → Prop
 | [] => True
 | j :: l => VP.getD j (fun _ _ => True) (σ j) w ∧ PreF VP σ w l
def Stab (T : World → World → Prop) (p : Value → World → Prop) : Prop:=∀ v w w',T w w' → p v w → p v w'
theorem stab_isV {T : World → World → Prop} {c : Value} : Stab T (isV c):=fun _ _ _ _ h => h
def AllStab (T : World → World → Prop) : List (Value → World → Prop) → Prop
 | [] => True
 | p :: l => Stab T p ∧ AllStab T l
theorem AllStab.get {T : World → World → Prop} : ∀ {VP : List (Value → World → Prop)},AllStab T VP → ∀ i,Stab T (VP.getD i (fun _ _ => True))
 | [],_,i => by intro v w w' _ _;simp
 | p :: l,h,0 => by simpa using h.1
 | p :: l,h,i + 1 => by simpa using h.2.get i
theorem preF_of {VP : List (Value → World → Prop)} {σ : Nat → Value} {w : World} : ∀ {is : List Nat},(∀ j ∈ is,VP.getD j (fun _ _ => True) (σ j) w) → PreF VP σ w is
 | [],_ => trivial
 | j :: l,h => ⟨h j (by simp),preF_of fun i hi => h i (by simp [hi])⟩
structure Post (p : Value → World → Prop) (I : World → Prop) (T : World → World → Prop) (w : World) (v : Value) (w' : World) : Prop where
 val : p v w'
 inv : I w'
 step : T w w'
def OpGoalT (P : Program) (dsts : List (Option Tmp)) (pre : List (List Nat)) (VP : List (Value → World → Prop)) (T : World → World → Prop) (I : (Nat → Bool) → World → Prop) (a0 : Act) (i : Nat) (o : Oper) : Prop :=
 ∀ (L : Nat → Bool) (σ : Nat → Value) (w : World),L i = false → (∀ j ∈ pre.getD i [],L j = true) → (∀ k,i ∈ pre.getD k [] → L k = false) → I L w → PreF VP σ w (pre.getD i []) →
  if wantedL dsts (putF dsts σ (pre.getD i []) a0) o.guard = true then YieldsR P o (putF dsts σ (pre.getD i []) a0).eval w (Post (VP.getD i (fun _ _ => True)) (I (upd L i)) T w)
  else Post (VP.getD i (fun _ _ => True)) (I (upd L i)) T w undef w
theorem planOk_lt {ops : Array Oper} {pre : List (List Nat)} (h : planOk ops pre = true) {i j : Nat} (hi : i < ops.size) (hj : j ∈ pre.getD i []) : j < i :=
 ((planOk_spec h (Array.getElem?_eq_getElem hi)).2.2.1 j hj).1
theorem wp_planT {P : Program} {Q : Exit → Act → World → Prop} {id : Nat} {l : List Oper} {a0 : Act} {w0 : World} (dsts : List (Option Tmp)) (pre : List (List Nat)) (is : List Nat) (VP : List (Value → World → Prop)) (T : World → World → Prop) (I : (Nat → Bool) → World → Prop)
  (hm : P.follows .mixedOrders = true) (hd : l.map (·.dst) = dsts) (hc : planOk l.toArray pre = true) (h0 : I (fun _ => false) w0.drew)
  (hops : AllFrom (OpGoalT P dsts pre VP T I a0) 0 l)
  (his : List.range l.length = is)
  (hend : ∀ (L : Nat → Bool) (σ : Nat → Value) w,(∀ i ∈ is,L i = true) → I L w → PreF VP σ w is → Q .normal (putF dsts σ is a0) w)
  (hS : AllStab T VP) :
  (Code.region id l.toArray true).wp P Q a0 w0:=by
 refine wp_region_planG (fun L σ w => I L w ∧ ∀ i,i < l.length → L i = true → VP.getD i (fun _ _ => True) (σ i) w) hm hc ⟨h0,fun i _ h => by cases h⟩ (fun i o ho => ?_) (fun L σ w hL hI => ?_)
 ·have h:=AllFrom.get l 0 hops i o (by simpa using ho)
  rw [Nat.zero_add] at h
  have hi : i < l.length:=by
   have:=(Array.getElem?_eq_some_iff.1 ho).1
   simpa using this
  have hlt : ∀ j ∈ pre.getD i [],j < l.length:=fun j hj => by
   have:=planOk_lt hc (by simpa using hi) hj
   omega
  intro L σ w h1 h2 h3 ⟨h4,h4'⟩
  have h5:=h L σ w h1 h2 h3 h4 (preF_of fun j hj => h4' j (hlt j hj) (h2 j hj))
  have hw : Region.wanted o (yielded l.toArray (seesOf l.toArray σ pre a0 i).tmps) = wantedL dsts (putF dsts σ (pre.getD i []) a0) o.guard:=by
   unfold seesOf
   rw [putAll_eq_putF hd _ hlt,wanted_eq_wantedL hd]
  have hs : (seesOf l.toArray σ pre a0 i).eval = (putF dsts σ (pre.getD i []) a0).eval:=by
   unfold seesOf
   rw [putAll_eq_putF hd _ hlt]
  rw [hw,hs]
  have key : ∀ v w',Post (VP.getD i (fun _ _ => True)) (I (upd L i)) T w v w' → I (upd L i) w' ∧ ∀ j,j < l.length → upd L i j = true → VP.getD j (fun _ _ => True) (updv σ i v j) w':=by
   intro v w' ⟨k1,k2,k3⟩
   refine ⟨k2,fun j hj hu => ?_⟩
   by_cases e : j = i
   ·subst e;rw [updv,if_pos rfl];exact k1
   ·rw [updv,if_neg e]
    have : L j = true:=by simpa [upd,e] using hu
    exact hS.get j _ _ _ k3 (h4' j hj this)
  split at h5
  ·rename_i hy
   rw [if_pos hy]
   exact h5.mono key
  ·rename_i hy
   rw [if_neg hy]
   exact key _ _ h5
 ·rw [putAll_eq_putF hd _ (by simp)]
  subst his
  exact hend L σ w (by simpa using hL) hI.1 (preF_of fun j hj => hI.2 j (by simpa using hj) (hL j (by simpa using hj)))
def ExL : Nat → (List Value → Prop) → Prop
 | 0,p => p []
 | n + 1,p => ∃ v,ExL n fun l => p (v :: l)
theorem ExL.out : ∀ {n : Nat} {p : List Value → Prop},ExL n p → ∃ vs,p vs
 | 0,_,h => ⟨[],h⟩
 | n + 1,p,h => by
  obtain ⟨v,h⟩:=h
  obtain ⟨vs,h⟩:=ExL.out h
  exact ⟨v :: vs,h⟩
def KeepAll (σ : Nat → Value) (L : Nat → Bool) (w w' : World) : Nat → List (Value → World → Prop) → Prop
 | _,[] => True
 | k,p :: l => (L k = true → p (σ k) w → p (σ k) w') ∧ KeepAll σ L w w' (k + 1) l
theorem KeepAll.get {σ : Nat → Value} {L : Nat → Bool} {w w' : World} : ∀ {VP : List (Value → World → Prop)} {k : Nat},KeepAll σ L w w' k VP → ∀ i,L (k + i) = true → VP.getD i (fun _ _ => True) (σ (k + i)) w → VP.getD i (fun _ _ => True) (σ (k + i)) w'
 | [],_,_,i,_,_ => by simp
 | p :: l,k,h,0,h1,h2 => by simpa using h.1 h1 (by simpa using h2)
 | p :: l,k,h,i + 1,h1,h2 => by
  have:=KeepAll.get h.2 i (by rw [show k + 1 + i = k + (i + 1) by omega];exact h1) (by rw [show k + 1 + i = k + (i + 1) by omega];simpa using h2)
  rw [show k + 1 + i = k + (i + 1) by omega] at this
  simpa using this
theorem KeepAll.ofStab {T : World → World → Prop} {σ : Nat → Value} {L : Nat → Bool} {w w' : World} (ht : T w w') : ∀ {VP : List (Value → World → Prop)} {k : Nat},AllStab T VP → KeepAll σ L w w' k VP
 | [],_,_ => trivial
 | p :: l,k,h => ⟨fun _ hp => h.1 _ _ _ ht hp,KeepAll.ofStab ht h.2⟩
theorem KeepAll.refl {σ : Nat → Value} {L : Nat → Bool} {w : World} : ∀ {VP : List (Value → World → Prop)} {k : Nat},KeepAll σ L w w k VP
 | [],_ => trivial
 | _ :: _,_ => ⟨fun _ h => h,KeepAll.refl⟩
theorem keep_isV {σ : Nat → Value} {L : Nat → Bool} {w w' : World} {c : Value} {l : List (Value → World → Prop)} {k : Nat} (h : KeepAll σ L w w' (k + 1) l) : KeepAll σ L w w' k (isV c :: l):=⟨fun _ h => h,h⟩
structure PostP (p : Value → World → Prop) (I K : World → Prop) (v : Value) (w : World) : Prop where
 val : p v w
 inv : I w
 keep : K w
def OpGoalP (P : Program) (dsts : List (Option Tmp)) (pre : List (List Nat)) (VP : List (Value → World → Prop)) (I : (Nat → Bool) → World → Prop) (a0 : Act) (i : Nat) (o : Oper) : Prop :=
 ∀ (L : Nat → Bool) (σ : Nat → Value) (w : World),L i = false → (∀ j ∈ pre.getD i [],L j = true) → (∀ k,i ∈ pre.getD k [] → L k = false) → I L w → PreF VP σ w (pre.getD i []) →
  if wantedL dsts (putF dsts σ (pre.getD i []) a0) o.guard = true then YieldsR P o (putF dsts σ (pre.getD i []) a0).eval w (PostP (VP.getD i (fun _ _ => True)) (I (upd L i)) (fun w' => KeepAll σ L w w' 0 VP))
  else PostP (VP.getD i (fun _ _ => True)) (I (upd L i)) (fun w' => KeepAll σ L w w' 0 VP) undef w
structure PostS (v0 : Value) (w0 : World) (v : Value) (w : World) : Prop where
 val : v = v0
 world : w = w0
def OpGoalS (P : Program) (dsts : List (Option Tmp)) (pre : List (List Nat)) (vs : List Value) (a b : World) (n : Nat) (a0 : Act) (i : Nat) (o : Oper) : Prop :=
 ∀ (σ : Nat → Value),PreF (vs.map isV) σ a (pre.getD i []) →
  if wantedL dsts (putF dsts σ (pre.getD i []) a0) o.guard = true then YieldsR P o (putF dsts σ (pre.getD i []) a0).eval a (PostS (vs.getD i undef) (if (i == n) = true then b else a))
  else PostS (vs.getD i undef) (if (i == n) = true then b else a) undef a
theorem preF_isV {vs : List Value} {σ : Nat → Value} {w w' : World} : ∀ {is : List Nat},PreF (vs.map isV) σ w is → PreF (vs.map isV) σ w' is
 | [],_ => trivial
 | j :: l,h => by
  refine ⟨?_,preF_isV h.2⟩
  have h1:=h.1
  rw [List.getD_eq_getElem?_getD,List.getElem?_map] at h1 ⊢
  cases hv : vs[j]? with
  | none => trivial
  | some c => rw [hv] at h1;exact h1
theorem allStab_map {T : World → World → Prop} : ∀ (vs : List Value),AllStab T (vs.map isV)
 | [] => trivial
 | c :: l => ⟨stab_isV,allStab_map l⟩
theorem wp_planS {P : Program} {Q : Exit → Act → World → Prop} {id : Nat} {l : List Oper} {a0 : Act} {w0 : World} (dsts : List (Option Tmp)) (pre : List (List Nat)) (is : List Nat) (k n : Nat)
  (hm : P.follows .mixedOrders = true) (hd : l.map (·.dst) = dsts) (hc : planOk l.toArray pre = true) (hlast : ((List.range l.length).all fun i => i == n || (pre.getD n []).contains i) = true) (his : List.range l.length = is)
  (h : ∃ b,ExL k fun vs => vs.length = l.length ∧ AllFrom (OpGoalS P dsts pre vs w0.drew b n a0) 0 l ∧ (∀ (σ : Nat → Value),PreF (vs.map isV) σ b is → Q .normal (putF dsts σ is a0) b)) (hn : n ∈ is) :
  (Code.region id l.toArray true).wp P Q a0 w0:=by
 obtain ⟨b,h⟩:=h
 obtain ⟨vs,hl,h1,h2⟩:=h.out
 have hgd : ∀ i,i < l.length → (vs.map isV).getD i (fun _ _ => True) = isV (vs.getD i undef):=fun i hi => by
  rw [List.getD_eq_getElem?_getD,List.getElem?_map,List.getD_eq_getElem?_getD,List.getElem?_eq_getElem (by omega)];rfl
 refine wp_planT dsts pre is (vs.map isV) (fun _ _ => True) (fun L w => w = if L n = true then b else w0.drew) hm hd hc rfl ?_ his (fun L σ w h3 h4 h5 => ?_) (allStab_map vs)
 ·have key : ∀ (m : List Oper) (k : Nat),k + m.length = l.length → AllFrom (OpGoalS P dsts pre vs w0.drew b n a0) k m → AllFrom (OpGoalT P dsts pre (vs.map isV) (fun _ _ => True) (fun L w => w = if L n = true then b else w0.drew) a0) k m:=by
   intro m
   induction m with
   | nil => intro k _ _;trivial
   | cons o m ih =>
    intro k hk hm
    refine ⟨?_,ih (k + 1) (by simp at hk;omega) hm.2⟩
    intro L σ w q1 q2 q3 hI hp
    have hLn : L n = false:=by
     have hkl : k < l.length:=by simp at hk;omega
     have:=List.all_eq_true.1 hlast k (by simpa using hkl)
     simp only [Bool.or_eq_true,beq_iff_eq,List.contains_iff_mem] at this
     rcases this with rfl | hmem
     ·exact q1
     ·exact q3 n hmem
    rw [hLn] at hI
    simp only [Bool.false_eq_true,if_false] at hI
    subst hI
    have hg:=hm.1 σ hp
    have hkl : k < l.length:=by simp at hk;omega
    have e : ∀ v w',PostS (vs.getD k undef) (if (k == n) = true then b else w0.drew) v w' → Post ((vs.map isV).getD k (fun _ _ => True)) (fun w => w = if upd L k n = true then b else w0.drew) (fun _ _ => True) w0.drew v w':=by
     rintro v w' ⟨e1,e2⟩
     refine ⟨by rw [hgd k hkl];exact e1,?_,trivial⟩
     rw [e2]
     unfold upd
     rw [hLn,Bool.or_false]
     by_cases hkn : k = n
     ·subst hkn;simp
     ·have : (n == k) = false:=by simp;omega
      have h2 : (k == n) = false:=by simp;omega
      rw [this,h2]
    split at hg
    ·rename_i hy;rw [if_pos hy];exact hg.mono e
    ·rename_i hy;rw [if_neg hy];exact e _ _ hg
  exact key l 0 (by simp) h1
 ·have:=h3 n hn
  rw [this] at h4
  simp only [if_true] at h4
  subst h4
  exact h2 σ h5
def Grow (w w' : World) : Prop:=RowKit.Below w.heap.size w w'
def rowV (B E k n : Nat) (xs : List Value) : Value → World → Prop:=fun v w => w.ownsRow B E k v n xs
theorem stab_rowV {B E k n : Nat} {xs : List Value} : Stab Grow (rowV B E k n xs):=by
 intro v w w' hb h
 obtain ⟨hl,h⟩:=h
 refine ⟨hl,?_⟩
 rcases h with h | ⟨g,cap,cur,hv,hg,hh,hr⟩
 ·exact .inl h
 ·have hlt : g < w.heap.size:=by
   rcases Nat.lt_or_ge g w.heap.size with h | h
   ·exact h
   ·rw [Array.getElem?_eq_none h] at hh;cases hh
  exact .inr ⟨g,cap,cur,hv,hg,(hb.block g hlt).trans hh,hr⟩
theorem allStab_nil {T : World → World → Prop} : AllStab T []:=trivial
theorem allStab_isV {T : World → World → Prop} {c : Value} {l : List (Value → World → Prop)} (h : AllStab T l) : AllStab T (isV c :: l):=⟨stab_isV,h⟩
theorem allStab_rowV {B E k n : Nat} {xs : List Value} {l : List (Value → World → Prop)} (h : AllStab Grow l) : AllStab Grow (rowV B E k n xs :: l):=⟨stab_rowV,h⟩
theorem putF_nil (dsts : List (Option Tmp)) (σ : Nat → Value) (a : Act) : putF dsts σ [] a = a:=rfl
theorem putF_cons (dsts : List (Option Tmp)) (σ : Nat → Value) (j : Nat) (l : List Nat) (a : Act) : putF dsts σ (j :: l) a = putF dsts σ l (a.put (dsts.getD j none) (σ j)):=rfl
theorem preF_nil (VP : List (Value → World → Prop)) (σ : Nat → Value) (w : World) : PreF VP σ w [] = True:=rfl
theorem preF_cons (VP : List (Value → World → Prop)) (σ : Nat → Value) (w : World) (j : Nat) (l : List Nat) : PreF VP σ w (j :: l) = (VP.getD j (fun _ _ => True) (σ j) w ∧ PreF VP σ w l):=rfl
end Go.Proofs.YtoheblfpjinmnaaGreatDoor
