import Derived.Orders
import Derived.WalkSpells
import Derived.Lib.Hide
import Derived.Test.YtfdillpofciicaaGreatDoorTopSavedJ1
import Derived.WalkLawsBesides
set_option linter.unusedVariables false
set_option linter.unusedSimpArgs false
/- A part of the proof that TopSaved returns true. -/
namespace Go.Proofs.YtfdillpofciicaaGreatDoor
open Go
def YieldsJ (P : Program) (o : Oper) (ρ : Operand → Value) (w : World) (v : Value) (J : World → Prop) : Prop :=
 match (execOp ρ o).run P w with
 | .ok (.value u) w' => u = v ∧ J w'
 | .ok .skip w' => undef = v ∧ J w'
 | .ok (.enter f args) w' => Calls P f args w' fun e w'' => e = .returned v ∧ J w''
 | _ => False
theorem YieldsJ.wp {P : Program} {o : Oper} {a : Act} {w : World} {v : Value} {J : World → Prop} {K : Act → World → Prop} {Q : Exit → Act → World → Prop}
  (h : YieldsJ P o a.eval w v J) (hK : ∀ w',J w' → K (a.put o.dst v) w') : o.wp P a w K Q:=by
 unfold Oper.wp
 unfold YieldsJ at h
 cases hr : (execOp a.eval o).run P w with
 | halt x w' => rw [hr] at h;exact h.elim
 | ok n w' =>
  rw [hr] at h
  cases n with
  | value u => obtain ⟨rfl,hj⟩:=h;exact hK _ hj
  | skip => obtain ⟨rfl,hj⟩:=h;exact hK _ hj
  | enter f args =>
   refine Calls.mono h fun e w'' he => ?_
   obtain ⟨rfl,hj⟩:=he
   exact hK _ hj
  | _ => exact h.elim
theorem YieldsJ.congr {P : Program} {o : Oper} {ρ ρ' : Operand → Value} {w : World} {v : Value} {J : World → Prop}
  (h : YieldsJ P o ρ w v J) (he : execOp ρ' o = execOp ρ o) : YieldsJ P o ρ' w v J:=by
 unfold YieldsJ at *
 rw [he];exact h
def planOk (ops : Array Oper) (pre : List (List Nat)) : Bool :=
  pre.length == ops.size && ops.toList.zipIdx.all fun (o,i) =>
    (match o.op with | .select .. => false | _ => true) &&
    o.after.toList.all (fun e => !Region.binds .any e || decide (e.on < i)) &&
    (pre.getD i []).all (fun j => decide (j < i) && o.after.toList.any (fun e => Region.binds .any e && (e.on == j || (pre.getD e.on []).contains j))) &&
    (ops.toList.zipIdx.all fun (o',j) =>
      (match o'.dst with
       | none => true
       | some t =>
         (o.dst != some t || i == j) &&
         (!(o.looksAt ops).contains t || i == j || (pre.getD i []).contains j || (pre.getD j []).contains i)))
theorem planOk_spec {ops : Array Oper} {pre : List (List Nat)} (h : planOk ops pre = true) {i : Nat} {o : Oper} (ho : ops[i]? = some o) :
  (∀ cs b,o.op ≠ .select cs b) ∧ (∀ e ∈ o.after.toList,Region.binds .any e = true → e.on < i) ∧
  (∀ j ∈ pre.getD i [],j < i ∧ ∃ e ∈ o.after.toList,Region.binds .any e = true ∧ (e.on = j ∨ j ∈ pre.getD e.on [])) ∧
  (∀ j o' t,ops[j]? = some o' → o'.dst = some t → (o.dst = some t → i = j) ∧ (t ∈ o.looksAt ops → i = j ∨ j ∈ pre.getD i [] ∨ i ∈ pre.getD j [])):=by
 unfold planOk at h
 rw [Bool.and_eq_true] at h
 have h:=h.2
 rw [List.all_eq_true] at h
 have hi : (o,i) ∈ ops.toList.zipIdx:=by
  rw [List.mk_mem_zipIdx_iff_getElem?];simpa using ho
 have h1:=h _ hi
 simp only [Bool.and_eq_true] at h1
 obtain ⟨⟨⟨h1,h2⟩,h3⟩,h4⟩:=h1
 refine ⟨?_,?_,?_,?_⟩
 ·intro cs b hs;rw [hs] at h1;cases h1
 ·intro e he hb
  have:=List.all_eq_true.1 h2 e he
  simpa [hb] using this
 ·intro j hj
  have:=List.all_eq_true.1 h3 j hj
  simp only [Bool.and_eq_true,decide_eq_true_eq,List.any_eq_true,Bool.or_eq_true,beq_iff_eq,List.contains_iff_mem] at this
  exact ⟨this.1,this.2⟩
 ·intro j o' t hj hd
  have hm : (o',j) ∈ ops.toList.zipIdx:=by rw [List.mk_mem_zipIdx_iff_getElem?];simpa using hj
  have:=List.all_eq_true.1 h4 _ hm
  simp only [hd,Bool.and_eq_true,Bool.or_eq_true,bne_iff_ne,beq_iff_eq,List.contains_iff_mem,Bool.not_eq_true',] at this
  obtain ⟨a,b⟩:=this
  refine ⟨fun he => a.resolve_left (by simp [he]),fun ht => ?_⟩
  rcases b with ((b | b) | b) | b
  ·have hc : (o.looksAt ops).contains t = true:=by simpa using ht
   rw [hc] at b;cases b
  ·exact .inl b
  ·exact .inr (.inl b)
  ·exact .inr (.inr b)
structure AtPlan (ops : Array Oper) (vals : Nat → Value) (a0 a : Act) (L : Nat → Bool) : Prop where
 defers : a.defers = a0.defers
 size : a.tmps.size = a0.tmps.size
 new : ∀ i o t,ops[i]? = some o → o.dst = some t → L i = true → t < a.tmps.size → a.tmps[t]? = some (vals i)
 old : ∀ t,(∀ i o,ops[i]? = some o → o.dst = some t → L i = false) → a.tmps[t]? = a0.tmps[t]?
theorem AtPlan.same {ops : Array Oper} {vals : Nat → Value} {a0 a a' : Act} {L : Nat → Bool} (h : AtPlan ops vals a0 a L) (h' : AtPlan ops vals a0 a' L) : a = a':=by
 have ht : a.tmps = a'.tmps:=by
  apply Array.ext_getElem?
  intro t
  by_cases hw : ∃ i o,ops[i]? = some o ∧ o.dst = some t ∧ L i = true
  ·obtain ⟨i,o,h1,h2,h3⟩:=hw
   by_cases hs : t < a.tmps.size
   ·rw [h.new i o t h1 h2 h3 hs,h'.new i o t h1 h2 h3 (by rw [h'.size,← h.size];exact hs)]
   ·rw [Array.getElem?_eq_none (by omega),Array.getElem?_eq_none (by rw [h'.size,← h.size];omega)]
  ·have : ∀ i o,ops[i]? = some o → o.dst = some t → L i = false:=by
    intro i o h1 h2
    cases h3 : L i with
    | false => rfl
    | true => exact (hw ⟨i,o,h1,h2,h3⟩).elim
   rw [h.old t this,h'.old t this]
 cases a;cases a'
 simp only [Act.mk.injEq]
 exact ⟨ht,h.defers.trans h'.defers.symm⟩
def upd (L : Nat → Bool) (i : Nat) : Nat → Bool:=fun j => j == i || L j
theorem AtPlan.put {ops : Array Oper} {vals : Nat → Value} {a0 a : Act} {L : Nat → Bool} (h : AtPlan ops vals a0 a L) {i : Nat} {o : Oper} (ho : ops[i]? = some o)
  (hd : ∀ j o' t,ops[j]? = some o' → o'.dst = some t → o.dst = some t → i = j) : AtPlan ops vals a0 (a.put o.dst (vals i)) (upd L i):=by
 cases hdst : o.dst with
 | none =>
  simp only [Act.put]
  refine ⟨h.defers,h.size,fun j o' t hj ht hl hs => ?_,fun t ht => h.old t fun j o' hj hd' => ?_⟩
  ·by_cases hji : j = i
   ·subst hji;rw [ho] at hj;cases hj;rw [hdst] at ht;cases ht
   ·exact h.new j o' t hj ht (by simpa [upd,hji] using hl) hs
  ·have:=ht j o' hj hd'
   simp [upd] at this;exact this.2
 | some d =>
  simp only [Act.put]
  refine ⟨h.defers,by simpa using h.size,fun j o' t hj ht hl hs => ?_,fun t ht => ?_⟩
  ·by_cases hji : j = i
   ·subst hji;rw [ho] at hj;cases hj;rw [hdst] at ht;cases ht
    simp at hs
    simp [hs]
   ·have hne : d ≠ t:=fun e => hji (hd j o' t hj ht (by rw [hdst,e])).symm
    rw [Array.getElem?_setIfInBounds_ne hne]
    exact h.new j o' t hj ht (by simpa [upd,hji] using hl) (by simpa using hs)
  ·have hne : d ≠ t:=fun e => by
    have:=ht i o ho (by rw [hdst,e]);simp [upd] at this
   rw [Array.getElem?_setIfInBounds_ne hne]
   refine h.old t fun j o' hj hd' => ?_
   have:=ht j o' hj hd'
   simp [upd] at this;exact this.2
theorem AtPlan.start (ops : Array Oper) (vals : Nat → Value) (a0 : Act) : AtPlan ops vals a0 a0 (fun _ => false) :=
 ⟨rfl,rfl,fun _ _ _ _ _ h => by simp at h,fun _ _ => rfl⟩
def putAll (ops : Array Oper) (vals : Nat → Value) : List Nat → Act → Act
 | [],a => a
 | j :: l,a => putAll ops vals l (match ops[j]? with | some o => a.put o.dst (vals j) | none => a)
theorem atPlan_putAll {ops : Array Oper} {vals : Nat → Value} {pre : List (List Nat)} (hc : planOk ops pre = true) {a0 : Act} : ∀ (l : List Nat) (a : Act) (L : Nat → Bool),AtPlan ops vals a0 a L →
  (∀ j ∈ l,j < ops.size) → AtPlan ops vals a0 (putAll ops vals l a) (fun j => l.contains j || L j):=by
 intro l
 induction l with
 | nil => intro a L h _;simpa [putAll] using h
 | cons j l ih =>
  intro a L h hl
  have hj : j < ops.size:=hl j (by simp)
  have ho : ops[j]? = some ops[j]:=Array.getElem?_eq_getElem hj
  have h1:=ih _ _ (h.put ho (fun j' o' t h1 h2 h3 => ((planOk_spec hc ho).2.2.2 j' o' t h1 h2).1 h3)) (fun k hk => hl k (by simp [hk]))
  simp only [putAll,ho]
  have he : (fun k => l.contains k || upd L j k) = fun k => (j :: l).contains k || L k:=by
   funext k
   simp only [upd,List.contains_cons]
   rw [← Bool.or_assoc,Bool.or_comm (l.contains k)]
  rw [he] at h1;exact h1
section
variable {P : Program} {ops : Array Oper} {Q : Exit → Act → World → Prop}
def seesOf (ops : Array Oper) (vals : Nat → Value) (pre : List (List Nat)) (a0 : Act) (i : Nat) : Act:=putAll ops vals (pre.getD i []) a0
def OpGoal (P : Program) (ops : Array Oper) (vals : Nat → Value) (pre : List (List Nat)) (I : (Nat → Bool) → World → Prop) (a0 : Act) (i : Nat) (o : Oper) : Prop :=
 ∀ (L : Nat → Bool) (w : World),L i = false → (∀ j ∈ pre.getD i [],L j = true) → (∀ k,i ∈ pre.getD k [] → L k = false) → I L w →
  if Region.wanted o (yielded ops (seesOf ops vals pre a0 i).tmps) = true then YieldsJ P o (seesOf ops vals pre a0 i).eval w (vals i) (I (upd L i))
  else undef = vals i ∧ I (upd L i) w
theorem wpAny_plan {pre : List (List Nat)} {vals : Nat → Value} {I : (Nat → Bool) → World → Prop} {a0 : Act} (hc : planOk ops pre = true)
  (hops : ∀ i o,ops[i]? = some o → OpGoal P ops vals pre I a0 i o)
  (hend : ∀ (L : Nat → Bool) a w,(∀ i,i < ops.size → L i = true) → AtPlan ops vals a0 a L → I L w → Q .normal a w) :
  ∀ (fuel : Nat) (listed : Array Bool) (a : Act) (w : World),listed.size = ops.size → (listed.toList.filter (fun b => !b)).length ≤ fuel →
   (∀ i,i < ops.size → listed.getD i false = true → ∀ j ∈ pre.getD i [],listed.getD j false = true) →
   AtPlan ops vals a0 a (fun j => listed.getD j false) → I (fun j => listed.getD j false) w → wpAny P .any ops Q fuel listed a w:=by
 -- nothing is ready: all is listed
 have hnil : ∀ listed : Array Bool,listed.size = ops.size → Region.ready .any ops listed = [] → ∀ i,i < ops.size → listed.getD i false = true:=by
  intro listed hsz hr i
  induction i using Nat.strongRecOn with
  | ind i ih =>
   intro hi
   cases hl : listed.getD i false with
   | true => rfl
   | false =>
    exfalso
    have : i ∈ Region.ready .any ops listed:=by
     rw [Region.ready,List.mem_filter]
     refine ⟨by simpa using hi,?_⟩
     have ho : ops[i]? = some ops[i]:=Array.getElem?_eq_getElem hi
     have hl' : listed.getD i true = false:=by
      have hs : i < listed.size:=by omega
      simp only [Array.getD,hs,dif_pos] at hl ⊢;exact hl
     simp only [hl',Bool.not_false,Bool.true_and,ho,Option.map_some,Option.getD_some,Array.all_eq_true']
     intro e he
     cases hb : Region.binds .any e with
     | false => rfl
     | true =>
      have hlt:=(planOk_spec hc ho).2.1 e (by simpa using he) hb
      have:=ih e.on hlt (by omega)
      simp [this]
    rw [hr] at this;cases this
 intro fuel
 induction fuel with
 | zero =>
  intro listed a w hsz hf hcl hp hI
  have hall : ∀ i,i < ops.size → listed.getD i false = true:=by
   intro i hi
   have hs : i < listed.size:=by omega
   have h0 : listed.toList.filter (fun b => !b) = []:=List.eq_nil_of_length_eq_zero (by omega)
   have:=List.filter_eq_nil_iff.1 h0 listed[i] (by simp)
   simp only [Array.getD,hs,dif_pos]
   simpa using this
  refine ⟨?_,hend _ a w hall hp hI⟩
  rw [List.eq_nil_iff_forall_not_mem]
  intro i hi
  rw [Region.ready,List.mem_filter] at hi
  have h1 : i < ops.size:=by simpa using hi.1
  have:=hall i h1
  have hs : i < listed.size:=by omega
  have h3 : listed.getD i true = true:=by
   simp only [Array.getD,hs,dif_pos] at this ⊢;exact this
  rw [h3] at hi
  simp at hi
 | succ fuel ih =>
  intro listed a w hsz hf hcl hp hI
  refine ⟨fun hr => hend _ a w (hnil listed hsz hr) hp hI,fun i hi => ?_⟩
  rw [Region.ready,List.mem_filter] at hi
  obtain ⟨h1,h2⟩:=hi
  have hi : i < ops.size:=by simpa using h1
  have hs : i < listed.size:=by omega
  have ho : ops[i]? = some ops[i]:=Array.getElem?_eq_getElem hi
  simp only [ho,Option.map_some,Option.getD_some,Bool.and_eq_true,Bool.not_eq_true',Array.all_eq_true'] at h2
  obtain ⟨hl0,hedge⟩:=h2
  have hl : listed.getD i false = false:=by
   simp only [Array.getD,hs,dif_pos] at hl0 ⊢;exact hl0
  have hspec:=planOk_spec hc ho
  have hpre : ∀ j ∈ pre.getD i [],listed.getD j false = true:=by
   intro j hj
   obtain ⟨hjn,e,he,hb,hej⟩:=hspec.2.2.1 j hj
   have hon:=hspec.2.1 e he hb
   have hle : listed.getD e.on false = true:=by
    have:=hedge e (by simpa using he)
    simp only [hb,Bool.not_true,Bool.false_or] at this
    exact this
   rcases hej with rfl | hej
   ·exact hle
   ·exact hcl e.on (by omega) hle j hej
  have hlen : pre.length = ops.size:=by
   unfold planOk at hc
   rw [Bool.and_eq_true] at hc
   simpa using hc.1
  have hpost : ∀ k,i ∈ pre.getD k [] → listed.getD k false = false:=by
   intro k hk
   have hkn : k < ops.size:=by
    rcases Nat.lt_or_ge k ops.size with h | h
    ·exact h
    ·rw [List.getD_eq_getElem?_getD,List.getElem?_eq_none (by omega)] at hk;cases hk
   cases hlk : listed.getD k false with
   | false => rfl
   | true =>
    have:=hcl k hkn hlk i hk
    rw [hl] at this;cases this
  have hgoal:=hops i ops[i] ho (fun j => listed.getD j false) w hl hpre hpost hI
  have hsees : AtPlan ops vals a0 (seesOf ops vals pre a0 i) (fun j => (pre.getD i []).contains j):=by
   have:=atPlan_putAll (vals:=vals) hc (pre.getD i []) a0 (fun _ => false) (AtPlan.start ops vals a0) (fun j hj => Nat.lt_trans (hspec.2.2.1 j hj).1 hi)
   simp only [Bool.or_false] at this;exact this
  have hslot : ∀ t ∈ ops[i].looksAt ops,a.tmps[t]? = (seesOf ops vals pre a0 i).tmps[t]?:=by
   intro t ht
   by_cases hw : ∃ (j : Nat) (o' : Oper),ops[j]? = some o' ∧ o'.dst = some t
   ·obtain ⟨j,o',hj,hd⟩:=hw
    have hone : ∀ (j' : Nat) (o'' : Oper),ops[j']? = some o'' → o''.dst = some t → j' = j:=fun j' o'' h1 h2 => ((planOk_spec hc h1).2.2.2 j o' t hj hd).1 h2
    have hnot : listed.getD j false = false → (pre.getD i []).contains j = false → a.tmps[t]? = (seesOf ops vals pre a0 i).tmps[t]?:=by
     intro h1 h2
     rw [hp.old t (fun j' o'' h3 h4 => by rw [hone j' o'' h3 h4];exact h1),hsees.old t (fun j' o'' h3 h4 => by rw [hone j' o'' h3 h4];exact h2)]
    rcases (hspec.2.2.2 j o' t hj hd).2 ht with rfl | hin | hin
    ·refine hnot hl ?_
     cases hcn : (pre.getD i []).contains i with
     | false => rfl
     | true => exact absurd (hspec.2.2.1 i (by simpa using hcn)).1 (by omega)
    ·by_cases hs' : t < a.tmps.size
     ·rw [hp.new j o' t hj hd (hpre j hin) hs',hsees.new j o' t hj hd (by simpa using hin) (by rw [hsees.size,← hp.size];exact hs')]
     ·have hle : a.tmps.size ≤ t:=Nat.le_of_not_lt hs'
      have e1 : a.tmps[t]? = none:=Array.getElem?_eq_none hle
      have hsz':=hsees.size
      have hsz'':=hp.size
      have e2 : (seesOf ops vals pre a0 i).tmps[t]? = none:=Array.getElem?_eq_none (by rw [hsz',← hsz''];exact hle)
      rw [e1,e2]
    ·refine hnot (hpost j hin) ?_
     have hij : i < j:=((planOk_spec hc hj).2.2.1 i hin).1
     cases hcn : (pre.getD i []).contains j with
     | false => rfl
     | true => exact absurd (hspec.2.2.1 j (by simpa using hcn)).1 (by omega)
   ·have hno : ∀ (j : Nat) (o' : Oper),ops[j]? = some o' → o'.dst = some t → False:=fun j o' h1 h2 => hw ⟨j,o',h1,h2⟩
    rw [hp.old t (fun j o' h1 h2 => (hno j o' h1 h2).elim),hsees.old t (fun j o' h1 h2 => (hno j o' h1 h2).elim)]
  have hexec : execOp a.eval ops[i] = execOp (seesOf ops vals pre a0 i).eval ops[i]:=by
   refine execOp_congr ops[i] hspec.1 fun x hx => ?_
   cases x with
   | tmp t =>
    have : t ∈ ops[i].looksAt ops:=by
     unfold Oper.looksAt
     rw [List.mem_append]
     left
     rw [List.mem_filterMap]
     exact ⟨_,by simpa using hx,rfl⟩
    have:=hslot t this
    simp only [Act.eval,Array.getD_eq_getD_getElem?,this]
   | _ => rfl
  have hwant : Region.wanted ops[i] (yielded ops a.tmps) = Region.wanted ops[i] (yielded ops (seesOf ops vals pre a0 i).tmps):=by
   unfold Region.wanted
   cases hg : ops[i].guard with
   | none => rfl
   | some gw =>
    obtain ⟨g,want⟩:=gw
    simp only []
    congr 1
    unfold yielded
    cases hgd : (ops[g]?).bind (·.dst) with
    | none => simp
    | some t =>
     have : t ∈ ops[i].looksAt ops:=by
      unfold Oper.looksAt
      rw [List.mem_append]
      right
      simp [hg,hgd]
     have:=hslot t this
     simp only [Option.bind_some,this]
  have hL : (fun j => (listed.setIfInBounds i true).getD j false) = upd (fun j => listed.getD j false) i:=by
   funext j
   by_cases hj : j = i
   ·subst hj;simp [upd,hs]
   ·have : (listed.setIfInBounds i true)[j]? = listed[j]?:=Array.getElem?_setIfInBounds_ne (fun e => hj e.symm)
    simp [upd,hj,Array.getD_eq_getD_getElem?,this]
  have hcount : ((listed.setIfInBounds i true).toList.filter (fun b => !b)).length ≤ fuel:=by
   have h0 : listed.toList[i]'(by simpa using hs) = false:=by
    simp only [Array.getD,hs,dif_pos] at hl
    simpa using hl
   rw [Array.toList_setIfInBounds]
   have h1 : listed.toList = listed.toList.take i ++ false :: listed.toList.drop (i + 1):=by
    rw [← h0,List.getElem_cons_drop,List.take_append_drop]
   have h2 : listed.toList.set i true = listed.toList.take i ++ true :: listed.toList.drop (i + 1):=by
    rw [List.set_eq_take_append_cons_drop,if_pos (by simpa using hs)]
   rw [h1] at hf
   rw [h2]
   simp only [List.filter_append,List.length_append,List.filter_cons,Bool.not_false,Bool.not_true,if_true,List.length_cons] at hf ⊢
   simp only [Bool.false_eq_true,if_false]
   omega
  have hcl' : ∀ k,k < ops.size → (listed.setIfInBounds i true).getD k false = true → ∀ j ∈ pre.getD k [],(listed.setIfInBounds i true).getD j false = true:=by
   intro k hk h1 j hj
   have e1 : (listed.setIfInBounds i true).getD k false = upd (fun j => listed.getD j false) i k:=congrFun hL k
   have e2 : (listed.setIfInBounds i true).getD j false = upd (fun j => listed.getD j false) i j:=congrFun hL j
   rw [e1] at h1
   rw [e2]
   simp only [upd,Bool.or_eq_true,beq_iff_eq] at h1 ⊢
   rcases h1 with rfl | h1
   ·exact .inr (hpre j hj)
   ·exact .inr (hcl k hk h1 j hj)
  have hnext : ∀ w',I (upd (fun j => listed.getD j false) i) w' → wpAny P .any ops Q fuel (listed.setIfInBounds i true) (a.put ops[i].dst (vals i)) w':=by
   intro w' hw'
   refine ih _ _ _ (by simpa using hsz) hcount hcl' ?_ ?_
   ·rw [hL]
    exact hp.put ho (fun j' o' t h1 h2 h3 => (hspec.2.2.2 j' o' t h1 h2).1 h3)
   ·rw [hL];exact hw'
  unfold wpOp
  simp only [ho,hwant]
  split
  ·rename_i hy
   rw [if_pos hy] at hgoal
   exact .inl ((hgoal.congr hexec).wp hnext)
  ·rename_i hy
   rw [if_neg hy] at hgoal
   rw [hgoal.1]
   exact hnext w hgoal.2
theorem wp_region_plan {id : Nat} {a0 : Act} {w0 : World} {pre : List (List Nat)} (vals : List Value) (I : (Nat → Bool) → World → Prop) (hm : P.follows .mixedOrders = true)
  (hc : planOk ops pre = true) (h0 : I (fun _ => false) w0.drew)
  (hops : ∀ i o,ops[i]? = some o → OpGoal P ops (fun i => vals.getD i undef) pre I a0 i o)
  (hend : ∀ (L : Nat → Bool) w,(∀ i,i < ops.size → L i = true) → I L w → Q .normal (putAll ops (fun i => vals.getD i undef) (List.range ops.size) a0) w) :
  (Code.region id ops true).wp P Q a0 w0:=by
 refine wp_region_any hm ?_
 refine wpAny_plan hc hops (fun L a w hL ha hI => ?_) ops.size _ a0 _ (by simp) (by simp) (fun i hi h => ?_) ?_ ?_
 ·have h1:=atPlan_putAll (vals:=fun i => vals.getD i undef) hc (List.range ops.size) a0 (fun _ => false) (AtPlan.start ops _ a0) (fun j hj => by simpa using hj)
  have he : a = putAll ops (fun i => vals.getD i undef) (List.range ops.size) a0:=by
   refine AtPlan.same (L:=fun j => decide (j < ops.size)) ⟨ha.defers,ha.size,fun i o t h1 h2 h3 h4 => ha.new i o t h1 h2 (hL i (by simpa using h3)) h4,fun t ht => ha.old t fun i o h1 h2 => ?_⟩ ?_
   ·have:=ht i o h1 h2
    have hi:=(Array.getElem?_eq_some_iff.1 h1).1
    simp at this;omega
   ·simpa using h1
  rw [he]
  exact hend L w hL hI
 ·simp [Array.getD] at h
 ·refine ⟨rfl,rfl,fun i o t h1 _ h3 _ => ?_,fun t _ => rfl⟩
  have hi:=(Array.getElem?_eq_some_iff.1 h1).1
  simp [Array.getD,hi] at h3
 ·have : (fun j => (Array.replicate ops.size false).getD j false) = fun _ => false:=by
   funext j
   simp [Array.getD]
  rw [this]
  exact h0
end
def AllFrom (p : Nat → Oper → Prop) : Nat → List Oper → Prop
 | _,[] => True
 | k,o :: l => p k o ∧ AllFrom p (k + 1) l
theorem AllFrom.get {p : Nat → Oper → Prop} : ∀ (l : List Oper) (k : Nat),AllFrom p k l → ∀ (i : Nat) (o : Oper),l[i]? = some o → p (k + i) o
 | [],_,_,i,o,h => by simp at h
 | o' :: l,k,h,0,o,ho => by
  simp at ho;subst ho;exact h.1
 | o' :: l,k,h,i + 1,o,ho => by
  have:=AllFrom.get l (k + 1) h.2 i o (by simpa using ho)
  rw [show k + (i + 1) = k + 1 + i by omega];exact this
def putL (dsts : List (Option Tmp)) (vals : List Value) : List Nat → Act → Act
 | [],a => a
 | j :: l,a => putL dsts vals l (a.put (dsts.getD j none) (vals.getD j undef))
theorem putAll_eq_putL {l : List Oper} {dsts : List (Option Tmp)} {vals : List Value} (hd : l.map (·.dst) = dsts) : ∀ (is : List Nat) (a : Act),
  putAll l.toArray (fun i => vals.getD i undef) is a = putL dsts vals is a:=by
 intro is
 induction is with
 | nil => intro a;rfl
 | cons j is ih =>
  intro a
  have h : (match l.toArray[j]? with | some o => a.put o.dst (vals.getD j undef) | none => a) = a.put (dsts.getD j none) (vals.getD j undef):=by
   subst hd
   rw [List.getElem?_toArray]
   cases hj : l[j]? with
   | none => simp [hj,Act.put]
   | some o => simp [hj]
  rw [putAll,putL,← h]
  exact ih _
def wantedL (dsts : List (Option Tmp)) (a : Act) (g : Option (Nat × Bool)) : Bool :=
 match g with
 | none => true
 | some (j,want) => (match dsts.getD j none with | some t => (match a.tmps.getD t undef with | .bool b => some b | _ => none) | none => none) == some want
theorem wanted_eq_wantedL {l : List Oper} {dsts : List (Option Tmp)} (hd : l.map (·.dst) = dsts) (o : Oper) (a : Act) :
  Region.wanted o (yielded l.toArray a.tmps) = wantedL dsts a o.guard:=by
 subst hd
 unfold Region.wanted wantedL
 cases o.guard with
 | none => rfl
 | some gw =>
  obtain ⟨j,want⟩:=gw
  simp only [yielded,eA,List.getD_eq_getElem?_getD,List.getElem?_map]
  cases hj : l[j]? with
  | none => simp
  | some o =>
   simp only [Option.bind_some,Option.map_some,Option.getD_some]
   cases ht : o.dst with
   | none => simp
   | some t =>
    simp only [Option.bind_some,Array.getD_eq_getD_getElem?]
    cases hv : a.tmps[t]? with
    | none => simp [undef]
    | some v => cases v <;> simp
def OpGoalL (P : Program) (dsts : List (Option Tmp)) (vals : List Value) (pre : List (List Nat)) (I : (Nat → Bool) → World → Prop) (a0 : Act) (i : Nat) (o : Oper) : Prop :=
 ∀ (L : Nat → Bool) (w : World),L i = false → (∀ j ∈ pre.getD i [],L j = true) → (∀ k,i ∈ pre.getD k [] → L k = false) → I L w →
  if wantedL dsts (putL dsts vals (pre.getD i []) a0) o.guard = true then YieldsJ P o (putL dsts vals (pre.getD i []) a0).eval w (vals.getD i undef) (I (upd L i))
  else undef = vals.getD i undef ∧ I (upd L i) w
theorem wp_plan {P : Program} {Q : Exit → Act → World → Prop} {id : Nat} {l : List Oper} {a0 : Act} {w0 : World} (dsts : List (Option Tmp)) (pre : List (List Nat)) (vals : List Value) (I : (Nat → Bool) → World → Prop)
  (hm : P.follows .mixedOrders = true) (hd : l.map (·.dst) = dsts) (hc : planOk l.toArray pre = true) (h0 : I (fun _ => false) w0.drew)
  (hops : AllFrom (OpGoalL P dsts vals pre I a0) 0 l)
  (hend : ∀ (L : Nat → Bool) w,(∀ i,i < l.length → L i = true) → I L w → Q .normal (putL dsts vals (List.range l.length) a0) w) :
  (Code.region id l.toArray true).wp P Q a0 w0:=by
 refine wp_region_plan vals I hm hc h0 (fun i o ho => ?_) (fun L w hL hI => ?_)
 ·have h:=AllFrom.get l 0 hops i o (by simpa using ho)
  rw [Nat.zero_add] at h
  intro L w h1 h2 h3 h4
  have h5:=h L w h1 h2 h3 h4
  unfold seesOf
  rw [putAll_eq_putL hd,wanted_eq_wantedL hd]
  exact h5
 ·rw [putAll_eq_putL hd]
  exact hend L w (by simpa using hL) hI
section
variable {P : Program} {o : Oper} {ρ : Operand → Value} {w : World} {v : Value} {J : World → Prop}
theorem yj_run (h : (execOp ρ o).run P w = .ok (.value v) w) (hj : J w) : YieldsJ P o ρ w v J:=by
 unfold YieldsJ;rw [h];exact ⟨rfl,hj⟩
end
section
variable {P : Program} {dsts : List (Option Tmp)} {vals : List Value} {pre : List (List Nat)} {I : (Nat → Bool) → World → Prop} {a0 : Act} {i : Nat} {o : Oper}
end
def OpGoalM (P : Program) (dsts : List (Option Tmp)) (vals : List Value) (pre : List (List Nat)) (I : World → Prop) (a0 : Act) (i : Nat) (o : Oper) : Prop :=
 ∀ (w : World),I w → if wantedL dsts (putL dsts vals (pre.getD i []) a0) o.guard = true then YieldsJ P o (putL dsts vals (pre.getD i []) a0).eval w (vals.getD i undef) I
  else undef = vals.getD i undef
theorem wp_planM {P : Program} {Q : Exit → Act → World → Prop} {id : Nat} {l : List Oper} {a0 : Act} {w0 : World} (dsts : List (Option Tmp)) (pre : List (List Nat)) (vals : List Value) (I : World → Prop)
  (hm : P.follows .mixedOrders = true) (hd : l.map (·.dst) = dsts) (hc : planOk l.toArray pre = true) (h0 : I w0.drew)
  (hops : AllFrom (OpGoalM P dsts vals pre I a0) 0 l)
  (hend : ∀ w,I w → Q .normal (putL dsts vals (List.range l.length) a0) w) :
  (Code.region id l.toArray true).wp P Q a0 w0:=by
 refine wp_plan dsts pre vals (fun _ => I) hm hd hc h0 ?_ (fun _ w _ h => hend w h)
 have key : ∀ (l : List Oper) (k : Nat),AllFrom (OpGoalM P dsts vals pre I a0) k l → AllFrom (OpGoalL P dsts vals pre (fun _ => I) a0) k l:=by
  intro l
  induction l with
  | nil => intro k _;trivial
  | cons o l ih =>
   intro k h
   refine ⟨fun L w _ _ _ hI => ?_,ih (k + 1) h.2⟩
   have:=h.1 w hI
   split at this
   ·rename_i hw;rw [if_pos hw];exact this
   ·rename_i hw;rw [if_neg hw];exact ⟨this,hI⟩
 exact key l 0 hops
theorem AllFrom.cons_eq {p : Nat → Oper → Prop} {k : Nat} {o : Oper} {l : List Oper} : AllFrom p k (o :: l) = (p k o ∧ AllFrom p (k + 1) l):=rfl
theorem AllFrom.nil_eq {p : Nat → Oper → Prop} {k : Nat} : AllFrom p k [] = True:=rfl
theorem putL_nil (dsts : List (Option Tmp)) (vals : List Value) (a : Act) : putL dsts vals [] a = a:=rfl
theorem putL_cons (dsts : List (Option Tmp)) (vals : List Value) (j : Nat) (l : List Nat) (a : Act) : putL dsts vals (j :: l) a = putL dsts vals l (a.put (dsts.getD j none) (vals.getD j undef)):=rfl
theorem wantedL_none (dsts : List (Option Tmp)) (a : Act) : wantedL dsts a none = true:=rfl
theorem wantedL_some (dsts : List (Option Tmp)) (a : Act) (j : Nat) (b : Bool) : wantedL dsts a (some (j,b)) =
 ((match dsts.getD j none with | some t => (match a.tmps.getD t undef with | .bool b => some b | _ => none) | none => none) == some b):=rfl
end Go.Proofs.YtfdillpofciicaaGreatDoor
namespace Go.Proofs.YtfdillpofciicaaGreatDoor
open Go.RowKit
theorem mixed : Tryz.prog.follows .mixedOrders = true:=by kernel_rfl
def isSetB (m : Int) : Bool:=decide (0 ≤ m) && decide (m ≤ 255)
theorem isSetB_t (m : Int) (h0 : 0 ≤ m) (h1 : m ≤ 255) : isSetB m = true:=by simp [isSetB,h0,h1]
theorem isSetB_f1 (m : Int) (h0 : m < 0) : isSetB m = false:=by simp [isSetB];omega
theorem isSetB_f2 (m : Int) (h0 : 255 < m) : isSetB m = false:=by simp [isSetB];omega
set_option maxHeartbeats 400000 in
theorem isSet_any (m : Int) (w : World) :
  Calls Tryz.prog 131 #[.int .i64 m] w fun e w' => e = .returned (.bool (isSetB m)) ∧ w = w':=by
 by_cases h0 : 0 ≤ m
 ·by_cases h1 : m ≤ 255
  ·have hs:=Lib.hid (isSetB_t m h0 h1)
   go_enter Tryz.func131,Tryz.ntmps131
   go_wp2
   go_ret
   exact ⟨by rw [hs.out];rfl,rfl⟩
  ·have hs:=Lib.hid (isSetB_f2 m (by omega))
   go_enter Tryz.func131,Tryz.ntmps131
   go_wp2
   go_ret
   exact ⟨by rw [hs.out];rfl,rfl⟩
 ·have hs:=Lib.hid (isSetB_f1 m (by omega))
  go_enter Tryz.func131,Tryz.ntmps131
  go_wp2
  go_ret
  exact ⟨by rw [hs.out];rfl,rfl⟩
def qcheck (a b c : Int) : Int:=if isSetB a && isSetB b && isSetB c then 0 else 1
set_option maxHeartbeats 400000 in
theorem checkQuery_any (a b c : Int) (w : World) :
  Calls Tryz.prog 80 #[.agg #[.int .i64 a,.int .i64 b,.int .i64 c]] w fun e w' => e = .returned (.int .i64 (qcheck a b c)) ∧ Below w.heap.size w w':=by
 have fin : qcheck a b c = if isSetB a && isSetB b && isSetB c then 0 else 1:=rfl
 generalize qcheck a b c = r at *
 generalize ha : isSetB a = x at *
 generalize hb : isSetB b = y at *
 generalize hc : isSetB c = z at *
 obtain ⟨Ha,Hb,Hc⟩:=hid3 ha hb hc
 clear ha hb hc
 have Hf:=Lib.hid fin;clear fin
 cases x <;> cases y <;> cases z
 all_goals
  go_enter Tryz.func80,Tryz.ntmps80
  go_wp2_with (go_at_call 131;refine (isSet_any _ _).mono ?_;rintro e w' ⟨rfl,rfl⟩;simp only [Ha.out,Hb.out,Hc.out])
  go_ret
  exact ⟨by simp [Hf.out],(Below.refl _ _).alloc (Nat.le_refl _) _⟩
attribute [local go_sem] AllFrom.cons_eq AllFrom.nil_eq putL_nil putL_cons wantedL_none wantedL_some OpGoalM YieldsJ
set_option maxHeartbeats 400000 in
theorem matches_any (m n t a : Int) (w : World) :
  Calls Tryz.prog 83 #[.int .i64 m,.agg #[.int .i64 n,.int .i64 t,.int .i64 a]] w fun e w' => e = .returned (.bool (matchesB m n t a)) ∧ Below w.heap.size w w':=by
 have hf : matchesB m n t a = ((bits .and .i64 m n == n) && (bits .and .i64 m t == 0) && (a == 0 || bits .and .i64 m a != 0)):=rfl
 generalize matchesB m n t a = r at *
 generalize h1 : (bits .and .i64 m n == n) = b1 at *
 generalize h2 : (bits .and .i64 m t == 0) = b2 at *
 generalize h3 : (a == 0) = b3 at *
 generalize h4 : (bits .and .i64 m a != 0) = b4 at *
 have Hf:=Lib.hid hf;clear hf
 cases b1 <;> cases b2 <;> cases b3 <;> cases b4
 all_goals
  go_enter Tryz.func83,Tryz.ntmps83
  go_wp2
  go_ret
  exact ⟨by simp [Hf.out],(Below.refl _ _).alloc (Nat.le_refl _) _⟩
def pw (k : Nat) : Int:=((2 ^ k : Nat) : Int)

def hasK (m : Int) (k : Nat) : Bool:=(m % 256).toNat.testBit k
def beastGo (K : Int) : Nat → List Int → Int
 | _,[] => 0
 | k,v :: vs => if hasK K k = false ∧ v ≠ 0 then 4 else if v < -1000000000 ∨ 1000000000 < v then 1 else beastGo K (k + 1) vs
def beastE (K : Int) (vs : List Int) : Int:=if isSetB K = true then beastGo K 0 vs else 1
theorem beastGo_drop (K : Int) (vs : List Int) (k : Nat) (h : k < vs.length) :
  beastGo K k (vs.drop k) = if hasK K k = false ∧ vs[k] ≠ 0 then 4 else if vs[k] < -1000000000 ∨ 1000000000 < vs[k] then 1 else beastGo K (k + 1) (vs.drop (k + 1)):=by
 rw [List.drop_eq_getElem_cons h,beastGo]
theorem beastGo_end (K : Int) (vs : List Int) (k : Nat) (h : vs.length ≤ k) : beastGo K k (vs.drop k) = 0:=by
 rw [List.drop_eq_nil_of_le h,beastGo]
theorem index8 (a0 a1 a2 a3 a4 a5 a6 a7 : Int) (k : Nat) (hk : k < [a0,a1,a2,a3,a4,a5,a6,a7].length) (w : World) :
  (Instr.index 43 (.agg #[.int .i64 a0,.int .i64 a1,.int .i64 a2,.int .i64 a3,.int .i64 a4,.int .i64 a5,.int .i64 a6,.int .i64 a7]) (.int .i64 k)).run Tryz.prog w = .ok (.int .i64 ([a0,a1,a2,a3,a4,a5,a6,a7][k])) w:=by
 match k,hk with
 | 0,_ => exact (by show _ = _;kernel_rfl)
 | 1,_ => exact (by show _ = _;kernel_rfl)
 | 2,_ => exact (by show _ = _;kernel_rfl)
 | 3,_ => exact (by show _ = _;kernel_rfl)
 | 4,_ => exact (by show _ = _;kernel_rfl)
 | 5,_ => exact (by show _ = _;kernel_rfl)
 | 6,_ => exact (by show _ = _;kernel_rfl)
 | 7,_ => exact (by show _ = _;kernel_rfl)
 | k + 8,h => exact absurd h (by simp)
theorem isSetB_nat {K : Int} (h : isSetB K = true) : ∃ m : Nat,K = m ∧ m < 256:=by
 simp only [isSetB,Bool.and_eq_true,decide_eq_true_eq] at h
 exact ⟨K.toNat,by omega,by omega⟩
theorem hasK_nat (m k : Nat) (h : m < 256) : hasK m k = m.testBit k:=by
 unfold hasK
 have : ((m : Int) % 256).toNat = m:=by omega
 rw [this]
theorem and_bit0 : ∀ m : Fin 256,∀ x : Fin 8,(bits .and .i64 ((m.val : Int) / 2 ^ x.val) 1 == 0) = !m.val.testBit x.val:=by decide +kernel
set_option maxHeartbeats 1000000 in
theorem checkBeast_any (K a0 a1 a2 a3 a4 a5 a6 a7 : Int) (w : World) :
  Calls Tryz.prog 93 #[.agg #[.int .i64 K,.int .i64 a0,.int .i64 a1,.int .i64 a2,.int .i64 a3,.int .i64 a4,.int .i64 a5,.int .i64 a6,.int .i64 a7]] w fun e w' => e = .returned (.int .i64 (beastE K [a0,a1,a2,a3,a4,a5,a6,a7])) ∧ Below w.heap.size w w':=by
 cases hK : isSetB K with
 | false =>
  have hf : beastE K [a0,a1,a2,a3,a4,a5,a6,a7] = 1:=by simp [beastE,hK]
  obtain ⟨HK,Hf⟩:=hid2 hK hf
  clear hK hf
  go_enter Tryz.func93,Tryz.ntmps93
  go_wp2_with (go_at_call 131;refine (isSet_any _ _).mono ?_;rintro e w' ⟨rfl,rfl⟩;simp only [HK.out])
  go_ret
  exact ⟨by rw [Hf.out];rfl,(Below.refl _ _).alloc (Nat.le_refl _) _⟩
 | true =>
  obtain ⟨m,rfl,hm⟩:=isSetB_nat hK
  have hf : beastE m [a0,a1,a2,a3,a4,a5,a6,a7] = beastGo m 0 ([a0,a1,a2,a3,a4,a5,a6,a7].drop 0):=by simp [beastE,hK]
  have hix:=index8 a0 a1 a2 a3 a4 a5 a6 a7
  have hstep:=beastGo_drop m [a0,a1,a2,a3,a4,a5,a6,a7]
  have hend:=beastGo_end m [a0,a1,a2,a3,a4,a5,a6,a7]
  have hlen : [a0,a1,a2,a3,a4,a5,a6,a7].length = 8:=rfl
  have hmem : ∀ (W : World),(∀ x,W.cell? x = (w.alloc (.cells #[.int .i64 m,.int .i64 a0,.int .i64 a1,.int .i64 a2,.int .i64 a3,.int .i64 a4,.int .i64 a5,.int .i64 a6,.int .i64 a7] 45)).cell? x) → True:=fun _ _ => trivial
  clear hmem
  obtain ⟨HK,Hf,Hix,Hstep,Hend⟩:=hid5 hK hf hix hstep hend
  clear hK hf hix hstep hend hlen
  go_enter Tryz.func93,Tryz.ntmps93
  go_wp2_with (go_at_call 131;refine (isSet_any _ _).mono ?_;rintro e w' ⟨rfl,rfl⟩;simp only [HK.out])
  go_loop [11] (fun i => ∃ k : Nat,k ≤ 8 ∧ i = .int .i64 k ∧ beastGo m k ([a0,a1,a2,a3,a4,a5,a6,a7].drop k) = beastGo m 0 ([a0,a1,a2,a3,a4,a5,a6,a7].drop 0)) (fun i => 8 - (Go.RowKit.intOf i).toNat)
  case atStart => exact ⟨0,by omega,rfl,rfl⟩
  case round =>
   obtain ⟨k,hk,rfl,hgo⟩:=hrel
   by_cases hlt : k < 8
   ·have hlt' : k < [a0,a1,a2,a3,a4,a5,a6,a7].length:=hlt
    have hix:=Hix.out k hlt'
    have hst:=Hstep.out k hlt'
    have hb:=and_bit0 ⟨m,hm⟩ ⟨k,hlt⟩
    simp only [] at hb
    rw [← hasK_nat m k hm] at hb
    rw [hgo] at hst
    generalize [a0,a1,a2,a3,a4,a5,a6,a7][k] = x at *
    obtain ⟨Hgo,Hst⟩:=hid2 hgo hst
    clear hgo hst hlt'
    generalize hb' : hasK m k = b at *
    clear hb'
    cases b with
    | false =>
     by_cases hx : x = 0
     ·subst hx
      have hz : ((0 : Int) != 0) = false:=rfl
      go_wp2
      go_round
      case rel => exact ⟨k + 1,by omega,by go_num,by rw [Hst.out];simp⟩
      case measure => simp [Go.RowKit.intOf];omega
     ·have hz : (x != 0) = true:=by simpa using hx
      have Hx:=Lib.hid hx
      clear hx
      go_wp2
      go_ret
      exact ⟨by rw [Hf.out,Hst.out,if_pos ⟨by simp,Hx.out⟩];rfl,(Below.refl _ _).alloc (Nat.le_refl _) _⟩
    | true =>
     have h1 : ¬ ((true : Bool) = false ∧ x ≠ 0):=by simp
     have H1:=Lib.hid h1
     clear h1
     by_cases hx : x < -1000000000 ∨ 1000000000 < x
     ·have Hx:=Lib.hid hx
      rcases hx with hx | hx
      all_goals
       go_wp2
       go_ret
       exact ⟨by rw [Hf.out,Hst.out,if_neg H1.out,if_pos Hx.out];rfl,(Below.refl _ _).alloc (Nat.le_refl _) _⟩
     ·have Hx:=Lib.hid hx
      have hx1 : -1000000000 ≤ x:=by omega
      have hx2 : x ≤ 1000000000:=by omega
      clear hx
      go_wp2
      go_round
      case rel => exact ⟨k + 1,by omega,by go_num,by rw [Hst.out,if_neg H1.out,if_neg Hx.out]⟩
      case measure => simp [Go.RowKit.intOf];omega
   ·obtain rfl : k = 8:=by omega
    have Hgo:=Lib.hid hgo
    clear hgo
    go_wp2
    go_ret
    exact ⟨by rw [Hf.out,← Hgo.out,Hend.out 8 (by simp)];rfl,(Below.refl _ _).alloc (Nat.le_refl _) _⟩
end Go.Proofs.YtfdillpofciicaaGreatDoor
