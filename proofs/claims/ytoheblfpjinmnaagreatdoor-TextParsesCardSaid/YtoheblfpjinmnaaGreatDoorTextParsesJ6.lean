import Derived.Test.YtoheblfpjinmnaaGreatDoorTextParsesJ5
set_option linter.unusedVariables false
set_option linter.unusedSimpArgs false
/- A part of the proof that TextParses returns true. -/
namespace Go.Proofs.YtoheblfpjinmnaaGreatDoor
open Go
def OnlyN (Q : Exit → Act → World → Prop) (e : Exit) (a : Act) (w : World) : Prop:=e = .normal ∧ Q .normal a w
section
variable {P : Program} {ops : Array Oper} {Q : Exit → Act → World → Prop}
theorem allListed {pre : List (List Nat)} (hc : planOk ops pre = true) (listed : Array Bool) (hsz : listed.size = ops.size) (hr : Region.ready .any ops listed = []) : ∀ i,i < ops.size → listed.getD i false = true:=by
 intro i
 induction i using Nat.strongRecOn with
 | ind i ih =>
  intro hi
  cases hl : listed.getD i false with
  | true => rfl
  | false =>
   exfalso
   have : i ∈ Region.ready .any ops listed:=by
    rw [Region.ready,List.mem_filter]
    refine ⟨by simpa using hi,?_⟩
    have ho : ops[i]? = some ops[i]:=Array.getElem?_eq_getElem hi
    have hl' : listed.getD i true = false:=by
     have hs : i < listed.size:=by omega
     simp only [Array.getD,hs,dif_pos] at hl ⊢;exact hl
    simp only [hl',Bool.not_false,Bool.true_and,ho,Option.map_some,Option.getD_some,Array.all_eq_true']
    intro e he
    cases hb : Region.binds .any e with
    | false => rfl
    | true =>
     have hlt:=(planOk_spec hc ho).2.1 e (by simpa using he) hb
     have:=ih e.on hlt (by omega)
     simp [this]
   rw [hr] at this;cases this
structure TailOk (ops : Array Oper) (pre : List (List Nat)) (m : Nat) (fl : List Nat) : Prop where
 small : ∀ j ∈ fl,j < m
 order : ∀ i,m ≤ i → i < ops.size → ∀ j,j < i → j ∈ pre.getD i [] ∨ j ∈ fl
 float : ∀ j ∈ fl,pre.getD j [] = [] ∧ ∃ o x,ops[j]? = some o ∧ o.op = .move x ∧ o.guard = none ∧ ∀ t,x = .tmp t → ∀ (i : Nat) (o' : Oper),ops[i]? = some o' → o'.dst ≠ some t
theorem float_eval {pre : List (List Nat)} {m : Nat} {fl : List Nat} (_hT : TailOk ops pre m fl) {σ : Nat → Value} {a0 a : Act} {L : Nat → Bool} (hp : AtPlan ops σ a0 a L) {x : Operand}
  (hx : ∀ t,x = .tmp t → ∀ (i : Nat) (o' : Oper),ops[i]? = some o' → o'.dst ≠ some t) : a.eval x = a0.eval x:=by
 cases x with
 | tmp t =>
  have:=hp.old t (fun i o h1 h2 => absurd h2 (hx t rfl i o h1))
  simp only [Act.eval,Array.getD_eq_getD_getElem?,this]
 | _ => rfl
theorem exec_move (ρ : Operand → Value) {o : Oper} {x : Operand} (ho : o.op = .move x) (w : World) : (execOp ρ o).run P w = .ok (.value (ρ x)) w:=by
 unfold execOp;rw [ho];rfl
theorem floats_run {pre : List (List Nat)} {m : Nat} {fl : List Nat} (hc : planOk ops pre = true) (hT : TailOk ops pre m fl) {I : (Nat → Bool) → (Nat → Value) → World → Prop} {a0 : Act}
  (hops : ∀ i o,i < m → ops[i]? = some o → OpGoalG P ops pre I a0 i o) : ∀ (fs : List Nat),(∀ j ∈ fs,j ∈ fl) → ∀ (L : Nat → Bool) (σ : Nat → Value) (a : Act) (w : World),
   (∀ k,L k = true → ∀ j ∈ pre.getD k [],L j = true) → AtPlan ops σ a0 a L → I L σ w →
   ∃ L' σ' a',AtPlan ops σ' a0 a' L' ∧ I L' σ' w ∧ (∀ j,L' j = (L j || fs.contains j)) ∧ (∀ i,L i = true → σ' i = σ i) ∧ (∀ j ∈ fs,L j = false → ∀ o x,ops[j]? = some o → o.op = .move x → σ' j = a0.eval x)
 | [],_,L,σ,a,w,_,hp,hI => ⟨L,σ,a,hp,hI,by simp,fun _ _ => rfl,by simp⟩
 | j :: fs,hfs,L,σ,a,w,hcl,hp,hI => by
  have hj:=hfs j (by simp)
  obtain ⟨hpre,o,x,ho,hop,hgd,hx⟩:=hT.float j hj
  by_cases hLj : L j = true
  ·obtain ⟨L',σ',a',h1,h2,h3,h4,h5⟩:=floats_run hc hT hops fs (fun i hi => hfs i (by simp [hi])) L σ a w hcl hp hI
   refine ⟨L',σ',a',h1,h2,fun i => ?_,h4,fun i hi hLi => ?_⟩
   ·rw [h3,List.contains_cons]
    by_cases hij : i = j
    ·subst hij;simp [hLj]
    ·have : (i == j) = false:=by simpa using hij
     simp [this]
   ·rcases List.mem_cons.1 hi with rfl | hi
    ·rw [hLj] at hLi;cases hLi
    ·exact h5 i hi hLi
  ·have hLf : L j = false:=by simpa using hLj
   have hg:=hops j o (hT.small j hj) ho L σ w hLf (by rw [hpre];simp) (fun k hk => by
    cases h : L k with
    | false => rfl
    | true => exact absurd (hcl k h j hk) hLj) hI
   rw [if_pos (by simp [Region.wanted,hgd])] at hg
   have hsees : seesOf ops σ pre a0 j = a0:=by unfold seesOf;rw [hpre];rfl
   rw [hsees] at hg
   unfold YieldsR at hg
   rw [exec_move a0.eval hop w] at hg
   have hp':=hp.putv ho (fun j' o' t h1 h2 h3 => ((planOk_spec hc ho).2.2.2 j' o' t h1 h2).1 h3) hLf (v:=a0.eval x)
   obtain ⟨L',σ',a',h1,h2,h3,h4,h5⟩:=floats_run hc hT hops fs (fun i hi => hfs i (by simp [hi])) (upd L j) (updv σ j (a0.eval x)) (a.put o.dst (a0.eval x)) w
    (fun k hk i hi => by
     simp only [upd,Bool.or_eq_true,beq_iff_eq] at hk ⊢
     rcases hk with rfl | hk
     ·rw [hpre] at hi;cases hi
     ·exact .inr (hcl k hk i hi)) hp' hg
   have hsj : σ' j = a0.eval x:=by
    rw [h4 j (by simp [upd])];simp [updv]
   refine ⟨L',σ',a',h1,h2,fun i => ?_,fun i hi => ?_,fun i hi hLi => ?_⟩
   ·rw [h3,List.contains_cons]
    simp only [upd]
    cases (i == j) <;> cases L i <;> simp
   ·have hne : i ≠ j:=fun e => by rw [e,hLf] at hi;cases hi
    rw [h4 i (by simp [upd,hi]),updv,if_neg hne]
   ·by_cases hij : i = j
    ·subst hij
     intro o2 x2 h6 h7
     rw [ho] at h6;cases h6
     rw [hop] at h7;cases h7
     exact hsj
    ·rcases List.mem_cons.1 hi with rfl | hi
     ·exact absurd rfl hij
     ·exact h5 i hi (by simp [upd,hij,hLi])
theorem upon_only {P : Program} {Q : Exit → Act → World → Prop} {o : Oper} {a b : Act} {K K' : Act → World → Prop} {r : Result Next} (hd : a.defers = b.defers) (h : o.upon P b K (OnlyN Q) r)
  (hK : ∀ v w,K (b.put o.dst v) w → K' (a.put o.dst v) w) (hD : ∀ d w,K ({ b with defers:=d :: b.defers }.put o.dst undef) w → K' ({ a with defers:=d :: a.defers }.put o.dst undef) w) : o.upon P a K' Q r:=by
 cases r with
 | ok n w' =>
  cases n with
  | value v => exact hK _ _ h
  | skip => exact hK _ _ h
  | defer d => exact hD _ _ h
  | enter f args =>
   refine Calls.mono h fun e w'' he => ?_
   cases e with
   | returned v => exact hK _ _ he
   | panicked ch => exact absurd he.1 (by simp)
   | outgrown => obtain ⟨a',w2,he⟩:=he;exact absurd he.1 (by simp)
  | row r args =>
   exact Rows.mono h fun v w'' he => hK _ _ he
  | _ => exact h.elim
 | halt x w' =>
  cases x with
  | panic v => exact absurd h.1 (by simp)
  | _ => exact h.elim
theorem wpAny_tailF {pre : List (List Nat)} {m : Nat} {fl : List Nat} (hc : planOk ops pre = true) (hT : TailOk ops pre m fl) :
  ∀ (fuel : Nat) (listed : Array Bool) (a0 : Act) (σ : Nat → Value) (a b : Act) (k : Nat) (w : World),listed.size = ops.size → (listed.toList.filter (fun b => !b)).length ≤ fuel → m ≤ k → k ≤ ops.size →
   (∀ j,j ∉ fl → listed.getD j false = decide (j < k)) → AtPlan ops σ a0 a (fun j => listed.getD j false) → AtPlan ops σ a0 b (fun j => listed.getD j false || fl.contains j) →
   (∀ j ∈ fl,listed.getD j false = false → ∀ o x,ops[j]? = some o → o.op = .move x → σ j = a0.eval x) →
   (∀ i,i < ops.size → listed.getD i false = true → ∀ j ∈ pre.getD i [],listed.getD j false = true) →
   wpList P ops (OnlyN Q) (ops.toList.drop k) b w → wpAny P .any ops Q fuel listed a w:=by
 -- all is listed: the end
 have hfin : ∀ (listed : Array Bool) (a0 : Act) (σ : Nat → Value) (a b : Act) (k : Nat) (w : World),m ≤ k → k ≤ ops.size → (∀ j,j ∉ fl → listed.getD j false = decide (j < k)) → (∀ i,i < ops.size → listed.getD i false = true) →
   AtPlan ops σ a0 a (fun j => listed.getD j false) → AtPlan ops σ a0 b (fun j => listed.getD j false || fl.contains j) → wpList P ops (OnlyN Q) (ops.toList.drop k) b w → Q .normal a w:=by
  intro listed a0 σ a b k w hmk hk hl hall ha hb h
  have hkn : k = ops.size:=by
   rcases Nat.lt_or_ge k ops.size with h1 | h1
   ·have hnf : k ∉ fl:=fun hf => by have:=hT.small k hf;omega
    have:=hl k hnf
    rw [hall k h1] at this
    simp at this
   ·omega
  have hd : ops.toList.drop k = []:=List.drop_eq_nil_of_le (by simp;omega)
  rw [hd] at h
  have hab : a = b:=by
   refine AtPlan.same (L:=fun j => listed.getD j false || fl.contains j) ⟨ha.defers,ha.size,fun i o t h1 h2 h3 h4 => ha.new i o t h1 h2 (hall i (Array.getElem?_eq_some_iff.1 h1).1) h4,fun t ht => ha.old t fun i o h1 h2 => ?_⟩ hb
   have:=ht i o h1 h2
   simp only [Bool.or_eq_false_iff] at this
   exact this.1
  rw [hab];exact h.2
 intro fuel
 induction fuel with
 | zero =>
  intro listed a0 σ a b k w hsz hf hmk hk hl ha hb _ _ h
  have hall : ∀ i,i < ops.size → listed.getD i false = true:=by
   intro i hi
   have hs : i < listed.size:=by omega
   have h0 : listed.toList.filter (fun b => !b) = []:=List.eq_nil_of_length_eq_zero (by omega)
   have:=List.filter_eq_nil_iff.1 h0 listed[i] (by simp)
   simp only [Array.getD,hs,dif_pos]
   simpa using this
  refine ⟨?_,hfin listed a0 σ a b k w hmk hk hl hall ha hb h⟩
  rw [List.eq_nil_iff_forall_not_mem]
  intro i hi
  rw [Region.ready,List.mem_filter] at hi
  have h1 : i < ops.size:=by simpa using hi.1
  have:=hall i h1
  have hs : i < listed.size:=by omega
  have h3 : listed.getD i true = true:=by
   simp only [Array.getD,hs,dif_pos] at this ⊢;exact this
  rw [h3] at hi
  simp at hi
 | succ fuel ih =>
  intro listed a0 σ a b k w hsz hf hmk hk hl ha hb hσ hcl h
  refine ⟨fun hr => hfin listed a0 σ a b k w hmk hk hl (allListed hc listed hsz hr) ha hb h,fun i hi => ?_⟩
  rw [Region.ready,List.mem_filter] at hi
  obtain ⟨h1,h2⟩:=hi
  have hi : i < ops.size:=by simpa using h1
  have hs : i < listed.size:=by omega
  have ho : ops[i]? = some ops[i]:=Array.getElem?_eq_getElem hi
  simp only [ho,Option.map_some,Option.getD_some,Bool.and_eq_true,Bool.not_eq_true',Array.all_eq_true'] at h2
  obtain ⟨hl0,hedge⟩:=h2
  have hlf : listed.getD i false = false:=by
   simp only [Array.getD,hs,dif_pos] at hl0 ⊢;exact hl0
  have hspec:=planOk_spec hc ho
  have hLu : ∀ j,(listed.setIfInBounds i true).getD j false = upd (fun j => listed.getD j false) i j:=by
   intro j
   by_cases hj : j = i
   ·subst hj;simp [upd,hs]
   ·have : (listed.setIfInBounds i true)[j]? = listed[j]?:=Array.getElem?_setIfInBounds_ne (fun e => hj e.symm)
    simp [upd,hj,Array.getD_eq_getD_getElem?,this]
  have hLu' : (fun j => (listed.setIfInBounds i true).getD j false) = upd (fun j => listed.getD j false) i:=funext hLu
  have hcount : ((listed.setIfInBounds i true).toList.filter (fun b => !b)).length ≤ fuel:=by
   have h0 : listed.toList[i]'(by simpa using hs) = false:=by
    simp only [Array.getD,hs,dif_pos] at hlf
    simpa using hlf
   rw [Array.toList_setIfInBounds]
   have h1 : listed.toList = listed.toList.take i ++ false :: listed.toList.drop (i + 1):=by
    rw [← h0,List.getElem_cons_drop,List.take_append_drop]
   have h2 : listed.toList.set i true = listed.toList.take i ++ true :: listed.toList.drop (i + 1):=by
    rw [List.set_eq_take_append_cons_drop,if_pos (by simpa using hs)]
   rw [h1] at hf
   rw [h2]
   simp only [List.filter_append,List.length_append,List.filter_cons,Bool.not_false,Bool.not_true,if_true,List.length_cons] at hf ⊢
   simp only [Bool.false_eq_true,if_false]
   omega
  have huniq : ∀ j' o' t,ops[j']? = some o' → o'.dst = some t → ops[i].dst = some t → i = j':=fun j' o' t h1 h2 h3 => (hspec.2.2.2 j' o' t h1 h2).1 h3
  have hpre : ∀ j ∈ pre.getD i [],listed.getD j false = true:=by
   intro j hj
   obtain ⟨hjn,e,he,hb',hej⟩:=hspec.2.2.1 j hj
   have hon:=hspec.2.1 e he hb'
   have hle : listed.getD e.on false = true:=by
    have:=hedge e (by simpa using he)
    simp only [hb',Bool.not_true,Bool.false_or] at this
    exact this
   rcases hej with rfl | hej
   ·exact hle
   ·exact hcl e.on (by omega) hle j hej
  have hcl' : ∀ k,k < ops.size → (listed.setIfInBounds i true).getD k false = true → ∀ j ∈ pre.getD k [],(listed.setIfInBounds i true).getD j false = true:=by
   intro k hk h1 j hj
   rw [hLu] at h1 ⊢
   simp only [upd,Bool.or_eq_true,beq_iff_eq] at h1 ⊢
   rcases h1 with rfl | h1
   ·exact .inr (hpre j hj)
   ·exact .inr (hcl k hk h1 j hj)
  by_cases hif : i ∈ fl
  ·-- a float
   obtain ⟨-,o,x,ho',hop,hgd,hx⟩:=hT.float i hif
   rw [ho] at ho'
   cases ho'
   have hv : a.eval x = σ i:=by rw [float_eval hT ha hx,hσ i hif hlf _ x ho hop]
   unfold wpOp
   simp only [ho]
   rw [if_pos (by simp [Region.wanted,hgd])]
   left
   unfold Oper.wp
   rw [exec_move a.eval hop w]
   show wpAny P .any ops Q fuel (listed.setIfInBounds i true) (a.put ops[i].dst (a.eval x)) w
   rw [hv]
   refine ih _ a0 σ _ b k w (by simpa using hsz) hcount hmk hk (fun j hj => ?_) ?_ ?_ (fun j hj hjl => ?_) hcl' h
   ·rw [hLu]
    have hne : j ≠ i:=fun e => hj (e ▸ hif)
    simp only [upd]
    rw [show (j == i) = false by simpa using hne,Bool.false_or]
    exact hl j hj
   ·rw [hLu']
    exact ha.put ho huniq
   ·have e : (fun j => (listed.setIfInBounds i true).getD j false || fl.contains j) = fun j => listed.getD j false || fl.contains j:=by
     funext j
     rw [hLu]
     simp only [upd]
     by_cases hne : j = i
     ·subst hne
      have : fl.contains j = true:=by simpa using hif
      rw [this];simp
     ·rw [show (j == i) = false by simpa using hne,Bool.false_or]
    rw [e];exact hb
   ·refine hσ j hj ?_
    rw [hLu] at hjl
    simp only [upd,Bool.or_eq_false_iff] at hjl
    exact hjl.2
  ·-- the next of the tail
   have hik : i = k:=by
    have hge : k ≤ i:=by
     have:=hl i hif
     rw [hlf] at this
     simpa using this.symm
    rcases Nat.lt_or_ge k i with hlt | hle
    ·exfalso
     have hnf : k ∉ fl:=fun hf => by have:=hT.small k hf;omega
     obtain ⟨_,e,he,hb',hej⟩:=hspec.2.2.1 k ((hT.order i (by omega) hi k hlt).resolve_right hnf)
     have hle:=hedge e (by simpa using he)
     simp only [hb',Bool.not_true,Bool.false_or] at hle
     rcases hej with hek | hej
     ·have:=hl k hnf
      rw [← hek,hle] at this
      rw [hek] at this
      simp at this
     ·have hen : e.on < ops.size:=by
       have:=(planOk_spec hc ho).2.1 e he hb'
       omega
      have hke:=((planOk_spec hc (Array.getElem?_eq_getElem hen)).2.2.1 k hej).1
      have hef : e.on ∉ fl:=fun hf => by have:=hT.small e.on hf;omega
      have:=hl e.on hef
      rw [hle] at this
      have : e.on < k:=by simpa using this.symm
      omega
    ·omega
   subst hik
   have hdrop : ops.toList.drop i = ops[i] :: ops.toList.drop (i + 1):=by
    rw [List.drop_eq_getElem_cons (by simpa using hi)];simp
   rw [hdrop] at h
   have hslot : ∀ t ∈ ops[i].looksAt ops,a.tmps[t]? = b.tmps[t]?:=by
    intro t ht
    by_cases hw : ∃ (j : Nat) (o' : Oper),ops[j]? = some o' ∧ o'.dst = some t
    ·obtain ⟨j,o',hj,hd⟩:=hw
     have hone : ∀ (j' : Nat) (o'' : Oper),ops[j']? = some o'' → o''.dst = some t → j' = j:=fun j' o'' h1 h2 => ((planOk_spec hc h1).2.2.2 j o' t hj hd).1 h2
     cases hlj : listed.getD j false with
     | true =>
      by_cases hs' : t < a.tmps.size
      ·rw [ha.new j o' t hj hd hlj hs',hb.new j o' t hj hd (by simp [hlj]) (by rw [hb.size,← ha.size];exact hs')]
      ·have hle : a.tmps.size ≤ t:=Nat.le_of_not_lt hs'
       have e1 : a.tmps[t]? = none:=Array.getElem?_eq_none hle
       have hsz':=hb.size
       have hsz'':=ha.size
       have e2 : b.tmps[t]? = none:=Array.getElem?_eq_none (by rw [hsz',← hsz''];exact hle)
       rw [e1,e2]
     | false =>
      have hjf : fl.contains j = false:=by
       cases hjf : fl.contains j with
       | false => rfl
       | true =>
        exfalso
        have hjm : j ∈ fl:=by simpa using hjf
        rcases (hspec.2.2.2 j o' t hj hd).2 ht with rfl | hin | hin
        ·exact hif hjm
        ·rw [hpre j hin] at hlj;cases hlj
        ·rw [(hT.float j hjm).1] at hin;cases hin
      rw [ha.old t (fun j' o'' h3 h4 => by rw [hone j' o'' h3 h4];exact hlj),hb.old t (fun j' o'' h3 h4 => by rw [hone j' o'' h3 h4,hlj,hjf];rfl)]
    ·have hno : ∀ (j : Nat) (o' : Oper),ops[j]? = some o' → o'.dst = some t → False:=fun j o' h1 h2 => hw ⟨j,o',h1,h2⟩
     rw [ha.old t (fun j o' h1 h2 => (hno j o' h1 h2).elim),hb.old t (fun j o' h1 h2 => (hno j o' h1 h2).elim)]
   have hexec : execOp a.eval ops[i] = execOp b.eval ops[i]:=by
    refine execOp_congr ops[i] hspec.1 fun x hx => ?_
    cases x with
    | tmp t =>
     have : t ∈ ops[i].looksAt ops:=by
      unfold Oper.looksAt
      rw [List.mem_append]
      left
      rw [List.mem_filterMap]
      exact ⟨_,by simpa using hx,rfl⟩
     have:=hslot t this
     simp only [Act.eval,Array.getD_eq_getD_getElem?,this]
    | _ => rfl
   have hwant : Region.wanted ops[i] (yielded ops a.tmps) = Region.wanted ops[i] (yielded ops b.tmps):=by
    unfold Region.wanted
    cases hg : ops[i].guard with
    | none => rfl
    | some gw =>
     obtain ⟨g,want⟩:=gw
     simp only []
     congr 1
     unfold yielded
     cases hgd : (ops[g]?).bind (·.dst) with
     | none => simp
     | some t =>
      have : t ∈ ops[i].looksAt ops:=by
       unfold Oper.looksAt
       rw [List.mem_append]
       right
       simp [hg,hgd]
      have:=hslot t this
      simp only [Option.bind_some,this]
   have hif' : fl.contains i = false:=by simpa using hif
   have hstep : ∀ (a1 a2 b2 : Act),(∀ x : Operand,a1.eval x = a0.eval x) → AtPlan ops σ a1 a2 (fun j => listed.getD j false) → AtPlan ops σ a1 b2 (fun j => listed.getD j false || fl.contains j) →
     ∀ v w',wpList P ops (OnlyN Q) (ops.toList.drop (i + 1)) (b2.put ops[i].dst v) w' → wpAny P .any ops Q fuel (listed.setIfInBounds i true) (a2.put ops[i].dst v) w':=by
    intro a1 a2 b2 he ha2 hb2 v w' hw
    refine ih _ a1 (updv σ i v) _ (b2.put ops[i].dst v) (i + 1) w' (by simpa using hsz) hcount (by omega) (by omega) (fun j hj => ?_) ?_ ?_ (fun j hj hjl o x h6 h7 => ?_) hcl' hw
    ·rw [hLu]
     simp only [upd]
     rw [hl j hj]
     by_cases hne : j = i
     ·subst hne;simp
     ·rw [show (j == i) = false by simpa using hne,Bool.false_or]
      congr 1
      simp;omega
    ·rw [hLu']
     exact ha2.putv ho huniq hlf
    ·have e : (fun j => (listed.setIfInBounds i true).getD j false || fl.contains j) = upd (fun j => listed.getD j false || fl.contains j) i:=by
      funext j
      rw [hLu]
      simp only [upd,Bool.or_assoc]
     rw [e]
     exact hb2.putv ho huniq (by simp only [hlf,hif',Bool.or_self])
    ·have hne : j ≠ i:=fun e => hif (e ▸ hj)
     rw [hLu] at hjl
     simp only [upd,Bool.or_eq_false_iff] at hjl
     rw [updv,if_neg hne,he]
     exact hσ j hj hjl.2 o x h6 h7
   unfold wpOp
   simp only [ho,hwant]
   unfold wpList at h
   split
   ·rename_i hy
    rw [if_pos hy] at h
    rcases h with h | ⟨_,h⟩
    ·left
     unfold Oper.wp at h ⊢
     rw [hexec]
     refine upon_only (by rw [ha.defers,hb.defers]) h (hstep a0 a b (fun _ => rfl) ha hb) (fun d w' hw => ?_)
     refine hstep { a0 with defers:=d :: a0.defers } { a with defers:=d :: a.defers } { b with defers:=d :: b.defers } (fun x => by cases x <;> rfl) ?_ ?_ undef w' hw
     ·exact ⟨by simp [ha.defers],ha.size,ha.new,ha.old⟩
     ·exact ⟨by simp [hb.defers],hb.size,hb.new,hb.old⟩
    ·obtain ⟨_,_,h⟩:=h
     exact absurd h.1 (by simp)
   ·rename_i hy
    rw [if_neg hy] at h
    exact hstep a0 a b (fun _ => rfl) ha hb undef w h
theorem wpAny_planF {pre : List (List Nat)} (m : Nat) (fl : List Nat) (hT : TailOk ops pre m fl) {I : (Nat → Bool) → (Nat → Value) → World → Prop} {a0 : Act} (hc : planOk ops pre = true)
  (hops : ∀ i o,i < m → ops[i]? = some o → OpGoalG P ops pre I a0 i o)
  (hend : ∀ (L : Nat → Bool) (σ : Nat → Value) a w,(∀ i,L i = decide (i < m)) → AtPlan ops σ a0 a L → I L σ w → wpList P ops (OnlyN Q) (ops.toList.drop m) a w) (hmn : m ≤ ops.size) :
  ∀ (fuel : Nat) (listed : Array Bool) (σ : Nat → Value) (a : Act) (w : World),listed.size = ops.size → (listed.toList.filter (fun b => !b)).length ≤ fuel →
   (∀ i,i < ops.size → listed.getD i false = true → ∀ j ∈ pre.getD i [],listed.getD j false = true) →
   AtPlan ops σ a0 a (fun j => listed.getD j false) → I (fun j => listed.getD j false) σ w → (∀ i,m ≤ i → listed.getD i false = false) → wpAny P .any ops Q fuel listed a w:=by
 intro fuel
 induction fuel with
 | zero =>
  intro listed σ a w hsz hf hcl hp hI hT'
  by_cases hall : ∀ i,i < m → i ∉ fl → listed.getD i false = true
  ·obtain ⟨L',σ',a',h1,h2,h3,h4,h5⟩:=floats_run hc hT hops fl (fun _ h => h) (fun j => listed.getD j false) σ a w (fun k hk => by
     by_cases hkn : k < ops.size
     ·exact hcl k hkn hk
     ·have : listed.getD k false = false:=by simp only [Array.getD];rw [dif_neg (by omega)]
      rw [this] at hk;cases hk) hp hI
   have hL' : ∀ i,L' i = decide (i < m):=by
    intro i
    rw [h3]
    by_cases hi : i < m
    ·by_cases hf : i ∈ fl
     ·simp [hi,hf]
     ·simp [hi,hall i hi hf]
    ·have hf : i ∉ fl:=fun h => hi (hT.small i h)
     simp [hi,hf,hT' i (by omega)]
   refine wpAny_tailF hc hT 0 listed a0 σ' a a' m w hsz hf (Nat.le_refl _) hmn (fun j hj => ?_) ⟨hp.defers,hp.size,fun i o t q1 q2 q3 q4 => by rw [h4 i q3];exact hp.new i o t q1 q2 q3 q4,hp.old⟩ ?_ h5 ?_ (hend L' σ' a' w hL' h1 h2)
   ·by_cases h : j < m
    ·simp [h,hall j h hj]
    ·simp [h,hT' j (by omega)]
   ·have e : (fun j => listed.getD j false || fl.contains j) = L':=by
     funext j
     rw [h3]
    rw [e];exact h1
   ·exact hcl
  ·exfalso
   apply hall
   intro i hi _
   have hs : i < listed.size:=by omega
   have h0 : listed.toList.filter (fun b => !b) = []:=List.eq_nil_of_length_eq_zero (by omega)
   have:=List.filter_eq_nil_iff.1 h0 listed[i] (by simp)
   simp only [Array.getD,hs,dif_pos]
   simpa using this
 | succ fuel ih =>
  intro listed σ a w hsz hf hcl hp hI hT'
  by_cases hall : ∀ i,i < m → i ∉ fl → listed.getD i false = true
  ·obtain ⟨L',σ',a',h1,h2,h3,h4,h5⟩:=floats_run hc hT hops fl (fun _ h => h) (fun j => listed.getD j false) σ a w (fun k hk => by
     by_cases hkn : k < ops.size
     ·exact hcl k hkn hk
     ·have : listed.getD k false = false:=by simp only [Array.getD];rw [dif_neg (by omega)]
      rw [this] at hk;cases hk) hp hI
   have hL' : ∀ i,L' i = decide (i < m):=by
    intro i
    rw [h3]
    by_cases hi : i < m
    ·by_cases hf : i ∈ fl
     ·simp [hi,hf]
     ·simp [hi,hall i hi hf]
    ·have hf : i ∉ fl:=fun h => hi (hT.small i h)
     simp [hi,hf,hT' i (by omega)]
   refine wpAny_tailF hc hT (fuel + 1) listed a0 σ' a a' m w hsz hf (Nat.le_refl _) hmn (fun j hj => ?_) ⟨hp.defers,hp.size,fun i o t q1 q2 q3 q4 => by rw [h4 i q3];exact hp.new i o t q1 q2 q3 q4,hp.old⟩ ?_ h5 ?_ (hend L' σ' a' w hL' h1 h2)
   ·by_cases h : j < m
    ·simp [h,hall j h hj]
    ·simp [h,hT' j (by omega)]
   ·have e : (fun j => listed.getD j false || fl.contains j) = L':=by
     funext j
     rw [h3]
    rw [e];exact h1
   ·exact hcl
  refine ⟨fun hr => ?_,fun i hi => ?_⟩
  ·exfalso
   apply hall
   intro i hi _
   exact allListed hc listed hsz hr i (by omega)
  rw [Region.ready,List.mem_filter] at hi
  obtain ⟨h1,h2⟩:=hi
  have hi : i < ops.size:=by simpa using h1
  have hs : i < listed.size:=by omega
  have ho : ops[i]? = some ops[i]:=Array.getElem?_eq_getElem hi
  simp only [ho,Option.map_some,Option.getD_some,Bool.and_eq_true,Bool.not_eq_true',Array.all_eq_true'] at h2
  obtain ⟨hl0,hedge⟩:=h2
  have hl : listed.getD i false = false:=by
   simp only [Array.getD,hs,dif_pos] at hl0 ⊢;exact hl0
  have hspec:=planOk_spec hc ho
  have hpre : ∀ j ∈ pre.getD i [],listed.getD j false = true:=by
   intro j hj
   obtain ⟨hjn,e,he,hb,hej⟩:=hspec.2.2.1 j hj
   have hon:=hspec.2.1 e he hb
   have hle : listed.getD e.on false = true:=by
    have:=hedge e (by simpa using he)
    simp only [hb,Bool.not_true,Bool.false_or] at this
    exact this
   rcases hej with rfl | hej
   ·exact hle
   ·exact hcl e.on (by omega) hle j hej
  have hlen : pre.length = ops.size:=by
   unfold planOk at hc
   rw [Bool.and_eq_true] at hc
   simpa using hc.1
  have hpost : ∀ k,i ∈ pre.getD k [] → listed.getD k false = false:=by
   intro k hk
   have hkn : k < ops.size:=by
    rcases Nat.lt_or_ge k ops.size with h | h
    ·exact h
    ·rw [List.getD_eq_getElem?_getD,List.getElem?_eq_none (by omega)] at hk;cases hk
   cases hlk : listed.getD k false with
   | false => rfl
   | true =>
    have:=hcl k hkn hlk i hk
    rw [hl] at this;cases this
  have him : i < m:=by
   rcases Nat.lt_or_ge i m with h | h
   ·exact h
   ·refine absurd (fun j hj hjf => ?_) hall
    exact hpre j ((hT.order i h hi j (by omega)).resolve_right hjf)
  have hgoal:=hops i ops[i] him ho (fun j => listed.getD j false) σ w hl hpre hpost hI
  have hsees : AtPlan ops σ a0 (seesOf ops σ pre a0 i) (fun j => (pre.getD i []).contains j):=by
   have:=atPlan_putAll (vals:=σ) hc (pre.getD i []) a0 (fun _ => false) (AtPlan.start ops σ a0) (fun j hj => Nat.lt_trans (hspec.2.2.1 j hj).1 hi)
   simp only [Bool.or_false] at this;exact this
  have hslot : ∀ t ∈ ops[i].looksAt ops,a.tmps[t]? = (seesOf ops σ pre a0 i).tmps[t]?:=by
   intro t ht
   by_cases hw : ∃ (j : Nat) (o' : Oper),ops[j]? = some o' ∧ o'.dst = some t
   ·obtain ⟨j,o',hj,hd⟩:=hw
    have hone : ∀ (j' : Nat) (o'' : Oper),ops[j']? = some o'' → o''.dst = some t → j' = j:=fun j' o'' h1 h2 => ((planOk_spec hc h1).2.2.2 j o' t hj hd).1 h2
    have hnot : listed.getD j false = false → (pre.getD i []).contains j = false → a.tmps[t]? = (seesOf ops σ pre a0 i).tmps[t]?:=by
     intro h1 h2
     rw [hp.old t (fun j' o'' h3 h4 => by rw [hone j' o'' h3 h4];exact h1),hsees.old t (fun j' o'' h3 h4 => by rw [hone j' o'' h3 h4];exact h2)]
    rcases (hspec.2.2.2 j o' t hj hd).2 ht with rfl | hin | hin
    ·refine hnot hl ?_
     cases hcn : (pre.getD i []).contains i with
     | false => rfl
     | true => exact absurd (hspec.2.2.1 i (by simpa using hcn)).1 (by omega)
    ·by_cases hs' : t < a.tmps.size
     ·rw [hp.new j o' t hj hd (hpre j hin) hs',hsees.new j o' t hj hd (by simpa using hin) (by rw [hsees.size,← hp.size];exact hs')]
     ·have hle : a.tmps.size ≤ t:=Nat.le_of_not_lt hs'
      have e1 : a.tmps[t]? = none:=Array.getElem?_eq_none hle
      have hsz':=hsees.size
      have hsz'':=hp.size
      have e2 : (seesOf ops σ pre a0 i).tmps[t]? = none:=Array.getElem?_eq_none (by rw [hsz',← hsz''];exact hle)
      rw [e1,e2]
    ·refine hnot (hpost j hin) ?_
     have hij : i < j:=((planOk_spec hc hj).2.2.1 i hin).1
     cases hcn : (pre.getD i []).contains j with
     | false => rfl
     | true => exact absurd (hspec.2.2.1 j (by simpa using hcn)).1 (by omega)
   ·have hno : ∀ (j : Nat) (o' : Oper),ops[j]? = some o' → o'.dst = some t → False:=fun j o' h1 h2 => hw ⟨j,o',h1,h2⟩
    rw [hp.old t (fun j o' h1 h2 => (hno j o' h1 h2).elim),hsees.old t (fun j o' h1 h2 => (hno j o' h1 h2).elim)]
  have hexec : execOp a.eval ops[i] = execOp (seesOf ops σ pre a0 i).eval ops[i]:=by
   refine execOp_congr ops[i] hspec.1 fun x hx => ?_
   cases x with
   | tmp t =>
    have : t ∈ ops[i].looksAt ops:=by
     unfold Oper.looksAt
     rw [List.mem_append]
     left
     rw [List.mem_filterMap]
     exact ⟨_,by simpa using hx,rfl⟩
    have:=hslot t this
    simp only [Act.eval,Array.getD_eq_getD_getElem?,this]
   | _ => rfl
  have hwant : Region.wanted ops[i] (yielded ops a.tmps) = Region.wanted ops[i] (yielded ops (seesOf ops σ pre a0 i).tmps):=by
   unfold Region.wanted
   cases hg : ops[i].guard with
   | none => rfl
   | some gw =>
    obtain ⟨g,want⟩:=gw
    simp only []
    congr 1
    unfold yielded
    cases hgd : (ops[g]?).bind (·.dst) with
    | none => simp
    | some t =>
     have : t ∈ ops[i].looksAt ops:=by
      unfold Oper.looksAt
      rw [List.mem_append]
      right
      simp [hg,hgd]
     have:=hslot t this
     simp only [Option.bind_some,this]
  have hL : (fun j => (listed.setIfInBounds i true).getD j false) = upd (fun j => listed.getD j false) i:=by
   funext j
   by_cases hj : j = i
   ·subst hj;simp [upd,hs]
   ·have : (listed.setIfInBounds i true)[j]? = listed[j]?:=Array.getElem?_setIfInBounds_ne (fun e => hj e.symm)
    simp [upd,hj,Array.getD_eq_getD_getElem?,this]
  have hcount : ((listed.setIfInBounds i true).toList.filter (fun b => !b)).length ≤ fuel:=by
   have h0 : listed.toList[i]'(by simpa using hs) = false:=by
    simp only [Array.getD,hs,dif_pos] at hl
    simpa using hl
   rw [Array.toList_setIfInBounds]
   have h1 : listed.toList = listed.toList.take i ++ false :: listed.toList.drop (i + 1):=by
    rw [← h0,List.getElem_cons_drop,List.take_append_drop]
   have h2 : listed.toList.set i true = listed.toList.take i ++ true :: listed.toList.drop (i + 1):=by
    rw [List.set_eq_take_append_cons_drop,if_pos (by simpa using hs)]
   rw [h1] at hf
   rw [h2]
   simp only [List.filter_append,List.length_append,List.filter_cons,Bool.not_false,Bool.not_true,if_true,List.length_cons] at hf ⊢
   simp only [Bool.false_eq_true,if_false]
   omega
  have hcl' : ∀ k,k < ops.size → (listed.setIfInBounds i true).getD k false = true → ∀ j ∈ pre.getD k [],(listed.setIfInBounds i true).getD j false = true:=by
   intro k hk h1 j hj
   have e1 : (listed.setIfInBounds i true).getD k false = upd (fun j => listed.getD j false) i k:=congrFun hL k
   have e2 : (listed.setIfInBounds i true).getD j false = upd (fun j => listed.getD j false) i j:=congrFun hL j
   rw [e1] at h1
   rw [e2]
   simp only [upd,Bool.or_eq_true,beq_iff_eq] at h1 ⊢
   rcases h1 with rfl | h1
   ·exact .inr (hpre j hj)
   ·exact .inr (hcl k hk h1 j hj)
  have hnext : ∀ v w',I (upd (fun j => listed.getD j false) i) (updv σ i v) w' → wpAny P .any ops Q fuel (listed.setIfInBounds i true) (a.put ops[i].dst v) w':=by
   intro v w' hw'
   refine ih _ (updv σ i v) _ _ (by simpa using hsz) hcount hcl' ?_ ?_ ?_
   ·rw [hL]
    exact hp.putv ho (fun j' o' t h1 h2 h3 => (hspec.2.2.2 j' o' t h1 h2).1 h3) hl
   ·rw [hL];exact hw'
   ·intro j hj
    have e1 : (listed.setIfInBounds i true).getD j false = upd (fun j => listed.getD j false) i j:=congrFun hL j
    rw [e1]
    have hji : j ≠ i:=by omega
    simp only [upd,Bool.or_eq_false_iff,beq_eq_false_iff_ne]
    exact ⟨hji,hT' j hj⟩
  unfold wpOp
  simp only [ho,hwant]
  split
  ·rename_i hy
   rw [if_pos hy] at hgoal
   exact .inl ((hgoal.congr hexec).wp hnext)
  ·rename_i hy
   rw [if_neg hy] at hgoal
   exact hnext _ w hgoal
end
structure PostV (p : Value → World → Prop) (I : Value → World → Prop) (K : World → Prop) (v : Value) (w : World) : Prop where
 val : p v w
 inv : I v w
 keep : K w
def OpGoalV (P : Program) (dsts : List (Option Tmp)) (pre : List (List Nat)) (VP : List (Value → World → Prop)) (I : (Nat → Bool) → (Nat → Value) → World → Prop) (a0 : Act) (i : Nat) (o : Oper) : Prop :=
 ∀ (L : Nat → Bool) (σ : Nat → Value) (w : World),L i = false → (∀ j ∈ pre.getD i [],L j = true) → (∀ k,i ∈ pre.getD k [] → L k = false) → I L σ w → PreF VP σ w (pre.getD i []) →
  if wantedL dsts (putF dsts σ (pre.getD i []) a0) o.guard = true then YieldsR P o (putF dsts σ (pre.getD i []) a0).eval w (PostV (VP.getD i (fun _ _ => True)) (fun v => I (upd L i) (updv σ i v)) (fun w' => KeepAll σ L w w' 0 VP))
  else PostV (VP.getD i (fun _ _ => True)) (fun v => I (upd L i) (updv σ i v)) (fun w' => KeepAll σ L w w' 0 VP) undef w
def tailOkB (l : List Oper) (pre : List (List Nat)) (m : Nat) (fl : List Nat) : Bool :=
 fl.all (fun j => decide (j < m) && (pre.getD j []).isEmpty && (match l[j]? with
  | some o => (match o.op with
   | .move (.tmp t) => o.guard.isNone && l.all (fun o' => o'.dst != some t)
   | .move _ => o.guard.isNone
   | _ => false)
  | none => false)) &&
 (List.range l.length).all fun i => decide (i < m) || (List.range i).all fun j => (pre.getD i []).contains j || fl.contains j
theorem tailOk_of {l : List Oper} {pre : List (List Nat)} {m : Nat} {fl : List Nat} (h : tailOkB l pre m fl = true) : TailOk l.toArray pre m fl:=by
 unfold tailOkB at h
 rw [Bool.and_eq_true] at h
 obtain ⟨h1,h2⟩:=h
 rw [List.all_eq_true] at h1 h2
 refine ⟨fun j hj => ?_,fun i hi hin j hj => ?_,fun j hj => ?_⟩
 ·have:=h1 j hj
  simp only [Bool.and_eq_true,decide_eq_true_eq] at this
  exact this.1.1
 ·have:=h2 i (by simpa using hin)
  simp only [Bool.or_eq_true,decide_eq_true_eq] at this
  rcases this with h | h
  ·omega
  ·have:=List.all_eq_true.1 h j (by simpa using hj)
   simpa using this
 ·have:=h1 j hj
  simp only [Bool.and_eq_true,decide_eq_true_eq] at this
  obtain ⟨⟨_,h3⟩,h4⟩:=this
  refine ⟨by simpa using h3,?_⟩
  cases ho : l[j]? with
  | none => rw [ho] at h4;cases h4
  | some o =>
   rw [ho] at h4
   simp only at h4
   split at h4
   ·rename_i t hop
    simp only [Bool.and_eq_true,Option.isNone_iff_eq_none,List.all_eq_true,bne_iff_ne] at h4
    refine ⟨o,_,by simpa using ho,hop,h4.1,fun t' ht i o' hi => ?_⟩
    cases ht
    exact h4.2 o' (List.mem_of_getElem? (by simpa using hi))
   ·rename_i x hx hop
    refine ⟨o,x,by simpa using ho,hop,by simpa using h4,fun t ht i o' hi => ?_⟩
    exact absurd ht (hx t)
   ·cases h4
theorem wp_planF {P : Program} {Q : Exit → Act → World → Prop} {id : Nat} {l : List Oper} {a0 : Act} {w0 : World} (m : Nat) (fl : List Nat) (dsts : List (Option Tmp)) (pre : List (List Nat)) (is : List Nat) (n : Nat) (VP : List Value → List (Value → World → Prop)) (I : (Nat → Bool) → (Nat → Value) → World → Prop)
  (hm : P.follows .mixedOrders = true) (hd : l.map (·.dst) = dsts) (hc : planOk l.toArray pre = true) (hT : tailOkB l pre m fl = true) (hmn : m ≤ l.length)
  (h0 : I (fun _ => false) (fun _ => undef) w0.drew) (his : List.range m = is)
  (h : ExL n fun vs => AllFrom (OpGoalV P dsts pre (VP vs) I a0) 0 (l.take m) ∧
   (∀ (L : Nat → Bool) (σ : Nat → Value) w,(∀ i ∈ is,L i = true) → I L σ w → PreF (VP vs) σ w is → wpList P l.toArray (OnlyN Q) (l.drop m) (putF dsts σ is a0) w)) :
  (Code.region id l.toArray true).wp P Q a0 w0:=by
 obtain ⟨vs,hops,hend⟩:=h.out
 generalize VP vs = VP at hops hend
 refine wp_region_any hm ?_
 refine wpAny_planF (a0:=a0) (I:=fun L σ w => I L σ w ∧ ∀ i,i < m → L i = true → VP.getD i (fun _ _ => True) (σ i) w) m fl (tailOk_of hT) hc (fun i o him ho => ?_) (fun L σ a w hL ha hI => ?_) (by simpa using hmn) _ _ (fun _ => undef) a0 _ (by simp) (by simp) (fun i hi h => ?_) ?_ ?_ ?_
 ·have h:=AllFrom.get (l.take m) 0 hops i o (by rw [List.getElem?_take,if_pos him];simpa using ho)
  rw [Nat.zero_add] at h
  have hi : i < l.length:=by
   have:=(Array.getElem?_eq_some_iff.1 ho).1
   simpa using this
  have hlt : ∀ j ∈ pre.getD i [],j < l.length:=fun j hj => by
   have:=planOk_lt hc (by simpa using hi) hj
   omega
  have hlt2 : ∀ j ∈ pre.getD i [],j < m:=fun j hj => by
   have:=planOk_lt hc (by simpa using hi) hj
   omega
  intro L σ w h1 h2 h3 ⟨h4,h4'⟩
  have h5:=h L σ w h1 h2 h3 h4 (preF_of fun j hj => h4' j (hlt2 j hj) (h2 j hj))
  have hw : Region.wanted o (yielded l.toArray (seesOf l.toArray σ pre a0 i).tmps) = wantedL dsts (putF dsts σ (pre.getD i []) a0) o.guard:=by
   unfold seesOf
   rw [putAll_eq_putF hd _ hlt,wanted_eq_wantedL hd]
  have hs : (seesOf l.toArray σ pre a0 i).eval = (putF dsts σ (pre.getD i []) a0).eval:=by
   unfold seesOf
   rw [putAll_eq_putF hd _ hlt]
  rw [hw,hs]
  have key : ∀ v w',PostV (VP.getD i (fun _ _ => True)) (fun v => I (upd L i) (updv σ i v)) (fun w' => KeepAll σ L w w' 0 VP) v w' → I (upd L i) (updv σ i v) w' ∧ ∀ j,j < m → upd L i j = true → VP.getD j (fun _ _ => True) (updv σ i v j) w':=by
   intro v w' ⟨k1,k2,k3⟩
   refine ⟨k2,fun j hj hu => ?_⟩
   by_cases e : j = i
   ·subst e;rw [updv,if_pos rfl];exact k1
   ·rw [updv,if_neg e]
    have : L j = true:=by simpa [upd,e] using hu
    have hg:=KeepAll.get k3 j (by rw [Nat.zero_add];exact this) (by rw [Nat.zero_add];exact h4' j hj this)
    rw [Nat.zero_add] at hg
    exact hg
  split at h5
  ·rename_i hy
   rw [if_pos hy]
   exact h5.mono key
  ·rename_i hy
   rw [if_neg hy]
   exact key _ _ h5
 ·have hms : ∀ j ∈ List.range m,j < l.toArray.size:=by
   intro j hj
   have h1 : j < m:=by simpa using hj
   have h2 : l.toArray.size = l.length:=by simp
   omega
  have h1:=atPlan_putAll (vals:=σ) hc (List.range m) a0 (fun _ => false) (AtPlan.start l.toArray σ a0) hms
  have he : a = putAll l.toArray σ (List.range m) a0:=by
   refine AtPlan.same (L:=fun j => decide (j < m)) ⟨ha.defers,ha.size,fun i o t h1 h2 h3 h4 => ha.new i o t h1 h2 (by rw [hL];exact h3) h4,fun t ht => ha.old t fun i o h1 h2 => by rw [hL];exact ht i o h1 h2⟩ ?_
   simpa using h1
  rw [he,putAll_eq_putF hd _ (fun i hi => by have:=hms i hi;simpa using this)]
  subst his
  exact hend L σ w (fun i hi => by rw [hL];simpa using hi) hI.1 (preF_of fun j hj => hI.2 j (by simpa using hj) (by rw [hL];simpa using hj))
 ·simp [Array.getD] at h
 ·refine ⟨rfl,rfl,fun i o t h1 _ h3 _ => ?_,fun t _ => rfl⟩
  have hi:=(Array.getElem?_eq_some_iff.1 h1).1
  simp [Array.getD,hi] at h3
 ·have : (fun j => (Array.replicate l.toArray.size false).getD j false) = fun _ => false:=by
   funext j
   simp [Array.getD]
  rw [this]
  exact ⟨h0,fun i _ h => by cases h⟩
 ·intro i _
  simp [Array.getD]
end Go.Proofs.YtoheblfpjinmnaaGreatDoor
