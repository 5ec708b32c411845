import Derived.Orders
import Derived.WalkKit
import Derived.Test.YtehjfmjibiafdaaGreatProg
import Derived.WalkSpells
import Derived.Lib.Hide
import Derived.Test.YtehjfmjibiafdaaGreatZooTellsJ1
import Derived.WalkLawsBesides
/- A region whose operations may be carried out in any order that its edges allow: one goal for each operation, none for the orders. -/
namespace Go.Proofs.YtehjfmjibiafdaaGreat
open Go

/-- Operation o, at the operands' values ρ and in the world w, gives v, and then J holds of the world. -/
def YieldsJ (P : Program) (o : Oper) (ρ : Operand → Value) (w : World) (v : Value) (J : World → Prop) : Prop :=
  match (execOp ρ o).run P w with
  | .ok (.value u) w' => u = v ∧ J w'
  | .ok .skip w' => undef = v ∧ J w'
  | .ok (.enter f args) w' => Calls P f args w' fun e w'' => e = .returned v ∧ J w''
  | _ => False

theorem YieldsJ.wp {P : Program} {o : Oper} {a : Act} {w : World} {v : Value} {J : World → Prop} {K : Act → World → Prop} {Q : Exit → Act → World → Prop}
    (h : YieldsJ P o a.eval w v J) (hK : ∀ w', J w' → K (a.put o.dst v) w') : o.wp P a w K Q := by
  unfold Oper.wp
  unfold YieldsJ at h
  cases hr : (execOp a.eval o).run P w with
  | halt x w' => rw [hr] at h; exact h.elim
  | ok n w' =>
    rw [hr] at h
    cases n with
    | value u => obtain ⟨rfl, hj⟩ := h; exact hK _ hj
    | skip => obtain ⟨rfl, hj⟩ := h; exact hK _ hj
    | enter f args =>
      refine Calls.mono h fun e w'' he => ?_
      obtain ⟨rfl, hj⟩ := he
      exact hK _ hj
    | _ => exact h.elim

theorem YieldsJ.congr {P : Program} {o : Oper} {ρ ρ' : Operand → Value} {w : World} {v : Value} {J : World → Prop}
    (h : YieldsJ P o ρ w v J) (he : execOp ρ' o = execOp ρ o) : YieldsJ P o ρ' w v J := by
  unfold YieldsJ at *
  rw [he]; exact h

theorem YieldsJ.mono {P : Program} {o : Oper} {ρ : Operand → Value} {w : World} {v : Value} {J J' : World → Prop}
    (h : YieldsJ P o ρ w v J) (hj : ∀ w', J w' → J' w') : YieldsJ P o ρ w v J' := by
  unfold YieldsJ at *
  split at h
  · exact ⟨h.1, hj _ h.2⟩
  · exact ⟨h.1, hj _ h.2⟩
  · exact h.mono fun e w'' he => ⟨he.1, hj _ he.2⟩
  · exact h.elim

/-- What the plan asks of the region's form. -/
def planOk (ops : Array Oper) (pre : List (List Nat)) : Bool :=
  pre.length == ops.size && ops.toList.zipIdx.all fun (o, i) =>
    (match o.op with | .select .. => false | _ => true) &&
    o.after.toList.all (fun e => !Region.binds .any e || decide (e.on < i)) &&
    (pre.getD i []).all (fun j => decide (j < i) && o.after.toList.any (fun e => Region.binds .any e && (e.on == j || (pre.getD e.on []).contains j))) &&
    (ops.toList.zipIdx.all fun (o', j) =>
      (match o'.dst with
       | none => true
       | some t =>
         (o.dst != some t || i == j) &&
         (!(o.looksAt ops).contains t || i == j || (pre.getD i []).contains j || (pre.getD j []).contains i)))

theorem planOk_spec {ops : Array Oper} {pre : List (List Nat)} (h : planOk ops pre = true) {i : Nat} {o : Oper} (ho : ops[i]? = some o) :
    (∀ cs b, o.op ≠ .select cs b) ∧ (∀ e ∈ o.after.toList, Region.binds .any e = true → e.on < i) ∧
    (∀ j ∈ pre.getD i [], j < i ∧ ∃ e ∈ o.after.toList, Region.binds .any e = true ∧ (e.on = j ∨ j ∈ pre.getD e.on [])) ∧
    (∀ j o' t, ops[j]? = some o' → o'.dst = some t → (o.dst = some t → i = j) ∧ (t ∈ o.looksAt ops → i = j ∨ j ∈ pre.getD i [] ∨ i ∈ pre.getD j [])) := by
  unfold planOk at h
  rw [Bool.and_eq_true] at h
  have h := h.2
  rw [List.all_eq_true] at h
  have hi : (o, i) ∈ ops.toList.zipIdx := by
    rw [List.mk_mem_zipIdx_iff_getElem?]; simpa using ho
  have h1 := h _ hi
  simp only [Bool.and_eq_true] at h1
  obtain ⟨⟨⟨h1, h2⟩, h3⟩, h4⟩ := h1
  refine ⟨?_, ?_, ?_, ?_⟩
  · intro cs b hs; rw [hs] at h1; cases h1
  · intro e he hb
    have := List.all_eq_true.1 h2 e he
    simpa [hb] using this
  · intro j hj
    have := List.all_eq_true.1 h3 j hj
    simp only [Bool.and_eq_true, decide_eq_true_eq, List.any_eq_true, Bool.or_eq_true, beq_iff_eq, List.contains_iff_mem] at this
    exact ⟨this.1, this.2⟩
  · intro j o' t hj hd
    have hm : (o', j) ∈ ops.toList.zipIdx := by rw [List.mk_mem_zipIdx_iff_getElem?]; simpa using hj
    have := List.all_eq_true.1 h4 _ hm
    simp only [hd, Bool.and_eq_true, Bool.or_eq_true, bne_iff_ne, beq_iff_eq, List.contains_iff_mem, Bool.not_eq_true', ] at this
    obtain ⟨a, b⟩ := this
    refine ⟨fun he => a.resolve_left (by simp [he]), fun ht => ?_⟩
    rcases b with ((b | b) | b) | b
    · have hc : (o.looksAt ops).contains t = true := by simpa using ht
      rw [hc] at b; cases b
    · exact .inl b
    · exact .inr (.inl b)
    · exact .inr (.inr b)

/-- The slots as the plan has them when just the operations that L lists have been carried out. -/
structure AtPlan (ops : Array Oper) (vals : Nat → Value) (a0 a : Act) (L : Nat → Bool) : Prop where
  defers : a.defers = a0.defers
  size : a.tmps.size = a0.tmps.size
  new : ∀ i o t, ops[i]? = some o → o.dst = some t → L i = true → t < a.tmps.size → a.tmps[t]? = some (vals i)
  old : ∀ t, (∀ i o, ops[i]? = some o → o.dst = some t → L i = false) → a.tmps[t]? = a0.tmps[t]?

theorem AtPlan.same {ops : Array Oper} {vals : Nat → Value} {a0 a a' : Act} {L : Nat → Bool} (h : AtPlan ops vals a0 a L) (h' : AtPlan ops vals a0 a' L) : a = a' := by
  have ht : a.tmps = a'.tmps := by
    apply Array.ext_getElem?
    intro t
    by_cases hw : ∃ i o, ops[i]? = some o ∧ o.dst = some t ∧ L i = true
    · obtain ⟨i, o, h1, h2, h3⟩ := hw
      by_cases hs : t < a.tmps.size
      · rw [h.new i o t h1 h2 h3 hs, h'.new i o t h1 h2 h3 (by rw [h'.size, ← h.size]; exact hs)]
      · rw [Array.getElem?_eq_none (by omega), Array.getElem?_eq_none (by rw [h'.size, ← h.size]; omega)]
    · have : ∀ i o, ops[i]? = some o → o.dst = some t → L i = false := by
        intro i o h1 h2
        cases h3 : L i with
        | false => rfl
        | true => exact (hw ⟨i, o, h1, h2, h3⟩).elim
      rw [h.old t this, h'.old t this]
  cases a; cases a'
  simp only [Act.mk.injEq]
  exact ⟨ht, h.defers.trans h'.defers.symm⟩

def upd (L : Nat → Bool) (i : Nat) : Nat → Bool := fun j => j == i || L j

theorem AtPlan.put {ops : Array Oper} {vals : Nat → Value} {a0 a : Act} {L : Nat → Bool} (h : AtPlan ops vals a0 a L) {i : Nat} {o : Oper} (ho : ops[i]? = some o)
    (hd : ∀ j o' t, ops[j]? = some o' → o'.dst = some t → o.dst = some t → i = j) : AtPlan ops vals a0 (a.put o.dst (vals i)) (upd L i) := by
  cases hdst : o.dst with
  | none =>
    simp only [Act.put]
    refine ⟨h.defers, h.size, fun j o' t hj ht hl hs => ?_, fun t ht => h.old t fun j o' hj hd' => ?_⟩
    · by_cases hji : j = i
      · subst hji; rw [ho] at hj; cases hj; rw [hdst] at ht; cases ht
      · exact h.new j o' t hj ht (by simpa [upd, hji] using hl) hs
    · have := ht j o' hj hd'
      simp [upd] at this; exact this.2
  | some d =>
    simp only [Act.put]
    refine ⟨h.defers, by simpa using h.size, fun j o' t hj ht hl hs => ?_, fun t ht => ?_⟩
    · by_cases hji : j = i
      · subst hji; rw [ho] at hj; cases hj; rw [hdst] at ht; cases ht
        simp at hs
        simp [hs]
      · have hne : d ≠ t := fun e => hji (hd j o' t hj ht (by rw [hdst, e])).symm
        rw [Array.getElem?_setIfInBounds_ne hne]
        exact h.new j o' t hj ht (by simpa [upd, hji] using hl) (by simpa using hs)
    · have hne : d ≠ t := fun e => by
        have := ht i o ho (by rw [hdst, e]); simp [upd] at this
      rw [Array.getElem?_setIfInBounds_ne hne]
      refine h.old t fun j o' hj hd' => ?_
      have := ht j o' hj hd'
      simp [upd] at this; exact this.2

theorem AtPlan.start (ops : Array Oper) (vals : Nat → Value) (a0 : Act) : AtPlan ops vals a0 a0 (fun _ => false) :=
  ⟨rfl, rfl, fun _ _ _ _ _ h => by simp at h, fun _ _ => rfl⟩

/-- The act in which the operations of a list have been carried out, by the plan. -/
def putAll (ops : Array Oper) (vals : Nat → Value) : List Nat → Act → Act
  | [], a => a
  | j :: l, a => putAll ops vals l (match ops[j]? with | some o => a.put o.dst (vals j) | none => a)

theorem atPlan_putAll {ops : Array Oper} {vals : Nat → Value} {pre : List (List Nat)} (hc : planOk ops pre = true) {a0 : Act} : ∀ (l : List Nat) (a : Act) (L : Nat → Bool), AtPlan ops vals a0 a L →
    (∀ j ∈ l, j < ops.size) → AtPlan ops vals a0 (putAll ops vals l a) (fun j => l.contains j || L j) := by
  intro l
  induction l with
  | nil => intro a L h _; simpa [putAll] using h
  | cons j l ih =>
    intro a L h hl
    have hj : j < ops.size := hl j (by simp)
    have ho : ops[j]? = some ops[j] := Array.getElem?_eq_getElem hj
    have h1 := ih _ _ (h.put ho (fun j' o' t h1 h2 h3 => ((planOk_spec hc ho).2.2.2 j' o' t h1 h2).1 h3)) (fun k hk => hl k (by simp [hk]))
    simp only [putAll, ho]
    have he : (fun k => l.contains k || upd L j k) = fun k => (j :: l).contains k || L k := by
      funext k
      simp only [upd, List.contains_cons]
      rw [← Bool.or_assoc, Bool.or_comm (l.contains k)]
    rw [he] at h1; exact h1

section
variable {P : Program} {ops : Array Oper} {Q : Exit → Act → World → Prop}

/-- The slots that operation i sees. -/
def seesOf (ops : Array Oper) (vals : Nat → Value) (pre : List (List Nat)) (a0 : Act) (i : Nat) : Act := putAll ops vals (pre.getD i []) a0

end

/-- A statement on every operation of a list, counted from k on. -/
def AllFrom (p : Nat → Oper → Prop) : Nat → List Oper → Prop
  | _, [] => True
  | k, o :: l => p k o ∧ AllFrom p (k + 1) l

theorem AllFrom.get {p : Nat → Oper → Prop} : ∀ (l : List Oper) (k : Nat), AllFrom p k l → ∀ (i : Nat) (o : Oper), l[i]? = some o → p (k + i) o
  | [], _, _, i, o, h => by simp at h
  | o' :: l, k, h, 0, o, ho => by
    simp at ho; subst ho; exact h.1
  | o' :: l, k, h, i + 1, o, ho => by
    have := AllFrom.get l (k + 1) h.2 i o (by simpa using ho)
    rw [show k + (i + 1) = k + 1 + i by omega]; exact this

/-- The slots in which the operations numbered in the list have left their values. -/
def putL (dsts : List (Option Tmp)) (vals : List Value) : List Nat → Act → Act
  | [], a => a
  | j :: l, a => putL dsts vals l (a.put (dsts.getD j none) (vals.getD j undef))

/-- The guard of an operation, read off the slots' values. -/
def wantedL (dsts : List (Option Tmp)) (a : Act) (g : Option (Nat × Bool)) : Bool :=
  match g with
  | none => true
  | some (j, want) => (match dsts.getD j none with | some t => (match a.tmps.getD t undef with | .bool b => some b | _ => none) | none => none) == some want

theorem wanted_eq_wantedL {l : List Oper} {dsts : List (Option Tmp)} (hd : l.map (·.dst) = dsts) (o : Oper) (a : Act) :
    Region.wanted o (yielded l.toArray a.tmps) = wantedL dsts a o.guard := by
  subst hd
  unfold Region.wanted wantedL
  cases o.guard with
  | none => rfl
  | some gw =>
    obtain ⟨j, want⟩ := gw
    simp only [yielded, List.getElem?_toArray, List.getD_eq_getElem?_getD, List.getElem?_map]
    cases hj : l[j]? with
    | none => simp
    | some o =>
      simp only [Option.bind_some, Option.map_some, Option.getD_some]
      cases ht : o.dst with
      | none => simp
      | some t =>
        simp only [Option.bind_some, Array.getD_eq_getD_getElem?]
        cases hv : a.tmps[t]? with
        | none => simp [undef]
        | some v => cases v <;> simp

theorem AllFrom.cons {p : Nat → Oper → Prop} {k : Nat} {o : Oper} {l : List Oper} (h : p k o) (h' : AllFrom p (k + 1) l) : AllFrom p k (o :: l) := ⟨h, h'⟩
theorem AllFrom.nil {p : Nat → Oper → Prop} {k : Nat} : AllFrom p k [] := trivial

section
variable {P : Program} {o : Oper} {ρ : Operand → Value} {w : World} {v : Value} {J : World → Prop}
end

section
variable {P : Program} {dsts : List (Option Tmp)} {vals : List Value} {pre : List (List Nat)} {I : (Nat → Bool) → World → Prop} {a0 : Act} {i : Nat} {o : Oper}

end

/-- The goal at one operation where what holds of the world is the same all along. -/
def OpGoalM (P : Program) (dsts : List (Option Tmp)) (vals : List Value) (pre : List (List Nat)) (I : World → Prop) (a0 : Act) (i : Nat) (o : Oper) : Prop :=
  ∀ (w : World), I w → if wantedL dsts (putL dsts vals (pre.getD i []) a0) o.guard = true then YieldsJ P o (putL dsts vals (pre.getD i []) a0).eval w (vals.getD i undef) I
    else undef = vals.getD i undef

theorem AllFrom.cons_eq {p : Nat → Oper → Prop} {k : Nat} {o : Oper} {l : List Oper} : AllFrom p k (o :: l) = (p k o ∧ AllFrom p (k + 1) l) := rfl
theorem AllFrom.nil_eq {p : Nat → Oper → Prop} {k : Nat} : AllFrom p k [] = True := rfl
theorem putL_nil (dsts : List (Option Tmp)) (vals : List Value) (a : Act) : putL dsts vals [] a = a := rfl
theorem putL_cons (dsts : List (Option Tmp)) (vals : List Value) (j : Nat) (l : List Nat) (a : Act) : putL dsts vals (j :: l) a = putL dsts vals l (a.put (dsts.getD j none) (vals.getD j undef)) := rfl
theorem wantedL_none (dsts : List (Option Tmp)) (a : Act) : wantedL dsts a none = true := rfl
theorem wantedL_some (dsts : List (Option Tmp)) (a : Act) (j : Nat) (b : Bool) : wantedL dsts a (some (j, b)) =
  ((match dsts.getD j none with | some t => (match a.tmps.getD t undef with | .bool b => some b | _ => none) | none => none) == some b) := rfl
end Go.Proofs.YtehjfmjibiafdaaGreat

/- What CheckQuery and the reference's QueryCheck return, and that the law MaskQueries is true, for whatever query. -/
namespace Go.Proofs.YtehjfmjibiafdaaGreat
open Go.RowKit

theorem mixed : Tryz.prog.follows .mixedOrders = true := by kernel_rfl

def isSetB (m : Int) : Bool := decide (0 ≤ m) && decide (m ≤ 255)
theorem isSetB_t (m : Int) (h0 : 0 ≤ m) (h1 : m ≤ 255) : isSetB m = true := by simp [isSetB, h0, h1]
theorem isSetB_f1 (m : Int) (h0 : m < 0) : isSetB m = false := by simp [isSetB]; omega
theorem isSetB_f2 (m : Int) (h0 : 255 < m) : isSetB m = false := by simp [isSetB]; omega
def outsideB (n low high : Int) : Bool := decide (n < low) || decide (high < n)
theorem outsideB_set (a : Int) : outsideB a 0 255 = !isSetB a := by
  simp only [outsideB, isSetB, Bool.not_and]
  congr 1 <;> (rw [← decide_not]; congr 1; simp)

set_option maxHeartbeats 400000 in
theorem isSet_any (m : Int) (w : World) :
    Calls Tryz.prog 110 #[.int .i64 m] w fun e w' => e = .returned (.bool (isSetB m)) ∧ w = w' := by
  by_cases h0 : 0 ≤ m
  · by_cases h1 : m ≤ 255
    · have hs := Lib.hid (isSetB_t m h0 h1)
      go_enter Tryz.func110, Tryz.ntmps110
      go_wp2
      go_ret
      exact ⟨by rw [hs.out]; rfl, rfl⟩
    · have hs := Lib.hid (isSetB_f2 m (by omega))
      go_enter Tryz.func110, Tryz.ntmps110
      go_wp2
      go_ret
      exact ⟨by rw [hs.out]; rfl, rfl⟩
  · have hs := Lib.hid (isSetB_f1 m (by omega))
    go_enter Tryz.func110, Tryz.ntmps110
    go_wp2
    go_ret
    exact ⟨by rw [hs.out]; rfl, rfl⟩

set_option maxHeartbeats 400000 in
theorem outside_any (n l h : Int) (w : World) :
    Calls Tryz.prog 101 #[.int .i64 n, .int .i64 l, .int .i64 h] w fun e w' => e = .returned (.bool (outsideB n l h)) ∧ w = w' := by
  by_cases h0 : n < l
  · have hs : outsideB n l h = true := by simp [outsideB, h0]
    have H := Lib.hid hs; clear hs
    go_enter Tryz.func101, Tryz.ntmps101
    go_wp2
    go_ret
    exact ⟨by rw [H.out]; rfl, rfl⟩
  · have hs : outsideB n l h = decide (h < n) := by simp [outsideB]; omega
    have H := Lib.hid hs; clear hs
    go_enter Tryz.func101, Tryz.ntmps101
    go_wp2
    go_ret
    exact ⟨by rw [H.out]; rfl, rfl⟩

def qcheck (a b c : Int) : Int := if isSetB a && isSetB b && isSetB c then 0 else 1
set_option maxHeartbeats 400000 in
theorem checkQuery_any (a b c : Int) (w : World) :
    Calls Tryz.prog 57 #[.agg #[.int .i64 a, .int .i64 b, .int .i64 c]] w fun e w' => e = .returned (.int .i64 (qcheck a b c)) ∧ Below w.heap.size w w' := by
  have fin : qcheck a b c = if isSetB a && isSetB b && isSetB c then 0 else 1 := rfl
  generalize qcheck a b c = r at *
  generalize ha : isSetB a = x at *
  generalize hb : isSetB b = y at *
  generalize hc : isSetB c = z at *
  have Ha := Lib.hid ha; have Hb := Lib.hid hb; have Hc := Lib.hid hc
  clear ha hb hc
  have Hf := Lib.hid fin; clear fin
  cases x <;> cases y <;> cases z
  all_goals
    go_enter Tryz.func57, Tryz.ntmps57
    go_wp2_with (go_at_call 110; refine (isSet_any _ _).mono ?_; rintro e w' ⟨rfl, rfl⟩; simp only [Ha.out, Hb.out, Hc.out])
    go_ret
    exact ⟨by simp [Hf.out], (Below.refl _ _).alloc (Nat.le_refl _) _⟩

set_option maxHeartbeats 400000 in
theorem queryCheck_any (a b c : Int) (w : World) :
    Calls Tryz.prog 65 #[.agg #[.int .i64 a, .int .i64 b, .int .i64 c]] w fun e w' => e = .returned (.int .i64 (qcheck a b c)) ∧ Below w.heap.size w w' := by
  have fin : qcheck a b c = if isSetB a && isSetB b && isSetB c then 0 else 1 := rfl
  generalize qcheck a b c = r at *
  have ha := outsideB_set a
  have hb := outsideB_set b
  have hc := outsideB_set c
  generalize isSetB a = x at *
  generalize isSetB b = y at *
  generalize isSetB c = z at *
  have Ha := Lib.hid ha; have Hb := Lib.hid hb; have Hc := Lib.hid hc
  clear ha hb hc
  have Hf := Lib.hid fin; clear fin
  cases x <;> cases y <;> cases z
  all_goals
    go_enter Tryz.func65, Tryz.ntmps65
    go_wp2_with (go_at_call 101; refine (outside_any _ _ _ _).mono ?_; rintro e w' ⟨rfl, rfl⟩; simp only [Ha.out, Hb.out, Hc.out])
    go_ret
    exact ⟨by simp [Hf.out], (Below.refl _ _).alloc (Nat.le_refl _) _⟩

attribute [local go_sem] AllFrom.cons_eq AllFrom.nil_eq putL_nil putL_cons wantedL_none wantedL_some OpGoalM YieldsJ

end Go.Proofs.YtehjfmjibiafdaaGreat

/- The contracts of Matches, of the reference's Matches and of the single bit. -/
namespace Go.Proofs.YtehjfmjibiafdaaGreat
open Go.RowKit

theorem wrap_u64_nat (x : Nat) (h : x < 18446744073709551616) : IntKind.u64.wrap (x : Int) = (x : Int) := by
  simp only [IntKind.wrap, IntKind.bits, IntKind.signed, Bool.false_and]
  rw [if_neg (by decide)]
  omega
theorem pow_u64 (k : Nat) (hk : k < 64) : IntKind.u64.wrap (2 ^ k) = ((2 ^ k : Nat) : Int) := by
  have h : (2 : Nat) ^ k < 2 ^ 64 := Nat.pow_lt_pow_right (by omega) hk
  have e : (2 : Int) ^ k = ((2 ^ k : Nat) : Int) := by norm_cast
  rw [e]
  exact wrap_u64_nat _ h
theorem bit_val (m : Int) (p : Nat) : IntKind.u64.wrap ((U m : Int) / (p : Int)) = ((U m / p : Nat) : Int) := by
  have h := U_lt m
  have h2 : U m / p ≤ U m := Nat.div_le_self _ _
  have e : ((U m : Int) / (p : Int)) = ((U m / p : Nat) : Int) := by norm_cast
  rw [e]
  exact wrap_u64_nat _ (by omega)

set_option maxHeartbeats 400000 in
theorem bit_any (m : Int) (k : Nat) (hk : k < 64) (w : World) :
    Calls Tryz.prog 117 #[.int .i64 m, .int .i64 k] w fun e w' => e = .returned (.bool (bt m k)) ∧ w = w' := by
  have h1 := pow_u64 k hk
  have h2 := wrap_u64_U m
  have hp : 0 < 2 ^ k := Nat.pos_of_ne_zero (by simp)
  have h3 := bit_val m (2 ^ k)
  have hb := bt_div m k
  generalize (2 ^ k : Nat) = p at *
  generalize bt m k = r at *
  generalize hq : U m / p = q at *
  generalize U m = u at *
  have h4 : ((q : Int) % 2 == 1) = r := by
    rw [← hb, Bool.eq_iff_iff]
    simp only [beq_iff_eq]
    omega
  have hz : ¬ (p : Int) = 0 := by omega
  have H4 := Lib.hid h4
  clear hb h4 hq
  go_enter Tryz.func117, Tryz.ntmps117
  go_wp2
  go_ret
  exact ⟨by rw [← H4.out]; rfl, rfl⟩

set_option maxHeartbeats 400000 in
theorem matches_any (m n t a : Int) (w : World) :
    Calls Tryz.prog 60 #[.int .i64 m, .agg #[.int .i64 n, .int .i64 t, .int .i64 a]] w fun e w' => e = .returned (.bool (matchesB m n t a)) ∧ Below w.heap.size w w' := by
  have hf : matchesB m n t a = ((bits .and .i64 m n == n) && (bits .and .i64 m t == 0) && (a == 0 || bits .and .i64 m a != 0)) := rfl
  generalize matchesB m n t a = r at *
  generalize h1 : (bits .and .i64 m n == n) = b1 at *
  generalize h2 : (bits .and .i64 m t == 0) = b2 at *
  generalize h3 : (a == 0) = b3 at *
  generalize h4 : (bits .and .i64 m a != 0) = b4 at *
  have Hf := Lib.hid hf; clear hf
  cases b1 <;> cases b2 <;> cases b3 <;> cases b4
  all_goals
    go_enter Tryz.func60, Tryz.ntmps60
    go_wp2
    go_ret
    exact ⟨by simp [Hf.out], (Below.refl _ _).alloc (Nat.le_refl _) _⟩

set_option maxHeartbeats 4000000 in
theorem refMatches_any (m n t a : Int) (hn : InR n) (w : World) :
    Calls Tryz.prog 68 #[.int .i64 m, .agg #[.int .i64 n, .int .i64 t, .int .i64 a]] w fun e w' => e = .returned (.bool (matchesB m n t a)) ∧ Below w.heap.size w w' := by
  have hf := matches_eq (m := m) (t := t) (a := a) hn
  have Hf := Lib.hid hf; clear hf
  have h0 : anyTo m a 0 = (a == 0) := by simp [anyTo]
  go_enter Tryz.func68, Tryz.ntmps68
  go_wp2
  go_loop [5, 10] (fun s i => ∃ k : Nat, k ≤ 64 ∧ i = .int .i64 k ∧ okTo m n t k = true ∧ s = .bool (anyTo m a k)) (fun _ i => 64 - (Go.RowKit.intOf i).toNat)
  case atStart => exact ⟨0, by omega, rfl, rfl, by rw [h0]⟩
  case round =>
    obtain ⟨k, hk, rfl, hok, rfl⟩ := hrel
    clear h0
    have hs1 := okTo_succ m n t k
    have hs2 := anyTo_succ m a k
    rw [hok] at hs1
    by_cases hlt : k < 64
    · have hfl := fun h => okTo_false (m := m) (n := n) (t := t) (k := k + 1) (j := 64) h (by omega)
      generalize anyTo m a k = c0 at *
      clear hok
      generalize hb : bt n k = b1 at *
      generalize hc : bt m k = b2 at *
      generalize hd : bt t k = b3 at *
      generalize he : bt a k = b4 at *
      have Hb := Lib.hid hb; have Hc := Lib.hid hc; have Hd := Lib.hid hd; have He := Lib.hid he
      have H1 := Lib.hid hs1; have H2 := Lib.hid hs2; have H3 := Lib.hid hfl
      clear hb hc hd he hs1 hs2 hfl
      cases b1 <;> cases b2 <;> cases b3 <;> cases b4 <;> cases c0
      all_goals
        go_wp2_with (go_at_call 117; refine (bit_any _ _ hlt _).mono ?_; rintro e w' ⟨rfl, rfl⟩; simp only [Hb.out, Hc.out, Hd.out, He.out])
        first
        | (go_ret
           have hz := H3.out (by rw [H1.out]; rfl)
           exact ⟨by rw [Hf.out, hz]; rfl, (Below.refl _ _).alloc (Nat.le_refl _) _⟩)
        | (go_round
           case rel => exact ⟨k + 1, by omega, by go_num, by rw [H1.out]; rfl, by rw [H2.out]; rfl⟩
           case measure => simp [Go.RowKit.intOf]; omega)
    · have e : k = 64 := by omega
      subst e
      have Hok := Lib.hid hok
      clear hs1 hs2 hok hlt
      go_wp2
      go_ret
      exact ⟨by rw [Hf.out, Hok.out]; rfl, (Below.refl _ _).alloc (Nat.le_refl _) _⟩
end Go.Proofs.YtehjfmjibiafdaaGreat

/- The contracts of Of and of the reference's MaskOf. -/
namespace Go.Proofs.YtehjfmjibiafdaaGreat
open Go.RowKit

def maskN (l : List Int) : Nat := l.foldl (fun m x => m + 2 ^ x.toNat) 0
theorem maskN_nil : maskN [] = 0 := rfl
/-- What a mask of a part of the list is like. -/
structure MaskOk (l : List Int) : Prop where
  nodup : l.Nodup
  lt : maskN l < 256
  bit : ∀ y, y < 8 → (maskN l).testBit y = hasB l (y : Int)
theorem MaskOk.nil : MaskOk [] := ⟨List.nodup_nil, by decide, fun y _ => by simp [maskN_nil, hasB_nil]⟩
/-- A power of two, as a word of its own. -/
def pw (k : Nat) : Int := ((2 ^ k : Nat) : Int)
theorem pw_zero : pw 0 = 1 := rfl
theorem pw_succ (k : Nat) : pw (k + 1) = pw k * 2 := by simp [pw, Int.pow_succ]
theorem pw_pos (k : Nat) : 1 ≤ pw k := by
  have : 0 < 2 ^ k := Nat.pos_of_ne_zero (by simp)
  unfold pw; omega
theorem pw_lt {k : Nat} (h : k < 62) : pw k < 4611686018427387904 := by
  have : (2 : Nat) ^ k < 2 ^ 62 := Nat.pow_lt_pow_right (by omega) h
  unfold pw; omega
set_option maxHeartbeats 400000 in
theorem power_any (k : Nat) (hk : k < 62) (w : World) :
    Calls Tryz.prog 103 #[.int .i64 k] w fun e w' => e = .returned (.int .i64 (pw k)) ∧ w = w' := by
  go_enter Tryz.func103, Tryz.ntmps103
  go_wp2
  go_loop [3, 5] (fun n i => ∃ j : Nat, j ≤ k ∧ i = .int .i64 j ∧ n = .int .i64 (pw j)) (fun _ i => k - (Go.RowKit.intOf i).toNat)
  case atStart => exact ⟨0, by omega, rfl, by rw [pw_zero]⟩
  case round =>
    obtain ⟨j, hj, rfl, rfl⟩ := hrel
    have hp := pw_lt (k := j) (by omega)
    have hp0 := pw_pos j
    have Hs := Lib.hid (pw_succ j)
    by_cases hlt : j < k
    · generalize pw j = q at *
      go_wp2
      go_round
      case rel => exact ⟨j + 1, by omega, by go_num, by rw [Hs.out]⟩
      case measure => simp [Go.RowKit.intOf]; omega
    · obtain rfl : j = k := by omega
      go_wp2
      go_ret
      exact ⟨rfl, rfl⟩

end Go.Proofs.YtehjfmjibiafdaaGreat

/- The closed fact 'masked', and the laws MaskOfs and MaskMatches on values. -/
namespace Go.Proofs.YtehjfmjibiafdaaGreat
open Go.RowKit

end Go.Proofs.YtehjfmjibiafdaaGreat
