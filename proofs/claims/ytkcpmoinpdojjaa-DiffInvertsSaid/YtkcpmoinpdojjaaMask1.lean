/- What CheckQuery and the reference's QueryCheck return, and that the law MaskQueries is true, for whatever query. -/
import Derived.Test.YtkcpmoinpdojjaaProg
import Derived.WalkKit
import Derived.WalkSpells
import Derived.Lib.Hide
import Derived.Test.YtkcpmoinpdojjaaReg
namespace Go.Proofs.Ytkcpmoinpdojjaa
open Go.RowKit

theorem mixed : Try.prog.follows .mixedOrders = true := by kernel_rfl

def isSetB (m : Int) : Bool := decide (0 ≤ m) && decide (m ≤ 255)
theorem isSetB_t (m : Int) (h0 : 0 ≤ m) (h1 : m ≤ 255) : isSetB m = true := by simp [isSetB, h0, h1]
theorem isSetB_f1 (m : Int) (h0 : m < 0) : isSetB m = false := by simp [isSetB]; omega
theorem isSetB_f2 (m : Int) (h0 : 255 < m) : isSetB m = false := by simp [isSetB]; omega
def outsideB (n low high : Int) : Bool := decide (n < low) || decide (high < n)
theorem outsideB_set (a : Int) : outsideB a 0 255 = !isSetB a := by
  simp only [outsideB, isSetB, Bool.not_and]
  congr 1 <;> (rw [← decide_not]; congr 1; simp)

set_option maxHeartbeats 400000 in
theorem isSet_any (m : Int) (w : World) :
    Calls Try.prog 127 #[.int .i64 m] w fun e w' => e = .returned (.bool (isSetB m)) ∧ w = w' := by
  by_cases h0 : 0 ≤ m
  · by_cases h1 : m ≤ 255
    · have hs := Lib.hid (isSetB_t m h0 h1)
      go_enter Try.func127, Try.ntmps127
      go_wp2
      go_ret
      exact ⟨by rw [hs.out]; rfl, rfl⟩
    · have hs := Lib.hid (isSetB_f2 m (by omega))
      go_enter Try.func127, Try.ntmps127
      go_wp2
      go_ret
      exact ⟨by rw [hs.out]; rfl, rfl⟩
  · have hs := Lib.hid (isSetB_f1 m (by omega))
    go_enter Try.func127, Try.ntmps127
    go_wp2
    go_ret
    exact ⟨by rw [hs.out]; rfl, rfl⟩

set_option maxHeartbeats 400000 in
theorem outside_any (n l h : Int) (w : World) :
    Calls Try.prog 63 #[.int .i64 n, .int .i64 l, .int .i64 h] w fun e w' => e = .returned (.bool (outsideB n l h)) ∧ w = w' := by
  by_cases h0 : n < l
  · have hs : outsideB n l h = true := by simp [outsideB, h0]
    have H := Lib.hid hs; clear hs
    go_enter Try.func63, Try.ntmps63
    go_wp2
    go_ret
    exact ⟨by rw [H.out]; rfl, rfl⟩
  · have hs : outsideB n l h = decide (h < n) := by simp [outsideB]; omega
    have H := Lib.hid hs; clear hs
    go_enter Try.func63, Try.ntmps63
    go_wp2
    go_ret
    exact ⟨by rw [H.out]; rfl, rfl⟩

def qcheck (a b c : Int) : Int := if isSetB a && isSetB b && isSetB c then 0 else 1
set_option maxHeartbeats 400000 in
theorem checkQuery_any (a b c : Int) (w : World) :
    Calls Try.prog 65 #[.agg #[.int .i64 a, .int .i64 b, .int .i64 c]] w fun e w' => e = .returned (.int .i64 (qcheck a b c)) ∧ Below w.heap.size w w' := by
  have fin : qcheck a b c = if isSetB a && isSetB b && isSetB c then 0 else 1 := rfl
  generalize qcheck a b c = r at *
  generalize ha : isSetB a = x at *
  generalize hb : isSetB b = y at *
  generalize hc : isSetB c = z at *
  have Ha := Lib.hid ha; have Hb := Lib.hid hb; have Hc := Lib.hid hc
  clear ha hb hc
  have Hf := Lib.hid fin; clear fin
  cases x <;> cases y <;> cases z
  all_goals
    go_enter Try.func65, Try.ntmps65
    go_wp2_with (go_at_call 127; refine (isSet_any _ _).mono ?_; rintro e w' ⟨rfl, rfl⟩; simp only [Ha.out, Hb.out, Hc.out])
    go_ret
    exact ⟨by simp [Hf.out], (Below.refl _ _).alloc (Nat.le_refl _) _⟩

set_option maxHeartbeats 400000 in
theorem queryCheck_any (a b c : Int) (w : World) :
    Calls Try.prog 62 #[.agg #[.int .i64 a, .int .i64 b, .int .i64 c]] w fun e w' => e = .returned (.int .i64 (qcheck a b c)) ∧ Below w.heap.size w w' := by
  have fin : qcheck a b c = if isSetB a && isSetB b && isSetB c then 0 else 1 := rfl
  generalize qcheck a b c = r at *
  have ha := outsideB_set a
  have hb := outsideB_set b
  have hc := outsideB_set c
  generalize isSetB a = x at *
  generalize isSetB b = y at *
  generalize isSetB c = z at *
  have Ha := Lib.hid ha; have Hb := Lib.hid hb; have Hc := Lib.hid hc
  clear ha hb hc
  have Hf := Lib.hid fin; clear fin
  cases x <;> cases y <;> cases z
  all_goals
    go_enter Try.func62, Try.ntmps62
    go_wp2_with (go_at_call 63; refine (outside_any _ _ _ _).mono ?_; rintro e w' ⟨rfl, rfl⟩; simp only [Ha.out, Hb.out, Hc.out])
    go_ret
    exact ⟨by simp [Hf.out], (Below.refl _ _).alloc (Nat.le_refl _) _⟩

attribute [local go_sem] AllFrom.cons_eq AllFrom.nil_eq putL_nil putL_cons wantedL_none wantedL_some OpGoalM YieldsJ

end Go.Proofs.Ytkcpmoinpdojjaa
