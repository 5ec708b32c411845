/- The contracts of Matches, of the reference's Matches and of the single bit. -/
import Derived.Test.YtkcpmoinpdojjaaMask1
import Derived.Test.YtkcpmoinpdojjaaBits
import Derived.WalkLawsBesides
namespace Go.Proofs.Ytkcpmoinpdojjaa
open Go.RowKit

theorem wrap_u64_nat (x : Nat) (h : x < 18446744073709551616) : IntKind.u64.wrap (x : Int) = (x : Int) := by
  simp only [IntKind.wrap, IntKind.bits, IntKind.signed, Bool.false_and]
  rw [if_neg (by decide)]
  omega
theorem pow_u64 (k : Nat) (hk : k < 64) : IntKind.u64.wrap (2 ^ k) = ((2 ^ k : Nat) : Int) := by
  have h : (2 : Nat) ^ k < 2 ^ 64 := Nat.pow_lt_pow_right (by omega) hk
  have e : (2 : Int) ^ k = ((2 ^ k : Nat) : Int) := by norm_cast
  rw [e]
  exact wrap_u64_nat _ h
theorem bit_val (m : Int) (p : Nat) : IntKind.u64.wrap ((U m : Int) / (p : Int)) = ((U m / p : Nat) : Int) := by
  have h := U_lt m
  have h2 : U m / p ≤ U m := Nat.div_le_self _ _
  have e : ((U m : Int) / (p : Int)) = ((U m / p : Nat) : Int) := by norm_cast
  rw [e]
  exact wrap_u64_nat _ (by omega)

set_option maxHeartbeats 400000 in
theorem bit_any (m : Int) (k : Nat) (hk : k < 64) (w : World) :
    Calls Try.prog 131 #[.int .i64 m, .int .i64 k] w fun e w' => e = .returned (.bool (bt m k)) ∧ w = w' := by
  have h1 := pow_u64 k hk
  have h2 := wrap_u64_U m
  have hp : 0 < 2 ^ k := Nat.pos_of_ne_zero (by simp)
  have h3 := bit_val m (2 ^ k)
  have hb := bt_div m k
  generalize (2 ^ k : Nat) = p at *
  generalize bt m k = r at *
  generalize hq : U m / p = q at *
  generalize U m = u at *
  have h4 : ((q : Int) % 2 == 1) = r := by
    rw [← hb, Bool.eq_iff_iff]
    simp only [beq_iff_eq]
    omega
  have hz : ¬ (p : Int) = 0 := by omega
  have H4 := Lib.hid h4
  clear hb h4 hq
  go_enter Try.func131, Try.ntmps131
  go_wp2
  go_ret
  exact ⟨by rw [← H4.out]; rfl, rfl⟩

set_option maxHeartbeats 400000 in
theorem matches_any (m n t a : Int) (w : World) :
    Calls Try.prog 119 #[.int .i64 m, .agg #[.int .i64 n, .int .i64 t, .int .i64 a]] w fun e w' => e = .returned (.bool (matchesB m n t a)) ∧ Below w.heap.size w w' := by
  have hf : matchesB m n t a = ((bits .and .i64 m n == n) && (bits .and .i64 m t == 0) && (a == 0 || bits .and .i64 m a != 0)) := rfl
  generalize matchesB m n t a = r at *
  generalize h1 : (bits .and .i64 m n == n) = b1 at *
  generalize h2 : (bits .and .i64 m t == 0) = b2 at *
  generalize h3 : (a == 0) = b3 at *
  generalize h4 : (bits .and .i64 m a != 0) = b4 at *
  have Hf := Lib.hid hf; clear hf
  cases b1 <;> cases b2 <;> cases b3 <;> cases b4
  all_goals
    go_enter Try.func119, Try.ntmps119
    go_wp2
    go_ret
    exact ⟨by simp [Hf.out], (Below.refl _ _).alloc (Nat.le_refl _) _⟩

set_option maxHeartbeats 4000000 in
theorem refMatches_any (m n t a : Int) (hn : InR n) (w : World) :
    Calls Try.prog 67 #[.int .i64 m, .agg #[.int .i64 n, .int .i64 t, .int .i64 a]] w fun e w' => e = .returned (.bool (matchesB m n t a)) ∧ Below w.heap.size w w' := by
  have hf := matches_eq (m := m) (t := t) (a := a) hn
  have Hf := Lib.hid hf; clear hf
  have h0 : anyTo m a 0 = (a == 0) := by simp [anyTo]
  go_enter Try.func67, Try.ntmps67
  go_wp2
  go_loop [5, 10] (fun s i => ∃ k : Nat, k ≤ 64 ∧ i = .int .i64 k ∧ okTo m n t k = true ∧ s = .bool (anyTo m a k)) (fun _ i => 64 - (intOf i).toNat)
  case atStart => exact ⟨0, by omega, rfl, rfl, by rw [h0]⟩
  case round =>
    obtain ⟨k, hk, rfl, hok, rfl⟩ := hrel
    clear h0
    have hs1 := okTo_succ m n t k
    have hs2 := anyTo_succ m a k
    rw [hok] at hs1
    by_cases hlt : k < 64
    · have hfl := fun h => okTo_false (m := m) (n := n) (t := t) (k := k + 1) (j := 64) h (by omega)
      generalize anyTo m a k = c0 at *
      clear hok
      generalize hb : bt n k = b1 at *
      generalize hc : bt m k = b2 at *
      generalize hd : bt t k = b3 at *
      generalize he : bt a k = b4 at *
      have Hb := Lib.hid hb; have Hc := Lib.hid hc; have Hd := Lib.hid hd; have He := Lib.hid he
      have H1 := Lib.hid hs1; have H2 := Lib.hid hs2; have H3 := Lib.hid hfl
      clear hb hc hd he hs1 hs2 hfl
      cases b1 <;> cases b2 <;> cases b3 <;> cases b4 <;> cases c0
      all_goals
        go_wp2_with (go_at_call 131; refine (bit_any _ _ hlt _).mono ?_; rintro e w' ⟨rfl, rfl⟩; simp only [Hb.out, Hc.out, Hd.out, He.out])
        first
        | (go_ret
           have hz := H3.out (by rw [H1.out]; rfl)
           exact ⟨by rw [Hf.out, hz]; rfl, (Below.refl _ _).alloc (Nat.le_refl _) _⟩)
        | (go_round
           case rel => exact ⟨k + 1, by omega, by go_num, by rw [H1.out]; rfl, by rw [H2.out]; rfl⟩
           case measure => simp [intOf]; omega)
    · have e : k = 64 := by omega
      subst e
      have Hok := Lib.hid hok
      clear hs1 hs2 hok hlt
      go_wp2
      go_ret
      exact ⟨by rw [Hf.out, Hok.out]; rfl, (Below.refl _ _).alloc (Nat.le_refl _) _⟩
end Go.Proofs.Ytkcpmoinpdojjaa
