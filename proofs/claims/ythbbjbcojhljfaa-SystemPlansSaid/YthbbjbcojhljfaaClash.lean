/- The contracts of Clash and of the reference's Clash. -/
import Derived.Test.YthbbjbcojhljfaaSys
import Derived.Test.YthbbjbcojhljfaaFlat
namespace Go.Proofs.Ythbbjbcojhljfaa
open Go.RowKit

/-- A system: query, Read, Write, Do, N. -/
structure Sy where
  n : Int
  t : Int
  a : Int
  r : Int
  s : Int
  d : Int
  x : Int
def Sy.cells (p : Sy) : List Int := [p.n, p.t, p.a, p.r, p.s, p.d, p.x]
theorem Sy.cells_len (p : Sy) : p.cells.length = 7 := rfl
theorem Sy.mk_cells (zs : List Int) (h : zs.length = 7) : ∃ p : Sy, p.cells = zs := by
  match zs, h with
  | [n, t, a, r, s, d, x], _ => exact ⟨⟨n, t, a, r, s, d, x⟩, rfl⟩
def Sy.val (p : Sy) : Value := .agg #[.int .i64 p.n, .int .i64 p.t, .int .i64 p.a, .int .i64 p.r, .int .i64 p.s, .int .i64 p.d, .int .i64 p.x]

/-- Bit k of both. -/
def clashAt (p q : Sy) (k : Nat) : Bool := (bt p.s k && (bt q.r k || bt q.s k)) || (bt q.s k && bt p.r k)
def clashB (p q : Sy) : Bool := bits .or .i64 (bits .and .i64 p.s (bits .or .i64 q.r q.s)) (bits .and .i64 q.s p.r) != 0
def noClashTo (p q : Sy) (k : Nat) : Bool := (List.range k).all fun j => !clashAt p q j
theorem noClashTo_succ (p q : Sy) (k : Nat) : noClashTo p q (k + 1) = (noClashTo p q k && !clashAt p q k) := by simp [noClashTo, List.range_succ]
theorem noClash_iff (p q : Sy) : noClashTo p q 64 = true ↔ ∀ k, k < 64 → clashAt p q k = false := by
  unfold noClashTo
  rw [List.all_eq_true]
  simp
theorem clash_iff (p q : Sy) : clashB p q = false ↔ ∀ k, k < 64 → clashAt p q k = false := by
  unfold clashB
  rw [bne_eq_false_iff_eq, zero_iff (bits_or_inR _ _)]
  have : ∀ k, bt (bits .or .i64 (bits .and .i64 p.s (bits .or .i64 q.r q.s)) (bits .and .i64 q.s p.r)) k = clashAt p q k := by
    intro k
    rw [bt_or, bt_and, bt_or, bt_and]
    rfl
  simp only [this]
theorem clash_eq (p q : Sy) : clashB p q = !noClashTo p q 64 := by
  have h1 := noClash_iff p q
  rw [← clash_iff] at h1
  cases hb : clashB p q <;> cases hc : noClashTo p q 64 <;> simp_all
theorem clashAt_symm (p q : Sy) (k : Nat) : clashAt p q k = clashAt q p k := by
  unfold clashAt
  cases bt p.s k <;> cases bt q.s k <;> cases bt p.r k <;> cases bt q.r k <;> rfl
theorem clash_symm (p q : Sy) : clashB p q = clashB q p := by
  have h1 := clash_iff p q
  have h2 := clash_iff q p
  simp only [clashAt_symm q p] at h2
  rw [← h1] at h2
  cases hb : clashB p q <;> cases hc : clashB q p <;> simp_all

set_option maxHeartbeats 400000 in
theorem clash_any (p q : Sy) (w : World) :
    Calls Try.prog 39 #[p.val, q.val] w fun e w' => e = .returned (.bool (clashB p q)) ∧ Below w.heap.size w w' := by
  obtain ⟨n, t, a, r, s, d, x⟩ := p
  obtain ⟨n', t', a', r', s', d', x'⟩ := q
  go_enter Try.func39, Try.ntmps39
  simp only [Sy.val]
  go_wp2
  go_ret
  exact ⟨rfl, ((Below.refl _ _).alloc (Nat.le_refl _) _).alloc (by simp) _⟩

theorem noClash_stop {p q : Sy} {k : Nat} (hk : k < 64) (h : clashAt p q k = true) : clashB p q = true := by
  rw [clash_eq, Bool.not_eq_true', noClashTo, List.all_eq_false]
  exact ⟨k, by simpa using hk, by simp [h]⟩

set_option maxHeartbeats 4000000 in
theorem refClash_any (p q : Sy) (w : World) :
    Calls Try.prog 40 #[p.val, q.val] w fun e w' => e = .returned (.bool (clashB p q)) ∧ Below w.heap.size w w' := by
  have hstop := fun k => noClash_stop (p := p) (q := q) (k := k)
  have hend := clash_eq p q
  have hat : ∀ k, clashAt p q k = ((bt p.s k && (bt q.r k || bt q.s k)) || (bt q.s k && bt p.r k)) := fun k => rfl
  have hsucc := noClashTo_succ p q
  have hzero : noClashTo p q 0 = true := rfl
  generalize noClashTo p q = NC at *
  generalize clashAt p q = CA at *
  generalize clashB p q = r0 at *
  obtain ⟨n, t, a, r, s, d, x⟩ := p
  obtain ⟨n', t', a', r', s', d', x'⟩ := q
  simp only [] at hat
  have Hstop := Lib.hid hstop; have Hend := Lib.hid hend; have Hat := Lib.hid hat; have Hsucc := Lib.hid hsucc; have Hzero := Lib.hid hzero
  clear hstop hend hat hsucc hzero
  go_enter Try.func40, Try.ntmps40
  simp only [Sy.val]
  go_wp2
  go_loop [6] (fun i => ∃ k : Nat, k ≤ 64 ∧ i = .int .i64 k ∧ NC k = true) (fun i => 64 - (intOf i).toNat)
  case atStart => exact ⟨0, by omega, rfl, Hzero.out⟩
  case round =>
    obtain ⟨k, hk, rfl, hok⟩ := hrel
    have Hok := Lib.hid hok
    clear hok
    by_cases hlt : k < 64
    · have hs := Hat.out k
      have hn := Hsucc.out k
      have hst := Hstop.out k hlt
      rw [Hok.out] at hn
      generalize CA k = c at *
      generalize hb : bt s k = b1 at *
      generalize hc : bt r' k = b2 at *
      generalize hd : bt s' k = b3 at *
      generalize he : bt r k = b4 at *
      have Hb := Lib.hid hb; have Hc := Lib.hid hc; have Hd := Lib.hid hd; have He := Lib.hid he
      have Hs := Lib.hid hs; have Hn := Lib.hid hn; have Hst := Lib.hid hst
      clear hb hc hd he hs hn hst
      cases b1 <;> cases b2 <;> cases b3 <;> cases b4
      all_goals
        go_wp2_with (go_at_call 100; refine (bit_any _ _ hlt _).mono ?_; rintro e w' ⟨rfl, rfl⟩; simp only [Hb.out, Hc.out, Hd.out, He.out])
        first
        | (go_ret
           have hz := Hst.out (by rw [Hs.out]; rfl)
           exact ⟨by rw [hz]; rfl, ((Below.refl _ _).alloc (Nat.le_refl _) _).alloc (by simp) _⟩)
        | (go_round
           case rel => exact ⟨k + 1, by omega, by go_num, by rw [Hn.out, Hs.out]; rfl⟩
           case measure => simp [intOf]; omega)
    · obtain rfl : k = 64 := by omega
      have he : r0 = false := by rw [Hend.out, Hok.out]; rfl
      have He := Lib.hid he
      clear he
      go_wp2
      go_ret
      exact ⟨by rw [He.out]; rfl, ((Below.refl _ _).alloc (Nat.le_refl _) _).alloc (by simp) _⟩
end Go.Proofs.Ythbbjbcojhljfaa
