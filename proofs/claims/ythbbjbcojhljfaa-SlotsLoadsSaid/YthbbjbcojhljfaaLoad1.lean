/- The program's Load: its closures and searches. -/
import Derived.Test.YthbbjbcojhljfaaSlot4
namespace Go.Proofs.Ythbbjbcojhljfaa
open Go.RowKit

def badN (x : Int) : Bool := decide (x < 0) || decide (1000000 < x)
def badK (n : Nat) (x : Int) : Bool := decide (x < 0) || decide ((n : Int) ≤ x)
def anyP (p : Int → Bool) (l : List Int) : Bool := (l.findIdx? p).isSome
theorem badN_lo {x : Int} (h : x < 0) : badN x = true := by simp [badN, h]
theorem badN_hi {x : Int} (h : 1000000 < x) : badN x = true := by simp [badN, h]
theorem badN_in {x : Int} (h : 0 ≤ x) (h' : x ≤ 1000000) : badN x = false := by simp [badN]; omega
theorem badK_lo {n : Nat} {x : Int} (h : x < 0) : badK n x = true := by simp [badK, h]
theorem badK_hi {n : Nat} {x : Int} (h : (n : Int) ≤ x) : badK n x = true := by simp [badK, h]
theorem badK_in {n : Nat} {x : Int} (h : 0 ≤ x) (h' : x < n) : badK n x = false := by simp [badK]; omega

theorem load1_any (x : Int) (w : World) : Calls Try.prog 108 #[.int .i64 x] w fun e w' => e = .returned (.bool (badN x)) ∧ w = w' := by
  by_cases h0 : x < 0
  · have H := Lib.hid (badN_lo h0)
    go_enter Try.func108, Try.ntmps108
    go_wp2
    go_ret
    exact ⟨by rw [H.out]; rfl, rfl⟩
  · by_cases h1 : 1000000 < x
    · have H := Lib.hid (badN_hi h1)
      go_enter Try.func108, Try.ntmps108
      go_wp2
      go_ret
      exact ⟨by rw [H.out]; rfl, rfl⟩
    · have H := Lib.hid (badN_in (x := x) (by omega) (by omega))
      go_enter Try.func108, Try.ntmps108
      go_wp2
      go_ret
      exact ⟨by rw [H.out]; rfl, rfl⟩
theorem load2_any (x : Int) (b : Nat) (A : Option Addr) (n c : Nat) (w : World) (hb : w.cell? ⟨b, 0, none⟩ = some (.slice A n c)) (hn : n ≤ 9223372036854775807) :
    Calls Try.prog 109 #[.int .i64 x, .pointer (some ⟨b, 0, none⟩)] w fun e w' => e = .returned (.bool (badK n x)) ∧ w = w' := by
  by_cases h0 : x < 0
  · have H := Lib.hid (badK_lo (n := n) h0)
    go_enter Try.func109, Try.ntmps109
    go_wp2
    go_ret
    exact ⟨by rw [H.out]; rfl, rfl⟩
  · by_cases h1 : (n : Int) ≤ x
    · have H := Lib.hid (badK_hi h1)
      go_enter Try.func109, Try.ntmps109
      go_wp2
      go_ret
      exact ⟨by rw [H.out]; rfl, rfl⟩
    · have H := Lib.hid (badK_in (n := n) (x := x) (by omega) (by omega))
      go_enter Try.func109, Try.ntmps109
      go_wp2
      go_ret
      exact ⟨by rw [H.out]; rfl, rfl⟩

theorem anyP_cases (p : Int → Bool) (l : List Int) : (anyP p l = true ∧ ∃ k : Nat, firstI p l = k) ∨ (anyP p l = false ∧ firstI p l = -1) := by
  unfold anyP firstI
  cases h : l.findIdx? p with
  | some k => exact .inl ⟨rfl, k, rfl⟩
  | none => exact .inr ⟨rfl, rfl⟩
theorem anyP_false {p : Int → Bool} {l : List Int} (h : anyP p l = false) {k : Nat} (hk : k < l.length) : p l[k] = false := by
  unfold anyP at h
  rw [Option.isSome_eq_false_iff, Option.isNone_iff_eq_none, List.findIdx?_eq_none_iff] at h
  exact h _ (List.getElem_mem hk)
theorem anyP_of {p : Int → Bool} {l : List Int} {k : Nat} (hk : k < l.length) (h : p l[k] = true) : anyP p l = true := by
  cases e : anyP p l with
  | true => rfl
  | false => rw [anyP_false e hk] at h; cases h
theorem anyP_none {p : Int → Bool} {l : List Int} (h : ∀ k (hk : k < l.length), p l[k] = false) : anyP p l = false := by
  unfold anyP
  rw [fi_none h]; rfl

set_option maxHeartbeats 1000000 in
theorem indexN_any (A : Option Addr) (c : Nat) (l : List Int) (B : Nat) (w : World) (hl : l.length ≤ 9223372036854775807) (hA : Lies w B A (ints l)) :
    Calls Try.prog 166 #[.slice A l.length c, .func (.func 108) #[] #[]] w fun e w' => e = .returned (.int .i64 (firstI badN l)) ∧ w = w' := by
  go_enter Try.func166, Try.ntmps166
  go_wp2
  go_loop [8] (fun i => ∃ k : Nat, k ≤ l.length ∧ i = .int .i64 k ∧ (∀ j (h : j < k) (h' : j < l.length), badN l[j] = false)) (fun i => l.length - (intOf i).toNat)
  case atStart => exact ⟨0, by omega, rfl, fun j h => by omega⟩
  case round =>
    obtain ⟨k, hk, rfl, hno⟩ := hrel
    by_cases hlt : k < l.length
    · obtain ⟨a, rfl, hb, hc⟩ := hA.int hlt
      have hyes : badN l[k] = true → firstI badN l = k := fun h => firstI_some (fi_some hlt h fun j hj => hno j hj (by omega))
      have hno2 : badN l[k] = false → ∀ j (h : j < k + 1) (h' : j < l.length), badN l[j] = false := by
        intro hf j h h'
        by_cases e : j = k
        · subst e; exact hf
        · exact hno j (by omega) h'
      have ht := load1_any l[k] w
      generalize hf : badN l[k] = r at *
      generalize l[k] = x at *
      have Hno2 := Lib.hid hno2; have Hyes := Lib.hid hyes; have Ht := Lib.hid ht
      clear hno hno2 hyes ht hf hA
      cases r with
      | true =>
        have H := Lib.hid (Hyes.out rfl)
        go_wp2_with (go_at_call 108; refine (Ht.out).mono ?_; rintro e w1 ⟨rfl, rfl⟩)
        go_ret
        exact ⟨by rw [H.out]; rfl, rfl⟩
      | false =>
        go_wp2_with (go_at_call 108; refine (Ht.out).mono ?_; rintro e w1 ⟨rfl, rfl⟩)
        go_round
        case rel => exact ⟨k + 1, by omega, by go_num, Hno2.out trivial⟩
        case measure => simp [intOf]; omega
    · have hf : firstI badN l = -1 := firstI_none (fi_none fun j hj => hno j (by omega) hj)
      have H := Lib.hid hf
      clear hf hno
      go_wp2
      go_ret
      exact ⟨by rw [H.out]; rfl, rfl⟩
theorem containsN_any (A : Option Addr) (c : Nat) (l : List Int) (B : Nat) (w : World) (hl : l.length ≤ 9223372036854775807) (hA : Lies w B A (ints l)) :
    Calls Try.prog 107 #[.slice A l.length c, .func (.func 108) #[] #[]] w fun e w' => e = .returned (.bool (anyP badN l)) ∧ w = w' := by
  have hi := indexN_any A c l B w hl hA
  rcases anyP_cases badN l with ⟨h1, k, h2⟩ | ⟨h1, h2⟩
  · rw [h2] at hi
    have Hi := Lib.hid hi; have H := Lib.hid h1
    have hp : decide ((0 : Int) ≤ (k : Int)) = true := by simp
    clear hi hA h1 h2
    go_enter Try.func107, Try.ntmps107
    go_wp2_with fail
    refine (Hi.out).mono ?_
    rintro e w1 ⟨rfl, rfl⟩
    go_wp2
    go_ret
    exact ⟨by rw [H.out]; rfl, rfl⟩
  · rw [h2] at hi
    have Hi := Lib.hid hi; have H := Lib.hid h1
    clear hi hA h1 h2
    go_enter Try.func107, Try.ntmps107
    go_wp2_with fail
    refine (Hi.out).mono ?_
    rintro e w1 ⟨rfl, rfl⟩
    go_wp2
    go_ret
    exact ⟨by rw [H.out]; rfl, rfl⟩

set_option maxHeartbeats 1000000 in
theorem indexK_any (b : Nat) (A1 : Option Addr) (n c1 : Nat) (A : Option Addr) (c : Nat) (l : List Int) (B : Nat) (w : World) (hl : l.length ≤ 9223372036854775807) (hA : Lies w B A (ints l)) (hbx : w.cell? ⟨b, 0, none⟩ = some (.slice A1 n c1)) (hn : n ≤ 9223372036854775807) :
    Calls Try.prog 166 #[.slice A l.length c, .func (.func 109) #[] #[.pointer (some ⟨b, 0, none⟩)]] w fun e w' => e = .returned (.int .i64 (firstI (badK n) l)) ∧ w = w' := by
  go_enter Try.func166, Try.ntmps166
  go_wp2
  go_loop [8] (fun i => ∃ k : Nat, k ≤ l.length ∧ i = .int .i64 k ∧ (∀ j (h : j < k) (h' : j < l.length), (badK n) l[j] = false)) (fun i => l.length - (intOf i).toNat)
  case atStart => exact ⟨0, by omega, rfl, fun j h => by omega⟩
  case round =>
    obtain ⟨k, hk, rfl, hno⟩ := hrel
    by_cases hlt : k < l.length
    · obtain ⟨a, rfl, hb, hc⟩ := hA.int hlt
      have hyes : (badK n) l[k] = true → firstI (badK n) l = k := fun h => firstI_some (fi_some hlt h fun j hj => hno j hj (by omega))
      have hno2 : (badK n) l[k] = false → ∀ j (h : j < k + 1) (h' : j < l.length), (badK n) l[j] = false := by
        intro hf j h h'
        by_cases e : j = k
        · subst e; exact hf
        · exact hno j (by omega) h'
      have ht := load2_any l[k] b A1 n c1 w hbx hn
      generalize hf : (badK n) l[k] = r at *
      generalize l[k] = x at *
      have Hno2 := Lib.hid hno2; have Hyes := Lib.hid hyes; have Ht := Lib.hid ht
      clear hno hno2 hyes ht hf hA
      cases r with
      | true =>
        have H := Lib.hid (Hyes.out rfl)
        go_wp2_with (go_at_call 109; refine (Ht.out).mono ?_; rintro e w1 ⟨rfl, rfl⟩)
        go_ret
        exact ⟨by rw [H.out]; rfl, rfl⟩
      | false =>
        go_wp2_with (go_at_call 109; refine (Ht.out).mono ?_; rintro e w1 ⟨rfl, rfl⟩)
        go_round
        case rel => exact ⟨k + 1, by omega, by go_num, Hno2.out trivial⟩
        case measure => simp [intOf]; omega
    · have hf : firstI (badK n) l = -1 := firstI_none (fi_none fun j hj => hno j (by omega) hj)
      have H := Lib.hid hf
      clear hf hno
      go_wp2
      go_ret
      exact ⟨by rw [H.out]; rfl, rfl⟩
theorem containsK_any (b : Nat) (A1 : Option Addr) (n c1 : Nat) (A : Option Addr) (c : Nat) (l : List Int) (B : Nat) (w : World) (hl : l.length ≤ 9223372036854775807) (hA : Lies w B A (ints l)) (hbx : w.cell? ⟨b, 0, none⟩ = some (.slice A1 n c1)) (hn : n ≤ 9223372036854775807) :
    Calls Try.prog 107 #[.slice A l.length c, .func (.func 109) #[] #[.pointer (some ⟨b, 0, none⟩)]] w fun e w' => e = .returned (.bool (anyP (badK n) l)) ∧ w = w' := by
  have hi := indexK_any b A1 n c1 A c l B w hl hA hbx hn
  rcases anyP_cases (badK n) l with ⟨h1, k, h2⟩ | ⟨h1, h2⟩
  · rw [h2] at hi
    have Hi := Lib.hid hi; have H := Lib.hid h1
    have hp : decide ((0 : Int) ≤ (k : Int)) = true := by simp
    clear hi hA h1 h2
    go_enter Try.func107, Try.ntmps107
    go_wp2_with fail
    refine (Hi.out).mono ?_
    rintro e w1 ⟨rfl, rfl⟩
    go_wp2
    go_ret
    exact ⟨by rw [H.out]; rfl, rfl⟩
  · rw [h2] at hi
    have Hi := Lib.hid hi; have H := Lib.hid h1
    clear hi hA h1 h2
    go_enter Try.func107, Try.ntmps107
    go_wp2_with fail
    refine (Hi.out).mono ?_
    rintro e w1 ⟨rfl, rfl⟩
    go_wp2
    go_ret
    exact ⟨by rw [H.out]; rfl, rfl⟩
end Go.Proofs.Ythbbjbcojhljfaa
