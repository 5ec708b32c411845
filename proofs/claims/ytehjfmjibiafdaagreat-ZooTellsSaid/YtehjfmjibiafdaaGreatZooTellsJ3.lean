import Derived.Test.YtehjfmjibiafdaaGreatZooTellsJ2
import Derived.Lib.BitFns
import Derived.Lib.Strings
import Derived.Lib.Slices
import Derived.Lib.Small
import Derived.Lib.Walk
/- The contracts of Rest, HasKind, CheckBeast and the reference's BeastCheck. -/
namespace Go.Proofs.YtehjfmjibiafdaaGreat
open Go.RowKit

theorem tmod_facts (n m : Int) (hm : 0 < m) : -m < n.tmod m ∧ n.tmod m < m ∧ (n.tmod m < 0 → n.tmod m + m = n % m) ∧ (0 ≤ n.tmod m → n.tmod m = n % m) := by
  by_cases hn : 0 ≤ n
  · have h := Int.tmod_eq_emod_of_nonneg (b := m) hn
    have h1 := Int.emod_nonneg n (by omega : m ≠ 0)
    have h2 := Int.emod_lt_of_pos n hm
    rw [h]
    exact ⟨by omega, h2, by omega, fun _ => rfl⟩
  · obtain ⟨k, rfl⟩ : ∃ k, n = -k := ⟨-n, by omega⟩
    have hk : 0 ≤ k := by omega
    have h := Int.tmod_eq_emod_of_nonneg (b := m) hk
    have h1 := Int.emod_nonneg k (by omega : m ≠ 0)
    have h2 := Int.emod_lt_of_pos k hm
    rw [Int.neg_tmod, h]
    have h3 : (-k) % m = (-(k % m)) % m := by
      have h4 := Int.emod_add_mul_ediv k m
      have h5 : -k = -(k % m) + m * (-(k / m)) := by rw [Int.mul_neg]; omega
      rw [h5, Int.add_mul_emod_self_left]
    refine ⟨by omega, by omega, fun hlt => ?_, fun hge => ?_⟩
    · rw [h3]
      have h6 : (-(k % m)) % m = (-(k % m) + m) % m := by
        have := Int.add_mul_emod_self_left (-(k % m)) m 1
        rw [Int.mul_one] at this
        exact this.symm
      rw [h6]
      exact (Int.emod_eq_of_lt (by omega) (by omega)).symm
    · have h7 : k % m = 0 := by omega
      rw [h3, h7]; simp

set_option maxHeartbeats 400000 in
theorem rest_any (n m : Int) (hm : 0 < m) (hm2 : m ≤ 4611686018427387904) (w : World) :
    Calls Tryz.prog 144 #[.int .i64 n, .int .i64 m] w fun e w' => e = .returned (.int .i64 (n % m)) ∧ w = w' := by
  obtain ⟨h1, h2, h3, h4⟩ := tmod_facts n m hm
  generalize hr : n % m = r at *
  have H3 := Lib.hid h3; have H4 := Lib.hid h4
  clear h3 h4 hr
  have hm0 : ¬ m = 0 := by omega
  by_cases hlt : n.tmod m < 0
  · have H := Lib.hid (H3.out hlt)
    go_enter Tryz.func144, Tryz.ntmps144
    go_wp2
    go_ret
    exact ⟨by rw [← H.out]; rfl, rfl⟩
  · have H := Lib.hid (H4.out (by omega))
    go_enter Tryz.func144, Tryz.ntmps144
    go_wp2
    go_ret
    exact ⟨by rw [← H.out]; rfl, rfl⟩

/-- Is kind k in the set m (its rest by 256)? -/
def hasK (m : Int) (k : Nat) : Bool := (m % 256).toNat.testBit k
theorem hasK_val (m : Int) (k : Nat) : (((m % 256) / pw k) % 2 == 1) = hasK m k := by
  have h0 := Int.emod_nonneg m (by omega : (256 : Int) ≠ 0)
  unfold hasK
  obtain ⟨r, hr⟩ := Int.eq_ofNat_of_zero_le h0
  rw [hr, Nat.testBit_eq_decide_div_mod_eq]
  have e : ((r : Int) / pw k) = ((r / 2 ^ k : Nat) : Int) := by unfold pw; norm_cast
  rw [e, Bool.eq_iff_iff]
  simp only [beq_iff_eq, decide_eq_true_eq, Int.toNat_natCast]
  omega

set_option maxHeartbeats 400000 in
theorem hasKind_any (m : Int) (k : Nat) (hk : k < 62) (w : World) :
    Calls Tryz.prog 102 #[.int .i64 m, .int .i64 k] w fun e w' => e = .returned (.bool (hasK m k)) ∧ w = w' := by
  have hv := hasK_val m k
  have hp0 := pw_pos k
  have hp1 := pw_lt hk
  have h0 := Int.emod_nonneg m (by omega : (256 : Int) ≠ 0)
  have h1 := Int.emod_lt_of_pos m (by omega : (0 : Int) < 256)
  have hq0 : 0 ≤ (m % 256) / pw k := Int.ediv_nonneg h0 (by omega)
  have hq1 : (m % 256) / pw k ≤ m % 256 := Int.ediv_le_self _ h0
  have hr := fun w => rest_any m 256 (by omega) (by omega) w
  have hpw := fun w => power_any k hk w
  generalize m % 256 = c at *
  generalize pw k = p at *
  generalize hasK m k = r at *
  have Hr := Lib.hid hr; have Hp := Lib.hid hpw; have Hv := Lib.hid hv
  clear hr hpw hv
  have hz : ¬ p = 0 := by omega
  go_enter Tryz.func102, Tryz.ntmps102
  go_wp2_with (first | (go_at_call 144; refine (Hr.out _).mono ?_; rintro e w' ⟨rfl, rfl⟩) | (go_at_call 103; refine (Hp.out _).mono ?_; rintro e w' ⟨rfl, rfl⟩))
  go_ret
  exact ⟨by rw [← Hv.out]; rfl, rfl⟩

/-- What is wrong with the values from place k on. -/
def beastGo (K : Int) : Nat → List Int → Int
  | _, [] => 0
  | k, v :: vs => if hasK K k = false ∧ v ≠ 0 then 4 else if v < -1000000000 ∨ 1000000000 < v then 1 else beastGo K (k + 1) vs
def beastE (K : Int) (vs : List Int) : Int := if isSetB K = true then beastGo K 0 vs else 1
theorem beastGo_drop (K : Int) (vs : List Int) (k : Nat) (h : k < vs.length) :
    beastGo K k (vs.drop k) = if hasK K k = false ∧ vs[k] ≠ 0 then 4 else if vs[k] < -1000000000 ∨ 1000000000 < vs[k] then 1 else beastGo K (k + 1) (vs.drop (k + 1)) := by
  rw [List.drop_eq_getElem_cons h, beastGo]
theorem beastGo_end (K : Int) (vs : List Int) (k : Nat) (h : vs.length ≤ k) : beastGo K k (vs.drop k) = 0 := by
  rw [List.drop_eq_nil_of_le h, beastGo]

theorem index8 (a0 a1 a2 a3 a4 a5 a6 a7 : Int) (k : Nat) (hk : k < [a0, a1, a2, a3, a4, a5, a6, a7].length) (w : World) :
    (Instr.index 48 (.agg #[.int .i64 a0, .int .i64 a1, .int .i64 a2, .int .i64 a3, .int .i64 a4, .int .i64 a5, .int .i64 a6, .int .i64 a7]) (.int .i64 k)).run Tryz.prog w = .ok (.int .i64 ([a0, a1, a2, a3, a4, a5, a6, a7][k])) w := by
  match k, hk with
  | 0, _ => exact (by show _ = _; kernel_rfl)
  | 1, _ => exact (by show _ = _; kernel_rfl)
  | 2, _ => exact (by show _ = _; kernel_rfl)
  | 3, _ => exact (by show _ = _; kernel_rfl)
  | 4, _ => exact (by show _ = _; kernel_rfl)
  | 5, _ => exact (by show _ = _; kernel_rfl)
  | 6, _ => exact (by show _ = _; kernel_rfl)
  | 7, _ => exact (by show _ = _; kernel_rfl)
  | k + 8, h => exact absurd h (by simp)

theorem isSetB_nat {K : Int} (h : isSetB K = true) : ∃ m : Nat, K = m ∧ m < 256 := by
  simp only [isSetB, Bool.and_eq_true, decide_eq_true_eq] at h
  exact ⟨K.toNat, by omega, by omega⟩
theorem hasK_nat (m k : Nat) (h : m < 256) : hasK m k = m.testBit k := by
  unfold hasK
  have : ((m : Int) % 256).toNat = m := by omega
  rw [this]
theorem and_bit0 : ∀ m : Fin 256, ∀ x : Fin 8, (bits .and .i64 ((m.val : Int) / 2 ^ x.val) 1 == 0) = !m.val.testBit x.val := by decide +kernel

set_option maxHeartbeats 1000000 in
theorem checkBeast_any (K a0 a1 a2 a3 a4 a5 a6 a7 : Int) (w : World) :
    Calls Tryz.prog 79 #[.agg #[.int .i64 K, .int .i64 a0, .int .i64 a1, .int .i64 a2, .int .i64 a3, .int .i64 a4, .int .i64 a5, .int .i64 a6, .int .i64 a7]] w fun e w' => e = .returned (.int .i64 (beastE K [a0, a1, a2, a3, a4, a5, a6, a7])) ∧ Below w.heap.size w w' := by
  cases hK : isSetB K with
  | false =>
    have hf : beastE K [a0, a1, a2, a3, a4, a5, a6, a7] = 1 := by simp [beastE, hK]
    have HK := Lib.hid hK; have Hf := Lib.hid hf
    clear hK hf
    go_enter Tryz.func79, Tryz.ntmps79
    go_wp2_with (go_at_call 110; refine (isSet_any _ _).mono ?_; rintro e w' ⟨rfl, rfl⟩; simp only [HK.out])
    go_ret
    exact ⟨by rw [Hf.out]; rfl, (Below.refl _ _).alloc (Nat.le_refl _) _⟩
  | true =>
    obtain ⟨m, rfl, hm⟩ := isSetB_nat hK
    have hf : beastE m [a0, a1, a2, a3, a4, a5, a6, a7] = beastGo m 0 ([a0, a1, a2, a3, a4, a5, a6, a7].drop 0) := by simp [beastE, hK]
    have hix := index8 a0 a1 a2 a3 a4 a5 a6 a7
    have hstep := beastGo_drop m [a0, a1, a2, a3, a4, a5, a6, a7]
    have hend := beastGo_end m [a0, a1, a2, a3, a4, a5, a6, a7]
    have hlen : [a0, a1, a2, a3, a4, a5, a6, a7].length = 8 := rfl
    have hmem : ∀ (W : World), (∀ x, W.cell? x = (w.alloc (.cells #[.int .i64 m, .int .i64 a0, .int .i64 a1, .int .i64 a2, .int .i64 a3, .int .i64 a4, .int .i64 a5, .int .i64 a6, .int .i64 a7] 50)).cell? x) → True := fun _ _ => trivial
    clear hmem
    have HK := Lib.hid hK; have Hf := Lib.hid hf; have Hix := Lib.hid hix; have Hstep := Lib.hid hstep; have Hend := Lib.hid hend
    clear hK hf hix hstep hend hlen
    go_enter Tryz.func79, Tryz.ntmps79
    go_wp2_with (go_at_call 110; refine (isSet_any _ _).mono ?_; rintro e w' ⟨rfl, rfl⟩; simp only [HK.out])
    go_loop [11] (fun i => ∃ k : Nat, k ≤ 8 ∧ i = .int .i64 k ∧ beastGo m k ([a0, a1, a2, a3, a4, a5, a6, a7].drop k) = beastGo m 0 ([a0, a1, a2, a3, a4, a5, a6, a7].drop 0)) (fun i => 8 - (Go.RowKit.intOf i).toNat)
    case atStart => exact ⟨0, by omega, rfl, rfl⟩
    case round =>
      obtain ⟨k, hk, rfl, hgo⟩ := hrel
      by_cases hlt : k < 8
      · have hlt' : k < [a0, a1, a2, a3, a4, a5, a6, a7].length := hlt
        have hix := Hix.out k hlt'
        have hst := Hstep.out k hlt'
        have hb := and_bit0 ⟨m, hm⟩ ⟨k, hlt⟩
        simp only [] at hb
        rw [← hasK_nat m k hm] at hb
        rw [hgo] at hst
        generalize [a0, a1, a2, a3, a4, a5, a6, a7][k] = x at *
        have Hgo := Lib.hid hgo; have Hst := Lib.hid hst
        clear hgo hst hlt'
        generalize hb' : hasK m k = b at *
        clear hb'
        cases b with
        | false =>
          by_cases hx : x = 0
          · subst hx
            have hz : ((0 : Int) != 0) = false := rfl
            go_wp2
            go_round
            case rel => exact ⟨k + 1, by omega, by go_num, by rw [Hst.out]; simp⟩
            case measure => simp [Go.RowKit.intOf]; omega
          · have hz : (x != 0) = true := by simpa using hx
            have Hx := Lib.hid hx
            clear hx
            go_wp2
            go_ret
            exact ⟨by rw [Hf.out, Hst.out, if_pos ⟨by simp, Hx.out⟩]; rfl, (Below.refl _ _).alloc (Nat.le_refl _) _⟩
        | true =>
          have h1 : ¬ ((true : Bool) = false ∧ x ≠ 0) := by simp
          have H1 := Lib.hid h1
          clear h1
          by_cases hx : x < -1000000000 ∨ 1000000000 < x
          · have Hx := Lib.hid hx
            rcases hx with hx | hx
            all_goals
              go_wp2
              go_ret
              exact ⟨by rw [Hf.out, Hst.out, if_neg H1.out, if_pos Hx.out]; rfl, (Below.refl _ _).alloc (Nat.le_refl _) _⟩
          · have Hx := Lib.hid hx
            have hx1 : -1000000000 ≤ x := by omega
            have hx2 : x ≤ 1000000000 := by omega
            clear hx
            go_wp2
            go_round
            case rel => exact ⟨k + 1, by omega, by go_num, by rw [Hst.out, if_neg H1.out, if_neg Hx.out]⟩
            case measure => simp [Go.RowKit.intOf]; omega
      · obtain rfl : k = 8 := by omega
        have Hgo := Lib.hid hgo
        clear hgo
        go_wp2
        go_ret
        exact ⟨by rw [Hf.out, ← Hgo.out, Hend.out 8 (by simp)]; rfl, (Below.refl _ _).alloc (Nat.le_refl _) _⟩

set_option maxHeartbeats 1000000 in
theorem beastCheck_any (K a0 a1 a2 a3 a4 a5 a6 a7 : Int) (w : World) :
    Calls Tryz.prog 83 #[.agg #[.int .i64 K, .int .i64 a0, .int .i64 a1, .int .i64 a2, .int .i64 a3, .int .i64 a4, .int .i64 a5, .int .i64 a6, .int .i64 a7]] w fun e w' => e = .returned (.int .i64 (beastE K [a0, a1, a2, a3, a4, a5, a6, a7])) ∧ Below w.heap.size w w' := by
  have ho := outsideB_set K
  cases hK : isSetB K with
  | false =>
    have hf : beastE K [a0, a1, a2, a3, a4, a5, a6, a7] = 1 := by simp [beastE, hK]
    rw [hK] at ho
    have HK := Lib.hid ho; have Hf := Lib.hid hf
    clear ho hK hf
    go_enter Tryz.func83, Tryz.ntmps83
    go_wp2_with (go_at_call 101; refine (outside_any _ _ _ _).mono ?_; rintro e w' ⟨rfl, rfl⟩; simp only [HK.out, Bool.not_false])
    go_ret
    exact ⟨by rw [Hf.out]; rfl, (Below.refl _ _).alloc (Nat.le_refl _) _⟩
  | true =>
    obtain ⟨m, rfl, hm⟩ := isSetB_nat hK
    have hf : beastE m [a0, a1, a2, a3, a4, a5, a6, a7] = beastGo m 0 ([a0, a1, a2, a3, a4, a5, a6, a7].drop 0) := by simp [beastE, hK]
    have hix := index8 a0 a1 a2 a3 a4 a5 a6 a7
    have hstep := beastGo_drop m [a0, a1, a2, a3, a4, a5, a6, a7]
    have hend := beastGo_end m [a0, a1, a2, a3, a4, a5, a6, a7]
    rw [hK] at ho
    have HK := Lib.hid ho; have Hf := Lib.hid hf; have Hix := Lib.hid hix; have Hstep := Lib.hid hstep; have Hend := Lib.hid hend
    clear hK ho hf hix hstep hend
    go_enter Tryz.func83, Tryz.ntmps83
    go_wp2_with (go_at_call 101; refine (outside_any _ _ _ _).mono ?_; rintro e w' ⟨rfl, rfl⟩; simp only [HK.out, Bool.not_true])
    go_loop [10] (fun i => ∃ k : Nat, k ≤ 8 ∧ i = .int .i64 k ∧ beastGo m k ([a0, a1, a2, a3, a4, a5, a6, a7].drop k) = beastGo m 0 ([a0, a1, a2, a3, a4, a5, a6, a7].drop 0)) (fun i => 8 - (Go.RowKit.intOf i).toNat)
    case atStart => exact ⟨0, by omega, rfl, rfl⟩
    case round =>
      obtain ⟨k, hk, rfl, hgo⟩ := hrel
      by_cases hlt : k < 8
      · have hlt' : k < [a0, a1, a2, a3, a4, a5, a6, a7].length := hlt
        have hix := Hix.out k hlt'
        have hst := Hstep.out k hlt'
        have hkind := fun w => hasKind_any m k (by omega) w
        rw [hgo] at hst
        generalize [a0, a1, a2, a3, a4, a5, a6, a7][k] = x at *
        have Hgo := Lib.hid hgo; have Hst := Lib.hid hst
        clear hgo hst hlt'
        generalize hb' : hasK m k = b at *
        have Hkind := Lib.hid hkind
        clear hb' hkind
        have hox : outsideB x (-1000000000) 1000000000 = (decide (x < -1000000000) || decide (1000000000 < x)) := rfl
        cases b with
        | false =>
          by_cases hx : x = 0
          · subst hx
            have hz : ((0 : Int) != 0) = false := rfl
            have Hox := Lib.hid hox
            clear hox
            go_wp2_with (first | (go_at_call 102; refine (Hkind.out _).mono ?_; rintro e w' ⟨rfl, rfl⟩) | (go_at_call 101; refine (outside_any _ _ _ _).mono ?_; rintro e w' ⟨rfl, rfl⟩; simp only [Hox.out]))
            go_round
            case rel => exact ⟨k + 1, by omega, by go_num, by rw [Hst.out]; simp⟩
            case measure => simp [Go.RowKit.intOf]; omega
          · have hz : (x != 0) = true := by simpa using hx
            have Hx := Lib.hid hx
            clear hx hox
            go_wp2_with (go_at_call 102; refine (Hkind.out _).mono ?_; rintro e w' ⟨rfl, rfl⟩)
            go_ret
            exact ⟨by rw [Hf.out, Hst.out, if_pos ⟨by simp, Hx.out⟩]; rfl, (Below.refl _ _).alloc (Nat.le_refl _) _⟩
        | true =>
          have h1 : ¬ ((true : Bool) = false ∧ x ≠ 0) := by simp
          have H1 := Lib.hid h1
          clear h1
          by_cases hx : x < -1000000000 ∨ 1000000000 < x
          · have hox2 : outsideB x (-1000000000) 1000000000 = true := by rw [hox]; simpa using hx
            have Hx := Lib.hid hx; have Hox := Lib.hid hox2
            clear hx hox hox2
            go_wp2_with (first | (go_at_call 102; refine (Hkind.out _).mono ?_; rintro e w' ⟨rfl, rfl⟩) | (go_at_call 101; refine (outside_any _ _ _ _).mono ?_; rintro e w' ⟨rfl, rfl⟩; simp only [Hox.out]))
            go_ret
            exact ⟨by rw [Hf.out, Hst.out, if_neg H1.out, if_pos Hx.out]; rfl, (Below.refl _ _).alloc (Nat.le_refl _) _⟩
          · have hox2 : outsideB x (-1000000000) 1000000000 = false := by rw [hox]; simp; omega
            have Hx := Lib.hid hx; have Hox := Lib.hid hox2
            clear hx hox hox2
            go_wp2_with (first | (go_at_call 102; refine (Hkind.out _).mono ?_; rintro e w' ⟨rfl, rfl⟩) | (go_at_call 101; refine (outside_any _ _ _ _).mono ?_; rintro e w' ⟨rfl, rfl⟩; simp only [Hox.out]))
            go_round
            case rel => exact ⟨k + 1, by omega, by go_num, by rw [Hst.out, if_neg H1.out, if_neg Hx.out]⟩
            case measure => simp [Go.RowKit.intOf]; omega
      · obtain rfl : k = 8 := by omega
        have Hgo := Lib.hid hgo
        clear hgo
        go_wp2
        go_ret
        exact ⟨by rw [Hf.out, ← Hgo.out, Hend.out 8 (by simp)]; rfl, (Below.refl _ _).alloc (Nat.le_refl _) _⟩
end Go.Proofs.YtehjfmjibiafdaaGreat

/- The contracts of List and Count and of the reference's Kinds. -/
namespace Go.Proofs.YtehjfmjibiafdaaGreat
open Go.RowKit

theorem ntz8_w (x : Nat) (h : x < 256) : wrap64 (Lib.ntz8 (x : Int)) = (Lib.trailingZeros8 x : Int) := by
  have e := Lib.ntz8_eq ⟨x, h⟩
  have l := Lib.trailingZeros8_le8 ⟨x, h⟩
  simp only at e l
  rw [e]
  exact IntWalk.wrap64_in _ ⟨by omega, by omega⟩
set_option maxRecDepth 100000 in
set_option maxHeartbeats 1000000 in
theorem ntz8_int (x : Int) (h0 : 0 ≤ x) (h1 : x ≤ 255) (w : World) :
    Calls Tryz.prog 157 #[.int .u8 x] w fun e w' => e = .returned (.int .i64 (wrap64 (Lib.ntz8 x))) ∧ w = w' := by
  go_enter Tryz.func157, Tryz.ntmps157
  go_wp2
  go_ret
  exact ⟨rfl, rfl⟩
theorem ntz8_any (x : Nat) (h : x < 256) (w : World) :
    Calls Tryz.prog 157 #[.int .u8 x] w fun e w' => e = .returned (.int .i64 (Lib.trailingZeros8 x)) ∧ w = w' := by
  rw [← ntz8_w x h]
  exact ntz8_int x (by omega) (by omega) w
theorem own_ge {w : World} {B e size n : Nat} {v : Value} {xs : List Value} (h : w.ownsRow B e size v n xs) : ∀ k, v.ownBlock = some k → B ≤ k := by
  intro k hk
  rcases h.2 with ⟨rfl, _⟩ | ⟨g, cap, cur, rfl, hg, _⟩
  · cases hk
  · have : g = k := by simpa [Value.ownBlock] using hk
    omega

/-- The kinds in a set of 8 bits, rising. -/
def kindsTo (x n : Nat) : List Int := ((List.range n).filter fun k => x.testBit k).map fun (k : Nat) => (k : Int)
def kindsN (x : Nat) : List Int := kindsTo x 8
theorem kindsN_step : ∀ x : Fin 256, x.val ≠ 0 → kindsN x.val = (Lib.trailingZeros8 x.val : Int) :: kindsN (x.val &&& (x.val - 1)) := by decide +kernel
theorem and_less : ∀ x : Fin 256, x.val ≠ 0 → (x.val &&& (x.val - 1)) < x.val := by decide +kernel
theorem and_pred : ∀ x : Fin 256, x.val ≠ 0 → bits .and .u8 (x.val : Int) ((x.val : Int) - 1) = ((x.val &&& (x.val - 1) : Nat) : Int) := by decide +kernel
theorem kindsN_zero : kindsN 0 = [] := by decide
theorem kindsTo_len (x n : Nat) : (kindsTo x n).length ≤ n := by
  simp only [kindsTo, List.length_map]
  exact Nat.le_trans (List.length_filter_le _ _) (by simp)
/-- The low 8 bits of a set. -/
def low8 (m : Int) : Nat := (m % 256).toNat
theorem low8_lt (m : Int) : low8 m < 256 := by unfold low8; omega
theorem wrap_u8_low8 (m : Int) : IntKind.u8.wrap m = (low8 m : Int) := by
  unfold low8
  simp only [IntKind.wrap, IntKind.bits, IntKind.signed, Bool.false_and]
  rw [if_neg (by decide)]
  omega

theorem info_int : (Tryz.prog.info? 3).map (fun i => (i.zero, i.size, i.bytes)) = some (some (.int .i64 0), 1, 8) := by kernel_rfl

/-- append of one integer onto a row of the call's own. -/
theorem app_int {w : World} {ops : Array Oper} {rest : List Oper} {o : Oper} {a : Act} {Q : Exit → Act → World → Prop} (hgd : o.guard = none) (s x : Operand)
    (ho : o.op = .call { callee := .builtin .append, args := #[s, x], argTypes := #[22, 22] }) (base : Nat) (v : Value) (l : List Int) (y : Int) (ad : Addr) (c : Nat)
    (hs : a.eval s = v) (hown : w.ownsRow base 3 1 v l.length (ints l)) (hx : a.eval x = .slice (some ad) 1 c) (hc : w.cell? ad = some (.int .i64 y))
    (hlen : l.length < 8796093022208) (hbase : base ≤ w.heap.size)
    (h : ∀ v' w', w'.ownsRow base 3 1 v' (l ++ [y]).length (ints (l ++ [y])) → Below base w w' → wpList Tryz.prog ops Q rest (a.put o.dst v') w') : wpList Tryz.prog ops Q (o :: rest) a w := by
  obtain ⟨i0, hi, hz0, hz1, hz2⟩ := info_parts info_int
  refine wpList_append_own w hgd s x 22 ho base 3 i0 (.int .i64 0) 1 8 Tryz.underlying22 hi hz0 hz1 hz2 rfl (by decide) v l.length (ints l) hs hown ad 1 c [.int .i64 y] hx rfl ?_ ?_ (by unfold maxLen; omega) (by omega) hbase ?_
  · intro j u hu
    match j, hu with
    | 0, hu => simp at hu; subst hu; exact hc
    | j + 1, hu => simp at hu
  · intro u hu; simp at hu; subst hu; rfl
  · intro v' w' h1 h2 _
    refine h v' w' (by simpa [ints] using h1) ((Below.refl base w).grown h2 hbase (own_ge hown))

/-- A slice of integers in new memory. -/
def MadeInts (B : Nat) (l : List Int) (w : World) (e : Ending) (w' : World) : Prop :=
  ∃ v, e = .returned v ∧ w'.ownsRow B 3 1 v l.length (ints l) ∧ Below B w w'

set_option maxHeartbeats 1000000 in
theorem list_any (m : Int) (w : World) : Calls Tryz.prog 120 #[.int .i64 m] w (MadeInts w.heap.size (kindsN (low8 m)) w) := by
  have hw := wrap_u8_low8 m
  have hlt := low8_lt m
  generalize low8 m = X at *
  go_enter Tryz.func120, Tryz.ntmps120
  go_wp2
  go_loopw [3, 4] (fun v b wr => ∃ (l : List Int) (x : Nat), x < 256 ∧ b = .int .u8 x ∧ l ++ kindsN x = kindsN X ∧ wr.ownsRow w.heap.size 3 1 v l.length (ints l) ∧ Below w.heap.size w wr) (fun _ b _ => (Go.RowKit.intOf b).toNat)
  case atStart => exact ⟨[], X, hlt, rfl, rfl, ⟨rfl, .inl ⟨rfl, rfl⟩⟩, Below.refl _ _⟩
  case round =>
    obtain ⟨l, x, hx, rfl, hl, hown, hbel⟩ := hrel
    have hlen : l.length ≤ 8 := by
      have h1 := congrArg List.length hl
      have h2 := kindsTo_len X 8
      rw [List.length_append] at h1
      unfold kindsN at *
      omega
    clear hw hlt
    by_cases hz : x = 0
    · subst hz
      have hl2 : l = kindsN X := by rw [← hl, kindsN_zero, List.append_nil]
      have Hl := Lib.hid hl2
      clear hl hl2
      go_wp2
      go_ret
      exact ⟨_, rfl, by rw [← Hl.out]; exact hown, hbel⟩
    · have hst := kindsN_step ⟨x, hx⟩ hz
      have hle := and_less ⟨x, hx⟩ hz
      have hpr := and_pred ⟨x, hx⟩ hz
      simp only [] at hst hle hpr
      rw [hst] at hl
      generalize hy : (Lib.trailingZeros8 x : Int) = y at *
      generalize x &&& (x - 1) = x2 at *
      have hnx := ntz8_any x hx
      rw [hy] at hnx
      have Hl := Lib.hid hl; have Hnx := Lib.hid hnx
      clear hl hst hy hnx
      have hz' : ((x : Int) != 0) = true := by simpa using hz
      have hxp : 1 ≤ (x : Int) := by omega
      clear hz
      have hsz := hbel.size
      go_wp2_with (first | (go_at_call 157; refine (Hnx.out _).mono ?_; rintro e w' ⟨rfl, rfl⟩) | (at_builtin; refine app_int rfl _ _ rfl w.heap.size _ l y ⟨wr.heap.size, 0, none⟩ 1 rfl (hown.alloc _) rfl (by simp) (by omega) (by simp; omega) ?_; intro v' w1 hown2 hb1))
      go_roundw
      case rel => exact ⟨l ++ [y], x2, by omega, rfl, by rw [← Hl.out]; simp, hown2, (hbel.alloc hsz _).trans hb1⟩
      case measure => simp [Go.RowKit.intOf]; omega

end Go.Proofs.YtehjfmjibiafdaaGreat

/- The contract of Eq at lists of integers. -/
namespace Go.Proofs.YtehjfmjibiafdaaGreat
open Go.RowKit

/-- An owned row lies where its value says. -/
theorem own_lies {w : World} {B e size n : Nat} {v : Value} {xs : List Value} (h : w.ownsRow B e size v n xs) :
    ∃ A c, v = .slice A n c ∧ n ≤ c ∧ Lies w w.heap.size A xs := by
  rcases h with ⟨hl, ⟨rfl, rfl⟩ | ⟨g, cap, cur, rfl, hg, hh, hnc, hcap, hsz, rfl⟩⟩
  · have : xs = [] := List.eq_nil_of_length_eq_zero (by omega)
    subst this
    exact ⟨none, 0, rfl, by omega, Lies.nil _ _ _⟩
  · refine ⟨some ⟨g, 0, none⟩, cap, rfl, hnc, fun k u hu => ⟨_, rfl, ?_, ?_⟩⟩
    · rcases Nat.lt_or_ge g w.heap.size with h | h
      · exact h
      · rw [Array.getElem?_eq_none h] at hh; cases hh
    · rw [List.getElem?_take] at hu
      split at hu
      · have e : (⟨g, 0, none⟩ : Addr).add k = ⟨g, k, none⟩ := by unfold Addr.add; split <;> simp_all
        rw [e]
        simp only [World.cell?, hh]
        simpa using hu
      · cases hu

def eqB {α : Type} [DecidableEq α] (x y : α) : Bool := decide (x = y)
theorem eqB_self {α : Type} [DecidableEq α] (x : α) : eqB x x = true := by simp [eqB]
theorem eqB_ne {α : Type} [DecidableEq α] {x y : α} (h : x ≠ y) : eqB x y = false := by simp [eqB, h]

end Go.Proofs.YtehjfmjibiafdaaGreat
