/- The contract of R.Plan (printed by mk_rplan.py). -/
import Derived.Test.YthbbjbcojhljfaaPlanOk
namespace Go.Proofs.Ythbbjbcojhljfaa
open Go.RowKit

theorem rsys_many (A : Option Addr) (c : Nat) (l : List Sy) (w : World) (hl : 20 < l.length) (hl2 : l.length ≤ 9223372036854775807) :
    Calls Try.prog 38 #[.slice A l.length c] w (PlanPost l w) := by
  have hp := planPost_err (w := w) (w' := w) (show planE l = 2 by unfold planE; rw [if_pos hl]) (by decide) (Below.refl _ _)
  have HP := Lib.hid hp
  clear hp
  go_enter Try.func38, Try.ntmps38
  go_wp2
  go_ret2
  exact HP.out

set_option maxHeartbeats 1000000 in
theorem rplan_bad (A : Option Addr) (c : Nat) (l : List Sy) (w : World) (hl : l.length ≤ 20) (hA : Lies w w.heap.size A (sysCells l)) (hbad : firstE l ≠ 0) :
    Calls Try.prog 38 #[.slice A l.length c] w (PlanPost l w) := by
  have hp := fun w' (h : Below w.heap.size w w') => planPost_err (w := w) (w' := w') (show planE l = firstE l by unfold planE; rw [if_neg (by omega)]) hbad h
  have HP := Lib.hid hp
  have Hbad := Lib.hid hbad
  clear hp hbad
  go_enter Try.func38, Try.ntmps38
  go_wp2
  go_loopw [17] (fun i wr => ∃ k : Nat, k ≤ l.length ∧ i = .int .i64 k ∧ firstE (l.drop k) = firstE l ∧ Below w.heap.size w wr) (fun i _ => l.length - (intOf i).toNat)
  case atStart => exact ⟨0, by omega, rfl, rfl, Below.refl _ _⟩
  case round =>
    obtain ⟨k, hk, rfl, hgo, hbel⟩ := hrel
    by_cases hlt : k < l.length
    · obtain ⟨a, rfl, hb, hc⟩ := ((hA.below hbel).mono hbel.size).elem Sy.cells_len (by omega) hlt
      have hst := firstE_drop l k hlt
      generalize l[k] = p at *
      obtain ⟨n, t, s0, r, s, d, x⟩ := p
      have hck := fun w => sysRef_any n t s0 r s d x w
      have he : Sy.e ⟨n, t, s0, r, s, d, x⟩ = sysE n t s0 r s d x := rfl
      rw [he, hgo] at hst
      clear he
      generalize sysE n t s0 r s d x = q at *
      have Hc := Lib.hid hc
      have Hst := Lib.hid hst
      have HA := Lib.hid hA
      have Hgo := Lib.hid hgo
      have Hck := Lib.hid hck
      have hsz := hbel.size
      clear hc hst hA hgo hck
      by_cases hq : q = 0
      · subst hq
        go_wp2_with (first | (refine wpList_load_flat rfl 39 _ rfl _ rfl [.int .i64 n, .int .i64 t, .int .i64 s0, .int .i64 r, .int .i64 s, .int .i64 d, .int .i64 x] _ Try.underlying39 rfl (by kernel_rfl) Hc.out ?_) | (go_at_call 32; refine (Hck.out _).mono ?_; rintro e w1 ⟨rfl, hb1⟩))
        go_roundw
        case rel => exact ⟨k + 1, by omega, by go_num, by rw [Hst.out]; simp, (hbel.alloc hsz _).trans (hb1.mono (by simp; omega))⟩
        case measure => simp [intOf]; omega
      · have hq' : (q != 0) = true := by simpa using hq
        have Hq := Lib.hid hq
        clear hq
        go_wp2_with (first | (refine wpList_load_flat rfl 39 _ rfl _ rfl [.int .i64 n, .int .i64 t, .int .i64 s0, .int .i64 r, .int .i64 s, .int .i64 d, .int .i64 x] _ Try.underlying39 rfl (by kernel_rfl) Hc.out ?_) | (go_at_call 32; refine (Hck.out _).mono ?_; rintro e w1 ⟨rfl, hb1⟩))
        go_ret2
        have hfin := HP.out w1 ((hbel.alloc hsz _).trans (hb1.mono (by simp; omega)))
        rw [Hst.out, if_pos Hq.out] at hfin
        exact hfin
    · exfalso
      have : firstE l = 0 := by rw [← hgo, List.drop_eq_nil_of_le (by omega)]; rfl
      exact Hbad.out this

attribute [local go_sem] AllFrom.cons_eq AllFrom.nil_eq putL_nil putL_cons wantedL_none wantedL_some OpGoalM OpGoalL YieldsJ upd

theorem own_form {w : World} {base : Nat} {e : TypeId} {size : Nat} {v : Value} {n : Nat} {xs : List Value} (h : w.ownsRow base e size v n xs) (hn : 0 < n) :
    ∃ g cap, v = .slice (some ⟨g, 0, none⟩) n cap ∧ base ≤ g := by
  rcases h.2 with ⟨_, h0⟩ | ⟨g, cap, cur, hv, hb, hg, _⟩
  · omega
  · exact ⟨g, cap, hv, hb⟩
theorem ints_get (P : List Int) (k : Nat) (h : k < P.length) : (ints P)[k]? = some (.int .i64 (P.getD k 0)) := by
  rw [ints_at P k h, List.getD_eq_getElem?_getD, List.getElem?_eq_getElem h]; rfl

set_option maxHeartbeats 4000000 in
theorem rplan_ok (A : Option Addr) (c : Nat) (l : List Sy) (w : World) (hl : l.length ≤ 20) (hA : Lies w w.heap.size A (sysCells l)) (hok : firstE l = 0) :
    Calls Try.prog 38 #[.slice A l.length c] w (PlanPost l w) := by
  have hp : planE l = 0 := by unfold planE; rw [if_neg (by omega)]; exact hok
  have hpl : planL l = planTo l l.length := by unfold planL; rw [if_pos hp]
  have Hp := Lib.hid hp
  have Hpl := Lib.hid hpl
  have Hok := Lib.hid hok
  clear hp hpl hok
  go_enter Try.func38, Try.ntmps38
  go_wp2
  go_loopw [17] (fun i wr => ∃ k : Nat, k ≤ l.length ∧ i = .int .i64 k ∧ firstE (l.drop k) = firstE l ∧ Below w.heap.size w wr) (fun i _ => l.length - (intOf i).toNat)
  case atStart => exact ⟨0, by omega, rfl, rfl, Below.refl _ _⟩
  case round =>
    obtain ⟨k, hk, rfl, hgo, hbel⟩ := hrel
    have hsz := hbel.size
    by_cases hlt : k < l.length
    · obtain ⟨a, rfl, hb, hc⟩ := ((hA.below hbel).mono hbel.size).elem Sy.cells_len (by omega) hlt
      have hst := firstE_drop l k hlt
      generalize l[k] = p at *
      obtain ⟨n, t, s0, r, s, d, x⟩ := p
      have hck := fun w => sysRef_any n t s0 r s d x w
      have he : Sy.e ⟨n, t, s0, r, s, d, x⟩ = sysE n t s0 r s d x := rfl
      rw [he, hgo, Hok.out] at hst
      clear he
      generalize sysE n t s0 r s d x = q at *
      have hq : q = 0 := by
        apply Classical.byContradiction
        intro hne
        rw [if_pos hne] at hst
        exact hne hst.symm
      subst hq
      have Hc := Lib.hid hc
      have Hst := Lib.hid hst
      have HA := Lib.hid hA
      have Hgo := Lib.hid hgo
      have Hck := Lib.hid hck
      clear hc hst hA hgo hck
      go_wp2_with (first | (refine wpList_load_flat rfl 39 _ rfl _ rfl [.int .i64 n, .int .i64 t, .int .i64 s0, .int .i64 r, .int .i64 s, .int .i64 d, .int .i64 x] _ Try.underlying39 rfl (by kernel_rfl) Hc.out ?_) | (go_at_call 32; refine (Hck.out _).mono ?_; rintro e w1 ⟨rfl, hb1⟩))
      go_roundw
      case rel => exact ⟨k + 1, by omega, by go_num, by rw [Hok.out, Hst.out]; simp, (hbel.alloc hsz _).trans (hb1.mono (by simp; omega))⟩
      case measure => simp [intOf]; omega
    · have HA0 := Lib.hid hA
      obtain rfl : k = l.length := by omega
      clear hA hgo hk hlt
      go_wp2
      go_loopw [29, 7] (fun s v wq => ∃ i : Nat, i ≤ l.length ∧ s = .int .i64 i ∧ wq.ownsRow w.heap.size 3 1 v i (ints (planTo l i)) ∧ Below w.heap.size w wq) (fun s _ _ => l.length - (intOf s).toNat)
      case atStart => exact ⟨0, by omega, rfl, ⟨rfl, .inl ⟨rfl, rfl⟩⟩, hbel⟩
      case round =>
        clear hbel hsz
        obtain ⟨i, hi, rfl, hown, hbel⟩ := hrel
        have hsz2 := hbel.size
        by_cases hlt : i < l.length
        · obtain ⟨a, rfl, hb, hc⟩ := (HA0.out.below hbel).elem Sy.cells_len (by omega) hlt
          have hls := fun k hk => lvlAt_succ l i k hlt hk
          have hz := lvlAt_zero l i
          have hps := planTo_succ l i
          have hpn := planTo_len l i
          generalize l[i] = p at *
          obtain ⟨n, t, s0, r, s, d, x⟩ := p
          have Hc := Lib.hid hc
          have Hls := Lib.hid hls; have Hps := Lib.hid hps; have Hpn := Lib.hid hpn
          clear hc hls hps hpn
          go_wp2_with (first | (refine wpList_load_flat rfl 39 _ rfl _ rfl [.int .i64 n, .int .i64 t, .int .i64 s0, .int .i64 r, .int .i64 s, .int .i64 d, .int .i64 x] _ Try.underlying39 rfl (by kernel_rfl) Hc.out ?_) | fail)
          obtain ⟨gs, hgs⟩ : ∃ gs, gs = wr.heap.size := ⟨_, rfl⟩
          have hblk : (wr.alloc (.cells #[.int .i64 n, .int .i64 t, .int .i64 s0, .int .i64 r, .int .i64 s, .int .i64 d, .int .i64 x] 39)).heap[gs]? = some (.cells #[.int .i64 n, .int .i64 t, .int .i64 s0, .int .i64 r, .int .i64 s, .int .i64 d, .int .i64 x] 39 (0, 0)) := by rw [hgs]; exact heap_alloc_new wr _
          rw [← hgs]
          have Hgs := Lib.hid hgs
          clear hgs
          go_loopw [35, 10] (fun s' cv wq => ∃ k : Nat, k ≤ i ∧ s' = .int .i64 k ∧ cv = .int .i64 (lvlAt l i k) ∧ wq.ownsRow w.heap.size 3 1 u7 i (ints (planTo l i)) ∧ Below w.heap.size w wq ∧ wq.heap[gs]? = some (.cells #[.int .i64 n, .int .i64 t, .int .i64 s0, .int .i64 r, .int .i64 s, .int .i64 d, .int .i64 x] 39 (0, 0))) (fun s' _ _ => i - (intOf s').toNat)
          case atStart => exact ⟨0, by omega, rfl, by rw [hz], hown.alloc _, hbel.alloc hsz2 _, hblk⟩
          case round =>
            clear hown hbel hblk hsz2 hz
            obtain ⟨k, hk, rfl, rfl, hown, hbel, hblk⟩ := hrel
            have hsz3 := hbel.size
            have hgl : gs < wr.heap.size := by
              rcases Nat.lt_or_ge gs wr.heap.size with h | h
              · exact h
              · rw [Array.getElem?_eq_none h] at hblk; cases hblk
            by_cases hlt2 : k < i
            · obtain ⟨a2, ha2, hb2, hc2⟩ := (HA0.out.below hbel).elem Sy.cells_len (by omega) (show k < l.length by omega)
              cases ha2
              obtain ⟨g, cap, hv, hgw0⟩ := own_form hown (by omega)
              subst hv
              have hgw := (hown.lt g rfl).2
              have hls := Hls.out k (by omega)
              have hlb := lvlAt_bound l i k
              have hxb := getD_bound (planTo l i) i (planTo_bound l i) (by omega) k
              have hLk : (ints (planTo l i))[k]? = some (.int .i64 ((planTo l i).getD k 0)) := ints_get _ _ (by rw [Hpn.out]; exact hlt2)
              have hck := (hown.cellAt k (by omega)).trans hLk
              generalize l[k]'(by omega) = q at *
              obtain ⟨n', t', s0', r', s', d', x'⟩ := q
              have hcl := fun w => refClash_any ⟨n', t', s0', r', s', d', x'⟩ ⟨n, t, s0, r, s, d, x⟩ w
              simp only [Sy.val] at hcl
              rw [clash_symm ⟨n', t', s0', r', s', d', x'⟩ ⟨n, t, s0, r, s, d, x⟩] at hcl
              generalize clashB _ _ = b at *
              generalize lvlAt l i k = cur at *
              generalize (planTo l i).getD k 0 = xk at *
              have Hls2 := Lib.hid hls; have Hcl := Lib.hid hcl; have Hc2 := Lib.hid hc2; have Hblk := Lib.hid hblk; have Hown := Lib.hid hown; have Hbel := Lib.hid hbel
              clear hls hLk hcl hc2 hblk hown hbel
              have hkl : k < l.length := by omega
              go_wp2
              cases b with
              | false =>
                refine wp_planM [some 38, some 39, some 40, some 41, some 42, some 43, some 44, some 45, some 46, some 47, some 48, some 49, some 50, some 51] [[], [], [0, 1], [0, 1, 2], [], [0, 1, 2, 3, 4], [0, 1, 2, 3, 4, 5], [0, 1, 2, 3, 4, 5, 6], [0, 1, 2, 3, 4, 5, 6], [0, 1, 2, 3, 4, 5, 6, 7, 8], [0, 1, 2, 3, 4, 5, 6, 7, 8, 9], [0, 1, 2, 3, 4, 5, 6], [0, 1, 2, 3, 4, 5, 6, 7, 8, 9, 10, 11], [0, 1, 2, 3, 4, 5, 6, 7, 8, 9, 10, 11, 12]] [.slice (some a) l.length c, .int .i64 k, .pointer (some (a.add (k * 7))), .agg #[.int .i64 n', .int .i64 t', .int .i64 s0', .int .i64 r', .int .i64 s', .int .i64 d', .int .i64 x'], .agg #[.int .i64 n, .int .i64 t, .int .i64 s0, .int .i64 r, .int .i64 s, .int .i64 d, .int .i64 x], .bool false, .bool false, undef, undef, undef, undef, undef, undef, .bool false]
                  (fun w' => Below wr.heap.size wr w') mixed rfl (by kernel_rfl) (Below.refl _ _).drew ?_ ?_
                · simp only [AllFrom.cons_eq, AllFrom.nil_eq, OpGoalM, wantedL_none, ↓reduceIte]
                  refine ⟨?_, ?_, ?_, ?_, ?_, ?_, ?_, ?_, ?_, ?_, ?_, ?_, ?_, ?_, trivial⟩
                  · intro w1 hI
                    go_simp
                  · intro w1 hI
                    go_simp
                  · intro w1 hI
                    go_simp
                  · intro w1 hI
                    have hlo := fun oo xx ρ ho hx hc => run_op_load ρ oo w1 39 xx ho (a.add (k * 7)) hx [.int .i64 n', .int .i64 t', .int .i64 s0', .int .i64 r', .int .i64 s', .int .i64 d', .int .i64 x'] _ Try.underlying39 rfl (by kernel_rfl) hc
                    set_option maxRecDepth 100000 in refine yj_run (hlo _ _ _ rfl rfl (fun j u hu => ?_)) hI
                    have hlt3 : ((a.add (k * 7)).add j).block < wr.heap.size := by rw [add_block, add_block]; omega
                    exact (hI.cell hlt3).trans (Hc2.out j u hu)
                  · intro w1 hI
                    have hlo := fun oo xx ρ ho hx hc => run_op_load ρ oo w1 39 xx ho ⟨gs, 0, none⟩ hx [.int .i64 n, .int .i64 t, .int .i64 s0, .int .i64 r, .int .i64 s, .int .i64 d, .int .i64 x] _ Try.underlying39 rfl (by kernel_rfl) hc
                    set_option maxRecDepth 100000 in refine yj_run (hlo _ _ _ rfl rfl (fun j u hu => ?_)) hI
                    have h1 := (hI.block gs hgl).trans Hblk.out
                    have e : (⟨gs, 0, none⟩ : Addr).add j = ⟨gs, j, none⟩ := by unfold Addr.add; split <;> simp_all
                    rw [e, cell_of_row w1 gs j _ _ _ h1]
                    simpa using hu
                  · intro w1 hI
                    go_simp
                    refine (Hcl.out _).mono ?_
                    rintro e w' ⟨rfl, hb⟩
                    exact ⟨rfl, hI.trans (hb.mono hI.size)⟩
                  all_goals (intro w1 hI)
                  all_goals go_simp
                · intro w1 hI
                  have hI2 := own_below Hown.out hI
                  have hI3 := (hI.block gs hgl).trans Hblk.out
                  have hI4 := Hbel.out.trans (hI.mono hsz3)
                  have HI := Lib.hid hI; have HI2 := Lib.hid hI2; have HI3 := Lib.hid hI3; have HI4 := Lib.hid hI4
                  have hck1 := (hI.cell (p := ⟨g, k, none⟩) hgw).trans hck
                  clear hI hI2 hI3 hI4 hck
                  go_simp
                  go_wp2
                  go_roundw
                  case rel => exact ⟨k + 1, by omega, by go_num, by rw [Hls2.out]; simp, HI2.out, HI4.out, HI3.out⟩
                  case measure => simp [intOf]; omega
              | true =>
                refine wp_planM [some 38, some 39, some 40, some 41, some 42, some 43, some 44, some 45, some 46, some 47, some 48, some 49, some 50, some 51] [[], [], [0, 1], [0, 1, 2], [], [0, 1, 2, 3, 4], [0, 1, 2, 3, 4, 5], [0, 1, 2, 3, 4, 5, 6], [0, 1, 2, 3, 4, 5, 6], [0, 1, 2, 3, 4, 5, 6, 7, 8], [0, 1, 2, 3, 4, 5, 6, 7, 8, 9], [0, 1, 2, 3, 4, 5, 6], [0, 1, 2, 3, 4, 5, 6, 7, 8, 9, 10, 11], [0, 1, 2, 3, 4, 5, 6, 7, 8, 9, 10, 11, 12]] [.slice (some a) l.length c, .int .i64 k, .pointer (some (a.add (k * 7))), .agg #[.int .i64 n', .int .i64 t', .int .i64 s0', .int .i64 r', .int .i64 s', .int .i64 d', .int .i64 x'], .agg #[.int .i64 n, .int .i64 t, .int .i64 s0, .int .i64 r, .int .i64 s, .int .i64 d, .int .i64 x], .bool true, .bool true, .slice (some ⟨g, 0, none⟩) i cap, .int .i64 k, .pointer (some ⟨g, k, none⟩), .int .i64 xk, .int .i64 cur, .bool (decide (xk ≥ cur)), .bool (decide (xk ≥ cur))]
                  (fun w' => Below wr.heap.size wr w') mixed rfl (by kernel_rfl) (Below.refl _ _).drew ?_ ?_
                · simp only [AllFrom.cons_eq, AllFrom.nil_eq, OpGoalM, wantedL_none, ↓reduceIte]
                  refine ⟨?_, ?_, ?_, ?_, ?_, ?_, ?_, ?_, ?_, ?_, ?_, ?_, ?_, ?_, trivial⟩
                  · intro w1 hI
                    go_simp
                  · intro w1 hI
                    go_simp
                  · intro w1 hI
                    go_simp
                  · intro w1 hI
                    have hlo := fun oo xx ρ ho hx hc => run_op_load ρ oo w1 39 xx ho (a.add (k * 7)) hx [.int .i64 n', .int .i64 t', .int .i64 s0', .int .i64 r', .int .i64 s', .int .i64 d', .int .i64 x'] _ Try.underlying39 rfl (by kernel_rfl) hc
                    set_option maxRecDepth 100000 in refine yj_run (hlo _ _ _ rfl rfl (fun j u hu => ?_)) hI
                    have hlt3 : ((a.add (k * 7)).add j).block < wr.heap.size := by rw [add_block, add_block]; omega
                    exact (hI.cell hlt3).trans (Hc2.out j u hu)
                  · intro w1 hI
                    have hlo := fun oo xx ρ ho hx hc => run_op_load ρ oo w1 39 xx ho ⟨gs, 0, none⟩ hx [.int .i64 n, .int .i64 t, .int .i64 s0, .int .i64 r, .int .i64 s, .int .i64 d, .int .i64 x] _ Try.underlying39 rfl (by kernel_rfl) hc
                    set_option maxRecDepth 100000 in refine yj_run (hlo _ _ _ rfl rfl (fun j u hu => ?_)) hI
                    have h1 := (hI.block gs hgl).trans Hblk.out
                    have e : (⟨gs, 0, none⟩ : Addr).add j = ⟨gs, j, none⟩ := by unfold Addr.add; split <;> simp_all
                    rw [e, cell_of_row w1 gs j _ _ _ h1]
                    simpa using hu
                  · intro w1 hI
                    go_simp
                    refine (Hcl.out _).mono ?_
                    rintro e w' ⟨rfl, hb⟩
                    exact ⟨rfl, hI.trans (hb.mono hI.size)⟩
                  all_goals (intro w1 hI)
                  all_goals (have hck1 := (hI.cell (p := ⟨g, k, none⟩) hgw).trans hck)
                  all_goals go_simp
                · intro w1 hI
                  have hI2 := own_below Hown.out hI
                  have hI3 := (hI.block gs hgl).trans Hblk.out
                  have hI4 := Hbel.out.trans (hI.mono hsz3)
                  have HI := Lib.hid hI; have HI2 := Lib.hid hI2; have HI3 := Lib.hid hI3; have HI4 := Lib.hid hI4
                  have hck1 := (hI.cell (p := ⟨g, k, none⟩) hgw).trans hck
                  clear hI hI2 hI3 hI4 hck
                  go_simp
                  by_cases hge : xk ≥ cur
                  · go_wp2
                    go_roundw
                    case rel => exact ⟨k + 1, by omega, by go_num, by rw [Hls2.out, if_pos rfl]; exact congrArg (Value.int .i64) (by first | omega | (rw [wrap_small _ (by omega) (by omega)]; omega)), HI2.out, HI4.out, HI3.out⟩
                    case measure => simp [intOf]; omega
                  · go_wp2
                    go_roundw
                    case rel => exact ⟨k + 1, by omega, by go_num, by rw [Hls2.out, if_pos rfl]; exact congrArg (Value.int .i64) (by first | omega | (rw [wrap_small _ (by omega) (by omega)]; omega)), HI2.out, HI4.out, HI3.out⟩
                    case measure => simp [intOf]; omega
            · obtain rfl : k = i := by omega
              have hown1 : wr.ownsRow w.heap.size 3 1 u7 (planTo l k).length (ints (planTo l k)) := by rw [planTo_len]; exact hown
              have hlen := planTo_len l k
              have hps := planTo_succ l k
              generalize lvlAt l k k = y at *
              have Hps2 := Lib.hid hps; have Hbel := Lib.hid hbel
              clear hown hbel hblk hps hk hlt2
              go_wp2_with (at_builtin; refine app_int rfl _ _ rfl w.heap.size _ (planTo l k) y ⟨wr.heap.size, 0, none⟩ 1 rfl (hown1.alloc _) rfl (by simp) (by omega) (by simp; omega) ?_; intro v' w1 hown2 hb1)
              go_roundw
              case rel => exact ⟨k + 1, by omega, by go_num, by rw [Hps2.out]; simpa [hlen] using hown2, (Hbel.out.alloc hsz3 _).trans hb1⟩
              case measure => simp [intOf]; omega
        · obtain rfl : i = l.length := by omega
          have hpost : ∀ wz, wz = wr → PlanPost l w (.returned (.tuple #[u7, .int .i64 0])) wz := by
            rintro wz rfl
            refine ⟨_, by rw [Hp.out], ?_, hbel⟩
            rw [Hpl.out, planTo_len]; exact hown
          have HP := Lib.hid hpost
          clear hown hpost hbel hi hlt
          go_wp2
          go_ret2
          exact HP.out _ rfl
end Go.Proofs.Ythbbjbcojhljfaa

