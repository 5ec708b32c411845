/- The contract of Plan where every system may be. -/
import Derived.Test.YthbbjbcojhljfaaPlan
namespace Go.Proofs.Ythbbjbcojhljfaa
open Go.RowKit

theorem made_ints : ∀ n : Nat, (madeCells (Value.int .i64 0).cells (n * 1)).toList = ints (List.replicate n 0) := by
  intro n
  show (madeCells #[.int .i64 0] (n * 1)).toList = _
  rw [toList_madeCells_one, Nat.mul_one]
  simp [ints]
/-- make([]int, n). -/
theorem make_int {w : World} {ops : Array Oper} {rest : List Oper} {o : Oper} {a : Act} {Q : Exit → Act → World → Prop} (hgd : o.guard = none) (s x : Operand)
    (ho : o.op = .makeSlice 27 s x) (base n : Nat) (hs : a.eval s = .int .i64 n) (hx : a.eval x = .int .i64 n) (hn : n ≤ 1000000) (hbase : base ≤ w.heap.size)
    (h : ∀ w', w'.ownsRow base 3 1 (.slice (some ⟨w.heap.size, 0, none⟩) n n) n (ints (List.replicate n 0)) → Below base w w' → wpList Try.prog ops Q rest (a.put o.dst (.slice (some ⟨w.heap.size, 0, none⟩) n n)) w') :
    wpList Try.prog ops Q (o :: rest) a w := by
  obtain ⟨i0, hi, hz0, hz1, hz2⟩ := info_parts info_int
  refine wpList_make_full w hgd s x 27 ho base 3 i0 (.int .i64 0) 1 Try.underlying27 hi hz0 hz1 .i64 .i64 n n n hs hx rfl rfl (by rw [hz2]; omega) (by unfold maxLen; omega) hbase ?_
  intro w' h1 h2
  rw [made_ints] at h1
  exact h w' h1 ((Below.refl base w).grown h2 hbase (by simp))

theorem yj_load {P : Program} {o : Oper} {ρ : Operand → Value} {w : World} {v : Value} {J : World → Prop} (ty : TypeId) (x : Operand) (ho : o.op = .load ty x) (ad : Addr) (hx : ρ x = .pointer (some ad)) (xs : List Value) (d : TypeDesc)
    (hu : P.underlying ty = some d) (hd : (match d with | .struct _ | .array _ _ => true | _ => false) = true) (hi : (P.info? ty).map (·.size) = some xs.length)
    (hc : ∀ j u, xs[j]? = some u → w.cell? (ad.add j) = some u) (hv : v = .agg xs.toArray) (hj : J w) : YieldsJ P o ρ w v J := by
  subst hv
  exact yj_run (run_op_load ρ o w ty x ho ad hx xs d hu hd hi hc) hj

/-- What the call owns stays while nothing old is written. -/
theorem own_below {w w' : World} {B e size n : Nat} {v : Value} {xs : List Value} (h : w.ownsRow B e size v n xs) (hb : Below w.heap.size w w') : w'.ownsRow B e size v n xs := by
  obtain ⟨hl, h⟩ := h
  refine ⟨hl, ?_⟩
  rcases h with h | ⟨g, cap, cur, hv, hg, hh, hr⟩
  · exact .inl h
  · have hlt : g < w.heap.size := by
      rcases Nat.lt_or_ge g w.heap.size with h | h
      · exact h
      · rw [Array.getElem?_eq_none h] at hh; cases hh
    exact .inr ⟨g, cap, cur, hv, hg, (hb.block g hlt).trans hh, hr⟩
theorem rep_succ (n i : Nat) (h : i < n) : List.replicate (n - i) (0 : Int) = 0 :: List.replicate (n - (i + 1)) 0 := by
  rw [show n - i = (n - (i + 1)) + 1 by omega, List.replicate_succ]

theorem wrap_small (z : Int) (h1 : 0 ≤ z) (h2 : z ≤ 1000000) : IntKind.i64.wrap z = z := by
  have e : z % 2 ^ 64 = z := Int.emod_eq_of_lt h1 (by omega)
  simp only [IntKind.wrap, IntKind.bits, IntKind.signed, e, Bool.true_and, decide_eq_true_eq]
  split <;> omega
theorem ints_left (P R : List Int) (y : Int) (k : Nat) (h : k < P.length) : (ints (P ++ y :: R))[k]? = some (.int .i64 (P.getD k 0)) := by
  unfold ints
  rw [List.getElem?_map, List.getElem?_append_left h, List.getElem?_eq_getElem h, List.getD_eq_getElem?_getD, List.getElem?_eq_getElem h]; rfl
theorem ints_mid (P R : List Int) (y : Int) (i : Nat) (h : P.length = i) : (ints (P ++ y :: R))[i]? = some (.int .i64 y) := by
  subst h
  unfold ints
  rw [List.getElem?_map, List.getElem?_append_right (Nat.le_refl _)]; simp
theorem ints_set (P R : List Int) (y z : Int) (i : Nat) (h : P.length = i) : (ints (P ++ y :: R)).set i (.int .i64 z) = ints (P ++ z :: R) := by
  subst h
  unfold ints
  simp

attribute [local go_sem] AllFrom.cons_eq AllFrom.nil_eq putL_nil putL_cons wantedL_none wantedL_some OpGoalM OpGoalL YieldsJ upd

set_option maxHeartbeats 4000000 in
theorem plan_ok (A : Option Addr) (c : Nat) (l : List Sy) (w : World) (hl : l.length ≤ 20) (hA : Lies w w.heap.size A (sysCells l)) (hok : firstE l = 0) :
    Calls Try.prog 37 #[.slice A l.length c] w (PlanPost l w) := by
  have hp : planE l = 0 := by unfold planE; rw [if_neg (by omega)]; exact hok
  have hpl : planL l = planTo l l.length := by unfold planL; rw [if_pos hp]
  have Hp := Lib.hid hp
  have Hpl := Lib.hid hpl
  have Hok := Lib.hid hok
  clear hp hpl hok
  go_enter Try.func37, Try.ntmps37
  go_wp2
  go_loopw [16] (fun i wr => ∃ k : Nat, k ≤ l.length ∧ i = .int .i64 k ∧ firstE (l.drop k) = firstE l ∧ Below w.heap.size w wr) (fun i _ => l.length - (intOf i).toNat)
  case atStart => exact ⟨0, by omega, rfl, rfl, Below.refl _ _⟩
  case round =>
    obtain ⟨k, hk, rfl, hgo, hbel⟩ := hrel
    have hsz := hbel.size
    by_cases hlt : k < l.length
    · obtain ⟨a, rfl, hb, hc⟩ := ((hA.below hbel).mono hbel.size).elem Sy.cells_len (by omega) hlt
      have hst := firstE_drop l k hlt
      generalize l[k] = p at *
      obtain ⟨n, t, s0, r, s, d, x⟩ := p
      have hck := fun w => sysCheck_any n t s0 r s d x w
      have he : Sy.e ⟨n, t, s0, r, s, d, x⟩ = sysE n t s0 r s d x := rfl
      rw [he, hgo, Hok.out] at hst
      clear he
      generalize sysE n t s0 r s d x = q at *
      have hq : q = 0 := by
        apply Classical.byContradiction
        intro hne
        rw [if_pos hne] at hst
        exact hne hst.symm
      subst hq
      have Hc := Lib.hid hc
      have Hst := Lib.hid hst
      have HA := Lib.hid hA
      have Hgo := Lib.hid hgo
      have Hck := Lib.hid hck
      clear hc hst hA hgo hck
      go_wp2_with (first | (refine wpList_load_flat rfl 39 _ rfl _ rfl [.int .i64 n, .int .i64 t, .int .i64 s0, .int .i64 r, .int .i64 s, .int .i64 d, .int .i64 x] _ Try.underlying39 rfl (by kernel_rfl) Hc.out ?_) | (go_at_call 31; refine (Hck.out _).mono ?_; rintro e w1 ⟨rfl, hb1⟩))
      go_roundw
      case rel => exact ⟨k + 1, by omega, by go_num, by rw [Hok.out, Hst.out]; simp, (hbel.alloc hsz _).trans (hb1.mono (by simp; omega))⟩
      case measure => simp [intOf]; omega
    · have HA0 := Lib.hid hA
      obtain rfl : k = l.length := by omega
      clear hA hgo hk hlt
      go_wp2_with (at_make; refine make_int rfl _ _ rfl w.heap.size l.length rfl rfl (by omega) hsz ?_; intro wm hown0 hbm)
      have hbel2 : Below w.heap.size w wm := hbel.trans hbm
      have hg : w.heap.size ≤ wr.heap.size := hsz
      generalize wr.heap.size = g at *
      clear hbm hbel
      go_loopw [31] (fun s wq => ∃ i : Nat, i ≤ l.length ∧ s = .int .i64 i ∧ wq.ownsRow w.heap.size 3 1 (.slice (some ⟨g, 0, none⟩) l.length l.length) l.length (ints (planTo l i ++ List.replicate (l.length - i) 0)) ∧ Below w.heap.size w wq) (fun s _ => l.length - (intOf s).toNat)
      case atStart => exact ⟨0, by omega, rfl, hown0, hbel2⟩
      case round =>
        clear hown0 hbel2
        obtain ⟨i, hi, rfl, hown, hbel⟩ := hrel
        have hsz2 := hbel.size
        by_cases hlt : i < l.length
        · obtain ⟨a, rfl, hb, hc⟩ := (HA0.out.below hbel).elem Sy.cells_len (by omega) hlt
          have hls := fun k hk => lvlAt_succ l i k hlt hk
          have hz := lvlAt_zero l i
          have hps := planTo_succ l i
          have hrp := rep_succ l.length i hlt
          have hpn := planTo_len l i
          generalize l[i] = p at *
          obtain ⟨n, t, s0, r, s, d, x⟩ := p
          have Hc := Lib.hid hc
          have Hls := Lib.hid hls; have Hps := Lib.hid hps; have Hpn := Lib.hid hpn
          rw [hrp] at hown
          clear hc hls hps hrp hpn
          go_wp2_with (first | (refine wpList_load_flat rfl 39 _ rfl _ rfl [.int .i64 n, .int .i64 t, .int .i64 s0, .int .i64 r, .int .i64 s, .int .i64 d, .int .i64 x] _ Try.underlying39 rfl (by kernel_rfl) Hc.out ?_) | fail)
          obtain ⟨gs, hgs⟩ : ∃ gs, gs = wr.heap.size := ⟨_, rfl⟩
          have hblk : (wr.alloc (.cells #[.int .i64 n, .int .i64 t, .int .i64 s0, .int .i64 r, .int .i64 s, .int .i64 d, .int .i64 x] 39)).heap[gs]? = some (.cells #[.int .i64 n, .int .i64 t, .int .i64 s0, .int .i64 r, .int .i64 s, .int .i64 d, .int .i64 x] 39 (0, 0)) := by rw [hgs]; exact heap_alloc_new wr _
          rw [← hgs]
          have hgg : g < gs := by rw [hgs]; exact (hown.lt g rfl).2
          have Hgs := Lib.hid hgs
          clear hgs
          go_loopw [37] (fun s' wq => ∃ k : Nat, k ≤ i ∧ s' = .int .i64 k ∧ wq.ownsRow w.heap.size 3 1 (.slice (some ⟨g, 0, none⟩) l.length l.length) l.length (ints (planTo l i ++ lvlAt l i k :: List.replicate (l.length - (i + 1)) 0)) ∧ Below w.heap.size w wq ∧ wq.heap[gs]? = some (.cells #[.int .i64 n, .int .i64 t, .int .i64 s0, .int .i64 r, .int .i64 s, .int .i64 d, .int .i64 x] 39 (0, 0))) (fun s' _ => i - (intOf s').toNat)
          case atStart => exact ⟨0, by omega, rfl, by rw [hz]; exact hown.alloc _, hbel.alloc hsz2 _, hblk⟩
          case round =>
            clear hown hbel hblk hsz2 hz
            obtain ⟨k, hk, rfl, hown, hbel, hblk⟩ := hrel
            have hsz3 := hbel.size
            have hgl : gs < wr.heap.size := by
              rcases Nat.lt_or_ge gs wr.heap.size with h | h
              · exact h
              · rw [Array.getElem?_eq_none h] at hblk; cases hblk
            have hgsg : g ≠ gs := by omega
            have hgw := (hown.lt g rfl).2
            by_cases hlt2 : k < i
            · obtain ⟨a2, ha2, hb2, hc2⟩ := (HA0.out.below hbel).elem Sy.cells_len (by omega) (show k < l.length by omega)
              cases ha2
              have hls := Hls.out k (by omega)
              have hlb := lvlAt_bound l i k
              have hxb := getD_bound (planTo l i) i (planTo_bound l i) (by omega) k
              have hLk : (ints (planTo l i ++ lvlAt l i k :: List.replicate (l.length - (i + 1)) 0))[k]? = some (.int .i64 ((planTo l i).getD k 0)) := ints_left _ _ _ _ (by rw [Hpn.out]; exact hlt2)
              have hLi : (ints (planTo l i ++ lvlAt l i k :: List.replicate (l.length - (i + 1)) 0))[i]? = some (.int .i64 (lvlAt l i k)) := ints_mid _ _ _ _ Hpn.out
              have hLs : ∀ y, (ints (planTo l i ++ lvlAt l i k :: List.replicate (l.length - (i + 1)) 0)).set i (.int .i64 y) = ints (planTo l i ++ y :: List.replicate (l.length - (i + 1)) 0) := fun y => ints_set _ _ _ _ _ Hpn.out
              have hck := (hown.cellAt k (by omega)).trans hLk
              have hci := (hown.cellAt i (by omega)).trans hLi
              have hfi := hown.frozenAt i
              have hpc := cell_of_row wr gs
              generalize l[k]'(by omega) = q at *
              obtain ⟨n', t', s0', r', s', d', x'⟩ := q
              have hcl := fun w => clash_any ⟨n, t, s0, r, s, d, x⟩ ⟨n', t', s0', r', s', d', x'⟩ w
              simp only [Sy.val] at hcl
              generalize clashB _ _ = b at *
              generalize lvlAt l i k = cur at *
              generalize (planTo l i).getD k 0 = xk at *
              have Hls2 := Lib.hid hls; have HLs := Lib.hid hLs; have Hcl := Lib.hid hcl; have Hc2 := Lib.hid hc2; have Hblk := Lib.hid hblk; have Hown := Lib.hid hown; have Hbel := Lib.hid hbel
              clear hls hLk hLi hLs hcl hc2 hpc hblk hown hbel
              have hkl : k < l.length := by omega
              go_wp2
              refine wp_planM [some 40, some 41, some 42, some 43, some 44, some 45] [[], [], [], [1, 2], [1, 2, 3], [0, 1, 2, 3, 4]] [.agg #[.int .i64 n, .int .i64 t, .int .i64 s0, .int .i64 r, .int .i64 s, .int .i64 d, .int .i64 x], .slice (some a) l.length c, .int .i64 k, .pointer (some (a.add (k * 7))), .agg #[.int .i64 n', .int .i64 t', .int .i64 s0', .int .i64 r', .int .i64 s', .int .i64 d', .int .i64 x'], .bool b]
                (fun w' => Below wr.heap.size wr w') mixed rfl (by kernel_rfl) (Below.refl _ _).drew ?_ ?_
              · simp only [AllFrom.cons_eq, AllFrom.nil_eq, OpGoalM, wantedL_none, ↓reduceIte]
                refine ⟨?_, ?_, ?_, ?_, ?_, ?_, trivial⟩
                · intro w1 hI
                  have hlo := fun oo xx ρ ho hx hc => run_op_load ρ oo w1 39 xx ho ⟨gs, 0, none⟩ hx [.int .i64 n, .int .i64 t, .int .i64 s0, .int .i64 r, .int .i64 s, .int .i64 d, .int .i64 x] _ Try.underlying39 rfl (by kernel_rfl) hc
                  set_option maxRecDepth 100000 in refine yj_run (hlo _ _ _ rfl rfl (fun j u hu => ?_)) hI
                  have h1 := (hI.block gs hgl).trans Hblk.out
                  have e : (⟨gs, 0, none⟩ : Addr).add j = ⟨gs, j, none⟩ := by unfold Addr.add; split <;> simp_all
                  rw [e, cell_of_row w1 gs j _ _ _ h1]
                  simpa using hu
                · intro w1 hI
                  go_simp
                · intro w1 hI
                  go_simp
                · intro w1 hI
                  go_simp
                · intro w1 hI
                  have hlo := fun oo xx ρ ho hx hc => run_op_load ρ oo w1 39 xx ho (a.add (k * 7)) hx [.int .i64 n', .int .i64 t', .int .i64 s0', .int .i64 r', .int .i64 s', .int .i64 d', .int .i64 x'] _ Try.underlying39 rfl (by kernel_rfl) hc
                  set_option maxRecDepth 100000 in refine yj_run (hlo _ _ _ rfl rfl (fun j u hu => ?_)) hI
                  have hlt3 : ((a.add (k * 7)).add j).block < wr.heap.size := by rw [add_block, add_block]; omega
                  exact (hI.cell hlt3).trans (Hc2.out j u hu)
                · intro w1 hI
                  go_simp
                  refine (Hcl.out _).mono ?_
                  rintro e w' ⟨rfl, hb⟩
                  exact ⟨rfl, hI.trans (hb.mono hI.size)⟩
              · intro w1 hI
                have hI2 := own_below Hown.out hI
                have hI3 := (hI.block gs hgl).trans Hblk.out
                have hI4 := Hbel.out.trans (hI.mono hsz3)
                have HI := Lib.hid hI; have HI2 := Lib.hid hI2; have HI3 := Lib.hid hI3; have HI4 := Lib.hid hI4
                have hck1 := (hI.cell (p := ⟨g, k, none⟩) hgw).trans hck
                have hci1 := (hI.cell (p := ⟨g, i, none⟩) hgw).trans hci
                have hfi1 := (hI.frozen (p := ⟨g, i, none⟩) hgw).trans hfi
                clear hI hI2 hI3 hI4 hck hci hfi
                go_simp
                cases b with
                | false =>
                  go_wp2
                  go_roundw
                  case rel => exact ⟨k + 1, by omega, by go_num, by rw [Hls2.out]; simpa using HI2.out, HI4.out, HI3.out⟩
                  case measure => simp [intOf]; omega
                | true =>
                  go_wp2
                  refine wp_plan [some 46, some 47, some 48, some 49, some 50, some 51, some 52, some 53, some 54, some 55, some 56, some 57, some 58, none] [[], [], [], [], [2, 3], [2, 3, 4], [], [], [6, 7], [6, 7, 8], [6, 7, 8, 9], [2, 3, 4, 5, 6, 7, 8, 9, 10], [0, 1, 2, 3, 4, 5, 6, 7, 8, 9, 10, 11], [0, 1, 2, 3, 4, 5, 6, 7, 8, 9, 10, 11, 12]] [.slice (some ⟨g, 0, none⟩) l.length l.length, .int .i64 i, .slice (some ⟨g, 0, none⟩) l.length l.length, .int .i64 i, .pointer (some ⟨g, i, none⟩), .int .i64 cur,
                    .slice (some ⟨g, 0, none⟩) l.length l.length, .int .i64 k, .pointer (some ⟨g, k, none⟩), .int .i64 xk, .int .i64 (xk + 1), .int .i64 (max cur (xk + 1)), .pointer (some ⟨g, i, none⟩), undef]
                    (fun L w' => w' = if L 13 = true then w1.drew.setCell ⟨g, i, none⟩ (.int .i64 (max cur (xk + 1))) else w1.drew) mixed rfl (by kernel_rfl) rfl ?_ ?_
                  · simp only [AllFrom.cons_eq, AllFrom.nil_eq, OpGoalL, wantedL_none, ↓reduceIte]
                    refine ⟨?_, ?_, ?_, ?_, ?_, ?_, ?_, ?_, ?_, ?_, ?_, ?_, ?_, ?_, trivial⟩
                    all_goals (intro L w2 h1 h2 h3 hI)
                    all_goals (try have h13 := h3 13 (by decide))
                    all_goals (clear h2 h3)
                    all_goals (first | rw [h13] at hI | rw [h1] at hI)
                    all_goals (simp only [Bool.false_eq_true, ↓reduceIte] at hI; subst hI)
                    all_goals (try go_simp)
                    · exact wrap_small _ (by omega) (by omega)
                  · intro L w2 hL hI
                    rw [hL 13 (by decide)] at hI
                    simp only [↓reduceIte] at hI
                    have hown3 := HI2.out.drew.stored i (.int .i64 (max cur (xk + 1)))
                    rw [HLs.out] at hown3
                    subst hI
                    go_simp
                    go_wp2
                    go_roundw
                    case rel => exact ⟨k + 1, by omega, by go_num, by rw [Hls2.out, if_pos trivial]; exact hown3.1, HI4.out.drew.setCell (show w.heap.size ≤ g from hg) _, (Below.heap_setCell _ _ _ _ (fun e => hgsg e.symm)).trans HI3.out⟩
                    case measure => simp [intOf]; omega
            · obtain rfl : k = i := by omega
              have hps := Hps.out
              have hown2 : wr.ownsRow w.heap.size 3 1 (.slice (some ⟨g, 0, none⟩) l.length l.length) l.length (ints (planTo l (k + 1) ++ List.replicate (l.length - (k + 1)) 0)) := by
                rw [hps, List.append_assoc]; exact hown
              have Hown2 := Lib.hid hown2; have Hbel := Lib.hid hbel
              clear hown hown2 hbel hblk hps hk hlt2
              go_wp2
              go_roundw
              case rel => exact ⟨k + 1, by omega, by go_num, Hown2.out, Hbel.out⟩
              case measure => simp [intOf]; omega
        · obtain rfl : i = l.length := by omega
          have hown2 : wr.ownsRow w.heap.size 3 1 (.slice (some ⟨g, 0, none⟩) l.length l.length) l.length (ints (planTo l l.length)) := by simpa using hown
          have hpost : ∀ wz, wz = wr → PlanPost l w (.returned (.tuple #[.slice (some ⟨g, 0, none⟩) l.length l.length, .int .i64 0])) wz := by
            rintro wz rfl
            refine ⟨_, by rw [Hp.out], ?_, hbel⟩
            rw [Hpl.out, planTo_len]; exact hown2
          have HP := Lib.hid hpost
          clear hown hown2 hpost hbel hi hlt
          go_wp2
          go_ret2
          exact HP.out _ rfl
end Go.Proofs.Ythbbjbcojhljfaa
