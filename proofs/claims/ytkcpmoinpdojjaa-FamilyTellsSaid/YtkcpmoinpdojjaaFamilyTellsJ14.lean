import Derived.Test.YtkcpmoinpdojjaaFamilyTellsJ11
import Derived.Test.YtkcpmoinpdojjaaFamilyTellsJ13
import Derived.Test.YtkcpmoinpdojjaaFamilyTellsJ10
import Derived.Test.YtkcpmoinpdojjaaFamilyTellsJ12
/- The reference's table: Row, Remove. -/
namespace Go.Proofs.Ytkcpmoinpdojjaa
open Go Go.RowKit

theorem FieldPost.late {α : Type} {enc : α → List Value} {E n : Nat} {w w1 W W' : World} {p o r : Nat} {cs : Array Value} {T : TypeId} {v : Value} {l : List α} (h : FieldPost enc E n w1 p o cs T v l W) (hm : Mod [] w w1) (hm2 : Mod [r] W W') (hr : w.heap.size ≤ r) (hr1 : r < w1.heap.size) (hp : p < w.heap.size) (hv : ∀ k, v.ownBlock = some k → k < w.heap.size) :
    FieldPost enc E n w p o cs T v l W' := by
  obtain ⟨⟨v', hf, hl⟩, hm0⟩ := h
  have hs := hm.size
  refine ⟨⟨v', hf.mod hm2 (by simp; omega) (fun k hk => ?_), fun k hk => (hl k hk).imp id (fun e => by omega)⟩, ?_⟩
  · rcases hl k hk with e | e
    · have := hv k e; simp; omega
    · simp; omega
  · exact (((hm.mono (G := p :: v.ownBlock.toList) (by simp)).trans hm0 (fun x hx => .inl hx)).trans hm2 (fun x hx => .inr (by simp at hx; omega)))
theorem outside_row (r : Int) (n : Nat) : outsideB r 0 ((n : Int) - 1) = !rowB r n := by
  unfold outsideB rowB
  by_cases h1 : r < 0
  · have : ¬ 0 ≤ r := by omega
    simp [h1, this]
  · have h2 : 0 ≤ r := by omega
    by_cases h3 : (n : Int) - 1 < r
    · have : ¬ r < (n : Int) := by omega
      simp [h1, h2, h3, this]
    · have : r < (n : Int) := by omega
      simp [h1, h2, h3, this]
theorem outRow_any (r : Int) (n : Nat) (b : Bool) (h : rowB r n = b) (w : World) : Calls Try.prog 63 #[.int .i64 r, .int .i64 0, .int .i64 ((n : Int) - 1)] w fun e w' => e = .returned (.bool (!b)) ∧ w = w' := by
  have := outside_any r 0 ((n : Int) - 1) w
  rw [outside_row, h] at this
  exact this

section
variable {w : World} {q kn : Nat} {rows : List Rw} {vl : Value}
set_option maxRecDepth 20000 in
set_option maxHeartbeats 2000000 in
theorem rrow_no (h : RTabAt w q kn rows vl) (r : Int) (hr : rowB r rows.length = false) (hl : rows.length ≤ 1200000000000) (f : FuncId) (hf : f = 26) :
    Calls Try.prog f #[.pointer (some ⟨q, 0, none⟩), .int .i64 r] w (RowPost zero11 5 w) := by
  subst hf
  have H1 := Lib.hid (outRow_any r rows.length false hr)
  obtain ⟨A, cap, rfl, -, -⟩ := row_slice h.row
  have c1 := h.cell
  have hq := h.lt
  clear h hr
  go_enter Try.func26, Try.ntmps26
  go_wp2_with fail
  refine (H1.out _).mono ?_
  rintro e w1 ⟨rfl, rfl⟩
  go_wp2
  refine bodyPost_ret (v := .tuple #[.agg #[.int .i64 0, .int .i64 0, .int .i64 0, .int .i64 0, .int .i64 0, .int .i64 0, .int .i64 0, .int .i64 0, .int .i64 0, .int .i64 0, .int .i64 0], .int .i64 5]) (by unfold results; try go_simp) rfl ?_
  refine ⟨rfl, Mod.toBelow (F := []) ?_ (by simp) (Nat.le_refl _)⟩
  exact (Mod.refl _ _).alloc _

set_option maxRecDepth 20000 in
set_option maxHeartbeats 2000000 in
theorem rrow_yes (h : RTabAt w q kn rows vl) (r : Nat) (hr : r < rows.length) (hl : rows.length ≤ 1200000000000) :
    Calls Try.prog 26 #[.pointer (some ⟨q, 0, none⟩), .int .i64 r] w (RowPost (rwI rows[r]) 0 w) := by
  have H1 := Lib.hid (outRow_any (r : Int) rows.length true (rowB_iff.2 ⟨r, rfl, hr⟩))
  obtain ⟨g0, cap, cur, hv, -, -, -⟩ := row_some h.row (by omega)
  have hpc := row_piece rwC_len (by rw [← hv]; exact h.row) hr 0 (rwC rows[r]) (fun j u hu => by rw [Nat.zero_add]; exact hu)
  have hgl := row_lt h.row g0 (by rw [hv]; rfl)
  have c1 := h.cell
  rw [hv] at c1
  have hq := h.lt
  have hri : (r : Int) < (rows.length : Int) := by omega
  generalize rows[r] = x at *
  obtain ⟨⟨s, g⟩, K, a0, a1, a2, a3, a4, a5, a6, a7⟩ := x
  have hpc2 := fun j u hu => (((Below.refl w.heap.size w).alloc (Nat.le_refl _) (.cells #[.int .i64 0, .int .i64 0, .int .i64 0, .int .i64 0, .int .i64 0, .int .i64 0, .int .i64 0, .int .i64 0, .int .i64 0, .int .i64 0, .int .i64 0] 51)).cell (p := (⟨g0, r * 11 + 0, none⟩ : Addr).add j) (by rw [add_block]; exact hgl)).trans (hpc j u hu)
  have HP := Lib.hid hpc2
  clear h hr hpc hpc2 hv
  go_enter Try.func26, Try.ntmps26
  go_wp2_with fail
  refine (H1.out _).mono ?_
  rintro e w1 ⟨rfl, rfl⟩
  go_wp2_with (refine wpList_load_flat rfl 51 (.tmp 20) rfl _ rfl [.int .i64 s, .int .i64 g, .int .i64 K, .int .i64 a0, .int .i64 a1, .int .i64 a2, .int .i64 a3, .int .i64 a4, .int .i64 a5, .int .i64 a6, .int .i64 a7] _ Try.underlying51 rfl (by kernel_rfl) HP.out ?_)
  refine bodyPost_ret (v := .tuple #[.agg #[.int .i64 s, .int .i64 g, .int .i64 K, .int .i64 a0, .int .i64 a1, .int .i64 a2, .int .i64 a3, .int .i64 a4, .int .i64 a5, .int .i64 a6, .int .i64 a7], .int .i64 0]) (by unfold results; try go_simp) rfl ?_
  refine ⟨rfl, Mod.toBelow (F := []) ?_ (by simp) (Nat.le_refl _)⟩
  exact (Mod.refl _ _).alloc _

set_option maxRecDepth 20000 in
set_option maxHeartbeats 2000000 in
theorem rremove_no (h : RTabAt w q kn rows vl) (r : Int) (hr : rowB r rows.length = false) (hl : rows.length ≤ 1200000000000) :
    Calls Try.prog 22 #[.pointer (some ⟨q, 0, none⟩), .int .i64 r] w (RowPost zero11 5 w) := by
  have H1 := Lib.hid (outRow_any r rows.length false hr)
  obtain ⟨A, cap, rfl, -, -⟩ := row_slice h.row
  have c1 := h.cell
  have hq := h.lt
  clear h hr
  go_enter Try.func22, Try.ntmps22
  go_wp2_with fail
  refine (H1.out _).mono ?_
  rintro e w1 ⟨rfl, rfl⟩
  go_wp2
  refine bodyPost_ret (v := .tuple #[.agg #[.int .i64 0, .int .i64 0, .int .i64 0, .int .i64 0, .int .i64 0, .int .i64 0, .int .i64 0, .int .i64 0, .int .i64 0, .int .i64 0, .int .i64 0], .int .i64 5]) (by unfold results; try go_simp) rfl ?_
  refine ⟨rfl, Mod.toBelow (F := []) ?_ (by simp) (Nat.le_refl _)⟩
  exact (Mod.refl _ _).alloc _

set_option maxRecDepth 20000 in
set_option maxHeartbeats 8000000 in
theorem rremove_yes (h : RTabAt w q kn rows vl) (r : Nat) (hr : r < rows.length) (hl : rows.length ≤ 1200000000000) :
    Calls Try.prog 22 #[.pointer (some ⟨q, 0, none⟩), .int .i64 r] w (RPost w q kn vl (remL rows r) (.tuple #[.agg (ints (rwI rows[r])).toArray, .int .i64 0])) := by
  have h1 := outRow_any (r : Int) rows.length true (rowB_iff.2 ⟨r, rfl, hr⟩)
  obtain ⟨m, hm⟩ : ∃ m, rows.length = m + 1 := ⟨rows.length - 1, by omega⟩
  obtain ⟨g0, cap, cur, hv, -, -, -⟩ := row_some h.row (by omega)
  have hpc := row_piece rwC_len (by rw [← hv]; exact h.row) hr 0 (rwC rows[r]) (fun j u hu => by rw [Nat.zero_add]; exact hu)
  have hgl := row_lt h.row g0 (by rw [hv]; rfl)
  have c1 := h.cell
  rw [hv, hm] at c1
  have hq := h.lt
  have hri : (r : Int) < (m : Int) + 1 := by omega
  have hml : m ≤ 1200000000000 := by omega
  obtain ⟨x, hx⟩ : ∃ x, x = rows[r] := ⟨_, rfl⟩
  rw [← hx] at hpc ⊢
  obtain ⟨⟨s, g⟩, K, a0, a1, a2, a3, a4, a5, a6, a7⟩ := x
  have hpc2 := fun j u hu => (((Below.refl w.heap.size w).alloc (Nat.le_refl _) (.cells #[.int .i64 0, .int .i64 0, .int .i64 0, .int .i64 0, .int .i64 0, .int .i64 0, .int .i64 0, .int .i64 0, .int .i64 0, .int .i64 0, .int .i64 0] 51)).cell (p := (⟨g0, r * 11 + 0, none⟩ : Addr).add j) (by rw [add_block]; exact hgl)).trans (hpc j u hu)
  have HP := Lib.hid hpc2; have H := Lib.hid h; have HV := Lib.hid hv; have HM := Lib.hid hm; have HR := Lib.hid hr
  rw [hm, show ((m + 1 : Nat) : Int) - 1 = (m : Int) by omega] at h1
  have H1 := Lib.hid h1
  clear h1
  have HLL := Lib.hid hl
  clear h hpc hpc2 hv hx hm hr hl
  go_enter Try.func22, Try.ntmps22
  go_wp2_with fail
  refine (H1.out _).mono ?_
  rintro e w1 ⟨rfl, rfl⟩
  go_wp2_with (refine wpList_load_flat rfl 51 (.tmp 22) rfl _ rfl [.int .i64 s, .int .i64 g, .int .i64 K, .int .i64 a0, .int .i64 a1, .int .i64 a2, .int .i64 a3, .int .i64 a4, .int .i64 a5, .int .i64 a6, .int .i64 a7] _ Try.underlying51 rfl (by kernel_rfl) HP.out ?_)
  obtain ⟨w1, hw1⟩ : ∃ w1, w1 = (w.alloc (.cells #[.int .i64 0, .int .i64 0, .int .i64 0, .int .i64 0, .int .i64 0, .int .i64 0, .int .i64 0, .int .i64 0, .int .i64 0, .int .i64 0, .int .i64 0] 51)).alloc (.cells #[.int .i64 s, .int .i64 g, .int .i64 K, .int .i64 a0, .int .i64 a1, .int .i64 a2, .int .i64 a3, .int .i64 a4, .int .i64 a5, .int .i64 a6, .int .i64 a7] 51) := ⟨_, rfl⟩
  have hm1 : Mod [] w w1 := by rw [hw1]; exact ((Mod.refl _ _).alloc _).alloc _
  have hs1 : w1.heap.size = w.heap.size + 1 + 1 := by rw [hw1]; simp
  have k4 : w1.heap[w.heap.size]? = some (.cells #[.int .i64 0, .int .i64 0, .int .i64 0, .int .i64 0, .int .i64 0, .int .i64 0, .int .i64 0, .int .i64 0, .int .i64 0, .int .i64 0, .int .i64 0] 51 (0, 0)) := by rw [hw1]; exact blk_alloc (heap_alloc_new w _) _
  have k6 : w1.heap[w.heap.size + 1]? = some (.cells #[.int .i64 s, .int .i64 g, .int .i64 K, .int .i64 a0, .int .i64 a1, .int .i64 a2, .int .i64 a3, .int .i64 a4, .int .i64 a5, .int .i64 a6, .int .i64 a7] 51 (0, 0)) := by
    rw [hw1]
    have := heap_alloc_new (w.alloc (.cells #[.int .i64 0, .int .i64 0, .int .i64 0, .int .i64 0, .int .i64 0, .int .i64 0, .int .i64 0, .int .i64 0, .int .i64 0, .int .i64 0, .int .i64 0] 51)) (.cells #[.int .i64 s, .int .i64 g, .int .i64 K, .int .i64 a0, .int .i64 a1, .int .i64 a2, .int .i64 a3, .int .i64 a4, .int .i64 a5, .int .i64 a6, .int .i64 a7] 51)
    simpa using this
  rw [← hw1]
  have ht1 : RTabAt w1 q kn rows vl := FieldAt.mod H.out hm1 (by simp) (by simp)
  have hrow1 := ht1.row
  have hml' : rows.length ≤ 1200000000000 := HLL.out
  have hcopy := copyRows_any w1 vl rows hrow1 hml'
  rw [HV.out, HM.out] at hcopy
  have HC := Lib.hid hcopy; have HM1 := Lib.hid hm1; have HS1 := Lib.hid hs1; have K4 := Lib.hid k4; have K6 := Lib.hid k6; have HT1 := Lib.hid ht1
  clear hcopy hm1 hs1 k4 k6 ht1 hrow1 hw1 hml' c1
  refine HC.out.mono ?_
  rintro e w2 ⟨v2, rfl, hown, hb⟩
  have hrm := remL_eq (k := r) HM.out
  obtain ⟨g2, cap2, cur2, hv2, hg2, -, hn2, hc2, -, -⟩ := row_some hown (by have := HM.out; omega)
  have hpz := row_piece rwC_len (by rw [← hv2]; exact hown) (show m < rows.length by have := HM.out; omega) 0 (rwC (rows[m]'(by have := HM.out; omega))) (fun j u hu => by rw [Nat.zero_add]; exact hu)
  obtain ⟨z, hz⟩ : ∃ z, z = rows[m]'(by have := HM.out; omega) := ⟨_, rfl⟩
  rw [← hz] at hpz hrm
  rw [hv2] at hown
  have hflen := flatV_length rwC_len rows
  have hth := row_there hown (i := r * 11) (m := (rwC z).length) (by rw [hflen, rwC_len]; have := HR.out; have : (r + 1) * 11 ≤ rows.length * 11 := Nat.mul_le_mul_right _ this; omega)
  have hst := row_setCells (w := w2) (rwC z) (r * 11 + 0) w2 _ hown
  rw [setL_flat rwC_len rows r HR.out 0 (rwC z) z (by rw [rwC_len]; omega) (setL_all _ _ (by rw [rwC_len, rwC_len]))] at hst
  have hcut := row_cut hst (m := m) (by have := HM.out; omega) (by simp)
  rw [flatV_take rwC_len, ← hrm] at hcut
  have hms := mod_setCells (g := g2) (F := [g2]) (.inl (by simp)) (rwC z) (r * 11) w2 (Mod.refl _ w2)
  have hm12 : Mod [] w1 w2 := Mod.ofBelow hb
  have hm13 := hm12.trans hms (fun x hx => .inr (by simp at hx; omega))
  have hrl : (remL rows r).length = m := by rw [remL_length, HM.out]; rfl
  have hfn := field_new (v' := .slice (some ⟨g2, 0, none⟩) m cap2) (l' := remL rows r) HT1.out hm13 (by rw [hrl]; exact hcut)
  rw [HM.out] at hv2
  subst hv2
  have hgl2 := row_lt hown g2 rfl
  have hmc : (m : Int) ≤ (cap2 : Int) := by have := HM.out; omega
  have hc2' : cap2 ≤ 9223372036854775807 := by unfold maxLen at hc2; exact hc2
  have hmi : (m : Int) < (m : Int) + 1 := by omega
  have hq1 : q ≠ w.heap.size := by omega
  have hq2 : w.heap.size ≠ q := by omega
  have hq3 : q ≠ w.heap.size + 1 := by omega
  have hq4 : w.heap.size + 1 ≠ q := by omega
  have hk4 := hm13.keep K4.out (by simp)
  have hk6 := hm13.keep K6.out (by simp)
  have HPz := Lib.hid hpz; have HTh := Lib.hid hth; have HO := Lib.hid (rwC_one z); have HFn := Lib.hid hfn.1; have HK4 := Lib.hid hk4; have HK6 := Lib.hid hk6
  have hqb := blk_cell hfn.2 1
  have hqf := blk_free hfn.2 1
  rw [HT1.out.here] at hqb
  rw [HV.out, HM.out] at hqb
  have hl3 := blk_lt hfn.2
  clear hpz hth hst hcut hms hm12 hm13 hfn hk4 hk6 hrm hown hb hflen hz hrl hg2 hn2 hc2
  go_wp2_with (first | (refine wpList_load_flat rfl 51 (.tmp 35) rfl _ rfl (rwC z) _ Try.underlying51 rfl (sz_Row _) HPz.out ?_) | (refine wpList_store_at rfl 51 (.tmp 37) (.tmp 36) rfl g2 (r * 11) (rwC z) rfl rfl (by exact HTh.out) (sz_Row _) HO.out ?_; generalize w2.setCells g2 (r * 11) (rwC z) = W3 at *; have c0 := blk_cell HK6.out 0; have c1 := blk_cell HK6.out 1; have c2 := blk_cell HK6.out 2; have c3 := blk_cell HK6.out 3; have c4 := blk_cell HK6.out 4; have c5 := blk_cell HK6.out 5; have c6 := blk_cell HK6.out 6; have c7 := blk_cell HK6.out 7; have c8 := blk_cell HK6.out 8; have c9 := blk_cell HK6.out 9; have c10 := blk_cell HK6.out 10; have z0 := blk_cell HK4.out 0; have z1 := blk_cell HK4.out 1; have z2 := blk_cell HK4.out 2; have z3 := blk_cell HK4.out 3; have z4 := blk_cell HK4.out 4; have z5 := blk_cell HK4.out 5; have z6 := blk_cell HK4.out 6; have z7 := blk_cell HK4.out 7; have z8 := blk_cell HK4.out 8; have z9 := blk_cell HK4.out 9; have z10 := blk_cell HK4.out 10; have f0 := blk_free HK4.out 0; have f1 := blk_free HK4.out 1; have f2 := blk_free HK4.out 2; have f3 := blk_free HK4.out 3; have f4 := blk_free HK4.out 4; have f5 := blk_free HK4.out 5; have f6 := blk_free HK4.out 6; have f7 := blk_free HK4.out 7; have f8 := blk_free HK4.out 8; have f9 := blk_free HK4.out 9; have f10 := blk_free HK4.out 10; simp only [List.getElem?_toArray, List.getElem?_cons_zero, List.getElem?_cons_succ] at c0 z0 c1 z1 c2 z2 c3 z3 c4 z4 c5 z5 c6 z6 c7 z7 c8 z8 c9 z9 c10 z10; have l6 := blk_lt HK6.out; have l4 := blk_lt HK4.out))
  refine bodyPost_ret (v := .tuple #[.agg #[.int .i64 s, .int .i64 g, .int .i64 K, .int .i64 a0, .int .i64 a1, .int .i64 a2, .int .i64 a3, .int .i64 a4, .int .i64 a5, .int .i64 a6, .int .i64 a7], .int .i64 0]) (by unfold results; try go_simp) rfl ?_
  refine ⟨rfl, HFn.out.late (r := w.heap.size) HM1.out ?_ (Nat.le_refl _) (by have := HS1.out; omega) hq (fun k hk => row_lt H.out.row k hk)⟩
  iterate 11 (refine Mod.setCell ?_ (.inl (by simp)) _)
  exact Mod.refl _ _
end
end Go.Proofs.Ytkcpmoinpdojjaa

/- The reference's table: Column. -/
namespace Go.Proofs.Ytkcpmoinpdojjaa
open Go Go.RowKit

theorem outKind_any (k : Int) (b : Bool) (h : outsideB k 0 7 = b) (w : World) : Calls Try.prog 63 #[.int .i64 k, .int .i64 0, .int .i64 7] w fun e w' => e = .returned (.bool b) ∧ w = w' := by
  have := outside_any k 0 7 w
  rw [h] at this
  exact this
theorem hasKn2_any (kn k : Nat) (hkn : kn < 256) (hk : k < 8) (b : Bool) (hb : kn.testBit k = b) (w : World) : Calls Try.prog 64 #[.int .i64 (kn : Int), .int .i64 (k : Int)] w fun e w' => e = .returned (.bool b) ∧ w = w' := by
  have := hasKind_any (kn : Int) k (by omega) w
  rw [hasK_nat kn k hkn, hb] at this
  exact this
theorem valK_lt (k : Nat) (hk : k < 8) (x : Rw) : (rwC x)[3 + k]? = some (.int .i64 (valK k x.2)) := by
  obtain ⟨⟨s, g⟩, K, a0, a1, a2, a3, a4, a5, a6, a7⟩ := x
  match k, hk with
  | 0, _ => rfl
  | 1, _ => rfl
  | 2, _ => rfl
  | 3, _ => rfl
  | 4, _ => rfl
  | 5, _ => rfl
  | 6, _ => rfl
  | 7, _ => rfl

section
variable {w : World} {q kn : Nat} {rows : List Rw} {vl : Value}
set_option maxRecDepth 20000 in
set_option maxHeartbeats 4000000 in
theorem rcolumn_any (h : RTabAt w q kn rows vl) (hkn : kn < 256) (k : Int) (hl : rows.length ≤ 1200000000000) :
    Calls Try.prog 28 #[.pointer (some ⟨q, 0, none⟩), .int .i64 k] w (ColPost (if kindE kn k = 0 then rows.map (fun r => valK k.toNat r.2) else []) (kindE kn k) w) := by
  rcases kindE_cases kn k with ⟨hb, he⟩ | ⟨j, rfl, hj, hb, he⟩ | ⟨j, rfl, hj, hb, he⟩
  · rw [he]
    have H1 := Lib.hid (outKind_any k true (by unfold outsideB; simp; omega))
    clear h hb he
    go_enter Try.func28, Try.ntmps28
    go_wp2_with fail
    refine (H1.out _).mono ?_
    rintro e w1 ⟨rfl, rfl⟩
    go_wp2
    go_ret2
    exact ⟨_, rfl, ⟨rfl, .inl ⟨rfl, rfl⟩⟩, Below.refl _ _⟩
  · rw [he]
    have H1 := Lib.hid (outKind_any (j : Int) false (by unfold outsideB; simp; omega))
    have H2 := Lib.hid (hasKn2_any kn j hkn hj false hb)
    have c0 : w.cell? ⟨q, 0, none⟩ = some (.int .i64 (kn : Int)) := by rw [blk_cell h.blk]; rfl
    clear h hb he
    go_enter Try.func28, Try.ntmps28
    go_wp2_with fail
    refine (H1.out _).mono ?_
    rintro e w1 ⟨rfl, rfl⟩
    go_wp2_with fail
    refine (H2.out _).mono ?_
    rintro e w1 ⟨rfl, rfl⟩
    go_wp2
    go_ret2
    exact ⟨_, rfl, ⟨rfl, .inl ⟨rfl, rfl⟩⟩, Below.refl _ _⟩
  · rw [he, if_pos rfl, Int.toNat_natCast]
    have H1 := Lib.hid (outKind_any (j : Int) false (by unfold outsideB; simp; omega))
    have H2 := Lib.hid (hasKn2_any kn j hkn hj true hb)
    have c0 : w.cell? ⟨q, 0, none⟩ = some (.int .i64 (kn : Int)) := by rw [blk_cell h.blk]; rfl
    obtain ⟨A, cap, rfl, hnc, hcm⟩ := row_slice h.row
    have c1 := h.cell
    have hle : rows.length ≤ 9223372036854775807 := by omega
    have H := Lib.hid h; have HLL := Lib.hid hl
    obtain ⟨F, hF⟩ : ∃ F : Rw → Int, F = fun r => valK j r.2 := ⟨_, rfl⟩
    have HF := Lib.hid hF
    rw [← hF]
    have hji : (j : Int) < 8 := by omega
    clear h hb he hl hnc hcm hF
    go_enter Try.func28, Try.ntmps28
    go_wp2_with fail
    refine (H1.out _).mono ?_
    rintro e w1 ⟨rfl, rfl⟩
    go_wp2_with fail
    refine (H2.out _).mono ?_
    rintro e w1 ⟨rfl, rfl⟩
    go_wp2
    go_loopw [6, 23] (fun v i wr => ∃ n : Nat, n ≤ rows.length ∧ i = .int .i64 n ∧ wr.ownsRow w.heap.size 3 1 v ((rows.take n).map F).length (ints ((rows.take n).map F)) ∧ Below w.heap.size w wr) (fun _ i _ => rows.length - (intOf i).toNat)
    case atStart => exact ⟨0, by omega, rfl, ⟨rfl, .inl ⟨rfl, rfl⟩⟩, Below.refl _ _⟩
    case round =>
      obtain ⟨n, hn, rfl, hown, hbel⟩ := hrel
      have hsz := hbel.size
      by_cases hlt : n < rows.length
      · have hro : wr.ownsRow 0 51 11 (.slice A rows.length cap) rows.length (rows.flatMap rwC) := row_mod H.out.row (Mod.ofBelow hbel) (by simp)
        obtain ⟨g0, cap0, cur0, hv, -, -, -⟩ := row_some hro (by omega)
        cases hv
        have hpc := row_piece rwC_len hro hlt 0 (rwC rows[n]) (fun j u hu => by rw [Nat.zero_add]; exact hu)
        have hs := take_succ_get rows n hlt
        have hst : (rows.take (n + 1)).map F = (rows.take n).map F ++ [F rows[n]] := by rw [hs, List.map_append]; rfl
        have hlen : ((rows.take n).map F).length ≤ 1200000000000 := by have := HLL.out; simp; omega
        have hvk := valK_lt j hj rows[n]
        have hFx : F rows[n] = valK j rows[n].2 := by rw [HF.out]
        rw [← hFx] at hvk
        have hg0 := row_lt hro g0 rfl
        have hni : (n : Int) < (rows.length : Int) := by omega
        generalize (rows.take n).map F = L at *
        generalize F rows[n] = y at *
        generalize rows[n] = x at *
        have HP := Lib.hid hpc; have HO := Lib.hid (rwC_one x); have HVk := Lib.hid hvk; have HSt := Lib.hid hst; have HLen := Lib.hid hlen; have HBel := Lib.hid hbel; have HOwn := Lib.hid hown
        obtain ⟨w3, hw3⟩ : ∃ w3, w3 = wr.alloc (.cells (rwC x).toArray 51) := ⟨_, rfl⟩
        have HO3 := hown.alloc (.cells (rwC x).toArray 51)
        have HB3 := hbel.alloc hsz (.cells (rwC x).toArray 51)
        have HZ3 : (wr.alloc (.cells (rwC x).toArray 51)).heap.size = wr.heap.size + 1 := by simp
        have hc3 : (wr.alloc (.cells (rwC x).toArray 51)).cell? ⟨wr.heap.size, 3 + j, none⟩ = some (.int .i64 y) := by
          rw [blk_cell (heap_alloc_new wr _), List.getElem?_toArray]; exact hvk
        rw [← hw3] at HO3 HB3 HZ3 hc3
        have hl3 : wr.heap.size < w3.heap.size := by omega
        have HO3 := Lib.hid HO3; have HB3 := Lib.hid HB3; have HZ3 := Lib.hid HZ3; have HW := Lib.hid hw3
        clear hw3 hpc hvk hst hlen hs hro hFx hbel hown
        go_wp2_with (first | (refine wpList_load_flat rfl 51 (.tmp 25) rfl _ rfl (rwC x) _ Try.underlying51 rfl (sz_Row _) HP.out ?_) | (refine wpList_store_new rfl 51 (.tmp 8) (.tmp 26) rfl wr (ints [0, 0, 0, 0, 0, 0, 0, 0, 0, 0, 0]) (rwC x) 51 rfl rfl rfl (sz_Row _) HO.out ?_; rw [← HW.out]; clear HW) | (at_builtin; refine app_int rfl _ _ rfl w.heap.size _ L y ⟨wr.heap.size + 1, 0, none⟩ 1 rfl (HO3.out.alloc _) rfl (by rw [← HZ3.out]; simp) (by have := HLen.out; omega) (by have := HZ3.out; simp; omega) ?_; intro v' w4 hown2 hb1; have hbel4 := (HB3.out.alloc (by have := HZ3.out; omega) _).trans hb1))
        go_roundw
        case rel => exact ⟨n + 1, by omega, by go_num, by rw [HSt.out]; exact hown2, hbel4⟩
        case measure => simp [intOf] <;> omega
      · obtain rfl : n = rows.length := by omega
        rw [List.take_length] at hown
        have HO := Lib.hid hown; have HB := Lib.hid hbel
        clear hown hbel
        obtain ⟨A2, cap2, rfl, -, -⟩ := row_slice HO.out
        go_wp2
        go_ret2
        exact ⟨_, rfl, HO.out, HB.out⟩
end
end Go.Proofs.Ytkcpmoinpdojjaa

/- The reference's table: Set. -/
namespace Go.Proofs.Ytkcpmoinpdojjaa
open Go Go.RowKit

theorem outN_any (n : Int) (b : Bool) (h : outsideB n (-1000000000) 1000000000 = b) (w : World) : Calls Try.prog 63 #[.int .i64 n, .int .i64 (-1000000000), .int .i64 1000000000] w fun e w' => e = .returned (.bool b) ∧ w = w' := by
  have := outside_any n (-1000000000) 1000000000 w
  rw [h] at this
  exact this
/-- A row with one value turned. -/
def rwSet (x : Rw) (k : Nat) (n : Int) : Rw :=
  match x with
  | (hd, K, a0, a1, a2, a3, a4, a5, a6, a7) =>
    (hd, K, if k = 0 then n else a0, if k = 1 then n else a1, if k = 2 then n else a2, if k = 3 then n else a3, if k = 4 then n else a4, if k = 5 then n else a5, if k = 6 then n else a6, if k = 7 then n else a7)
theorem rwSet_cells (x : Rw) (k : Nat) (hk : k < 8) (n : Int) : setL (rwC x) (3 + k) [.int .i64 n] = rwC (rwSet x k n) := by
  obtain ⟨⟨s, g⟩, K, a0, a1, a2, a3, a4, a5, a6, a7⟩ := x
  match k, hk with
  | 0, _ => rfl
  | 1, _ => rfl
  | 2, _ => rfl
  | 3, _ => rfl
  | 4, _ => rfl
  | 5, _ => rfl
  | 6, _ => rfl
  | 7, _ => rfl

theorem field_new_set {α : Type} {enc : α → List Value} {E n : Nat} {w w2 : World} {p o g cap : Nat} {cs : Array Value} {T : TypeId} {v : Value} {l l' l2 : List α} (h : FieldAt enc E n w p o cs T v l) (hm : Mod [] w w2) (hown : w2.ownsRow w.heap.size E n (.slice (some ⟨g, 0, none⟩) l'.length cap) l'.length (l'.flatMap enc)) (i : Nat) (u : Value) (hl2 : l2.length = l'.length) (he : (l'.flatMap enc).set i u = l2.flatMap enc) :
    FieldPost enc E n w p o cs T v l2 ((w2.setCell ⟨p, o, none⟩ (.slice (some ⟨g, 0, none⟩) l'.length cap)).setCell ⟨g, i, none⟩ u) := by
  have hp2 : w2.heap[p]? = some (.cells cs T (0, 0)) := hm.keep h.blk (by simp)
  have hpl := h.lt
  have hol : o < cs.size := (Array.getElem?_eq_some_iff.1 h.here).1
  have hg := (hown.lt g rfl).1
  have hrow := row_mod hown ((Mod.refl [p] _).setCell (a := w2) (w := w2) (p := ⟨p, o, none⟩) (.inl (by simp)) (.slice (some ⟨g, 0, none⟩) l'.length cap)) (fun k hk => by simp [Value.ownBlock] at hk; subst hk; simp; omega)
  have hrow2 := row_base (row_set hrow i u) (B' := 0) (by simp)
  rw [he, ← hl2] at hrow2
  have hM : Mod [g] (w2.setCell ⟨p, o, none⟩ (.slice (some ⟨g, 0, none⟩) l'.length cap)) ((w2.setCell ⟨p, o, none⟩ (.slice (some ⟨g, 0, none⟩) l'.length cap)).setCell ⟨g, i, none⟩ u) := (Mod.refl _ _).setCell (.inl (by simp)) _
  refine ⟨⟨_, ⟨hM.keep (blk_set hp2 o _) (by simp; omega), by simp [hol], ?_, fun k hk => by simp [Value.ownBlock] at hk; omega⟩, fun k hk => .inr (by simp [Value.ownBlock] at hk; omega)⟩, ?_⟩
  · rw [← hl2]; exact hrow2
  · exact ((hm.mono (G := p :: v.ownBlock.toList) (by simp)).setCell (.inl (by simp)) _).setCell (.inr (by simp only; omega)) _

section
variable {w : World} {q kn : Nat} {rows : List Rw} {vl : Value}
set_option maxRecDepth 20000 in
set_option maxHeartbeats 4000000 in
theorem rset_err (h : RTabAt w q kn rows vl) (hkn : kn < 256) (r k n : Int) (hl : rows.length ≤ 1200000000000) (he0 : setE kn r rows.length k n ≠ 0) :
    Calls Try.prog 24 #[.pointer (some ⟨q, 0, none⟩), .int .i64 r, .int .i64 k, .int .i64 n] w (fun e w' => e = .returned (.int .i64 (setE kn r rows.length k n)) ∧ w = w') := by
  have c0 : w.cell? ⟨q, 0, none⟩ = some (.int .i64 (kn : Int)) := by rw [blk_cell h.blk]; rfl
  obtain ⟨A, cap, rfl, -, -⟩ := row_slice h.row
  have c1 := h.cell
  cases hr : rowB r rows.length with
  | false =>
    rw [show setE kn r rows.length k n = 5 by unfold setE; rw [if_pos hr]]
    have H1 := Lib.hid (outRow_any r rows.length false hr)
    clear h hr he0
    go_enter Try.func24, Try.ntmps24
    go_wp2_with fail
    refine (H1.out _).mono ?_
    rintro e w1 ⟨rfl, rfl⟩
    go_wp2
    go_ret
    exact ⟨rfl, rfl⟩
  | true =>
    have H1 := Lib.hid (outRow_any r rows.length true hr)
    rcases kindE_cases kn k with ⟨hb, he⟩ | ⟨j, rfl, hj, hb, he⟩ | ⟨j, rfl, hj, hb, he⟩
    · rw [show setE kn r rows.length k n = 1 by unfold setE; rw [if_neg (by rw [hr]; simp), he]; simp]
      have H2 := Lib.hid (outKind_any k true (by unfold outsideB; simp; omega))
      clear h hr he0 hb he
      go_enter Try.func24, Try.ntmps24
      go_wp2_with fail
      refine (H1.out _).mono ?_
      rintro e w1 ⟨rfl, rfl⟩
      go_wp2_with fail
      refine (H2.out _).mono ?_
      rintro e w1 ⟨rfl, rfl⟩
      go_wp2
      go_ret
      exact ⟨rfl, rfl⟩
    · rw [show setE kn r rows.length j n = 5 by unfold setE; rw [if_neg (by rw [hr]; simp), he]; simp]
      have H2 := Lib.hid (outKind_any (j : Int) false (by unfold outsideB; simp; omega))
      have H3 := Lib.hid (hasKn2_any kn j hkn hj false hb)
      clear h hr he0 hb he
      go_enter Try.func24, Try.ntmps24
      go_wp2_with fail
      refine (H1.out _).mono ?_
      rintro e w1 ⟨rfl, rfl⟩
      go_wp2_with fail
      refine (H2.out _).mono ?_
      rintro e w1 ⟨rfl, rfl⟩
      go_wp2_with fail
      refine (H3.out _).mono ?_
      rintro e w1 ⟨rfl, rfl⟩
      go_wp2
      go_ret
      exact ⟨rfl, rfl⟩
    · have hn : n < -1000000000 ∨ 1000000000 < n := by
        by_cases hn : n < -1000000000 ∨ 1000000000 < n
        · exact hn
        · exact absurd (by unfold setE; rw [if_neg (by rw [hr]; simp), he, if_neg hn]; simp) he0
      rw [show setE kn r rows.length j n = 1 by unfold setE; rw [if_neg (by rw [hr]; simp), he, if_pos hn]; simp]
      have H2 := Lib.hid (outKind_any (j : Int) false (by unfold outsideB; simp; omega))
      have H3 := Lib.hid (hasKn2_any kn j hkn hj true hb)
      have H4 := Lib.hid (outN_any n true (by unfold outsideB; rcases hn with hn | hn <;> simp [hn]))
      clear h hr he0 hb he hn
      go_enter Try.func24, Try.ntmps24
      go_wp2_with fail
      refine (H1.out _).mono ?_
      rintro e w1 ⟨rfl, rfl⟩
      go_wp2_with fail
      refine (H2.out _).mono ?_
      rintro e w1 ⟨rfl, rfl⟩
      go_wp2_with fail
      refine (H3.out _).mono ?_
      rintro e w1 ⟨rfl, rfl⟩
      go_wp2_with fail
      refine (H4.out _).mono ?_
      rintro e w1 ⟨rfl, rfl⟩
      go_wp2
      go_ret
      exact ⟨rfl, rfl⟩

set_option maxRecDepth 20000 in
set_option maxHeartbeats 4000000 in
theorem rset_ok (h : RTabAt w q kn rows vl) (hkn : kn < 256) (r j : Nat) (n : Int) (hl : rows.length ≤ 1200000000000) (hr : r < rows.length) (hj : j < 8) (hb : kn.testBit j = true) (hn : ¬ (n < -1000000000 ∨ 1000000000 < n)) :
    Calls Try.prog 24 #[.pointer (some ⟨q, 0, none⟩), .int .i64 r, .int .i64 j, .int .i64 n] w (RPost w q kn vl (rows.set r (rwSet rows[r] j n)) (.int .i64 0)) := by
  obtain ⟨l2, hl2⟩ : ∃ l2, l2 = rows.set r (rwSet rows[r] j n) := ⟨_, rfl⟩
  rw [← hl2]
  have hlen2 : l2.length = rows.length := by rw [hl2]; simp
  have hflat : (rows.flatMap rwC).set (r * 11 + (3 + j)) (.int .i64 n) = l2.flatMap rwC := by
    rw [hl2]; exact setL_flat rwC_len rows r hr (3 + j) [.int .i64 n] _ (by simp; omega) (rwSet_cells _ j hj n)
  have c0 : w.cell? ⟨q, 0, none⟩ = some (.int .i64 (kn : Int)) := by rw [blk_cell h.blk]; rfl
  have H1 := Lib.hid (outRow_any (r : Int) rows.length true (rowB_iff.2 ⟨r, rfl, hr⟩))
  have H2 := Lib.hid (outKind_any (j : Int) false (by unfold outsideB; simp; omega))
  have H3 := Lib.hid (hasKn2_any kn j hkn hj true hb)
  have H4 := Lib.hid (outN_any n false (by unfold outsideB; simp; omega))
  have hcopy := copyRows_any w vl rows h.row hl
  obtain ⟨A, cap, rfl, -, -⟩ := row_slice h.row
  have c1 := h.cell
  have hri : (r : Int) < (rows.length : Int) := by omega
  have hji : (j : Int) < 8 := by omega
  have HC := Lib.hid hcopy; have H := Lib.hid h; have HR := Lib.hid hr
  have HL2 := Lib.hid (And.intro hlen2 hflat)
  clear h hr hb hcopy hn hl2 hlen2 hflat
  go_enter Try.func24, Try.ntmps24
  go_wp2_with fail
  refine (H1.out _).mono ?_
  rintro e w1 ⟨rfl, rfl⟩
  go_wp2_with fail
  refine (H2.out _).mono ?_
  rintro e w1 ⟨rfl, rfl⟩
  go_wp2_with fail
  refine (H3.out _).mono ?_
  rintro e w1 ⟨rfl, rfl⟩
  go_wp2_with fail
  refine (H4.out _).mono ?_
  rintro e w1 ⟨rfl, rfl⟩
  go_wp2_with fail
  refine HC.out.mono ?_
  rintro e w2 ⟨v2, rfl, hown, hb⟩
  have hr := HR.out
  obtain ⟨g2, cap2, cur2, hv2, hg2, -, hn2, hc2, -, -⟩ := row_some hown (by omega)
  subst hv2
  have hgl2 := row_lt hown g2 rfl
  have hm2 : Mod [] w w2 := Mod.ofBelow hb
  have hfin := field_new_set H.out hm2 hown (r * 11 + (3 + j)) (.int .i64 n) HL2.out.1 HL2.out.2
  have hfi := H.out.lt
  have hqg : q ≠ g2 := by have := (hown.lt g2 rfl).1; omega
  have hgq : g2 ≠ q := Ne.symm hqg
  have hq2 := hm2.keep H.out.blk (by simp)
  have hlt3 : r * 11 + (3 + j) < rows.length * 11 := by omega
  have HF := Lib.hid hfin
  have cq := blk_cell hq2 1
  have fq := blk_free hq2 1
  have lq := blk_lt hq2
  have hxl : r * 11 + (3 + j) < (rows.flatMap rwC).length := by rw [flatV_length rwC_len]; omega
  have cg := row_cell hown (List.getElem?_eq_getElem hxl)
  have fg := row_free hown (r * 11 + (3 + j))
  rw [H.out.here] at cq
  generalize (rows.flatMap rwC)[r * 11 + (3 + j)] = y at *
  have ho : r * 11 + (3 + j) = r * 11 + 2 + 1 + j := by omega
  rw [ho] at cg fg HF
  clear hfin hown hb hm2 hq2 hr hxl hg2 hn2 hc2
  go_wp2
  go_ret
  exact ⟨rfl, HF.out⟩
end
end Go.Proofs.Ytkcpmoinpdojjaa

/- The program's Do. -/
namespace Go.Proofs.Ytkcpmoinpdojjaa
open Go Go.RowKit

attribute [local go_sem] AllFrom.cons_eq AllFrom.nil_eq putF_nil putF_cons wantedL_none wantedL_some OpGoalT OpGoalS OpGoalP OpGoalV YieldsR preF_nil preF_cons

def btV (K : Int) (l : List Int) : Value := .agg (Value.int .i64 K :: ints l).toArray

/-- The three blocks with which Do begins, behind a call that keeps the old ones. -/
theorem do_boxes {w w1 : World} {K a0 a1 a2 a3 a4 a5 a6 a7 n t a r s d x : Int} (hb : Below (((w.alloc (.cells #[.int .i64 K, .int .i64 a0, .int .i64 a1, .int .i64 a2, .int .i64 a3, .int .i64 a4, .int .i64 a5, .int .i64 a6, .int .i64 a7] 24)).alloc (.cells #[.int .i64 n, .int .i64 t, .int .i64 a, .int .i64 r, .int .i64 s, .int .i64 d, .int .i64 x] 28)).alloc (.cells #[.int .i64 0, .int .i64 0, .int .i64 0, .int .i64 0, .int .i64 0, .int .i64 0, .int .i64 0, .int .i64 0, .int .i64 0] 24)).heap.size (((w.alloc (.cells #[.int .i64 K, .int .i64 a0, .int .i64 a1, .int .i64 a2, .int .i64 a3, .int .i64 a4, .int .i64 a5, .int .i64 a6, .int .i64 a7] 24)).alloc (.cells #[.int .i64 n, .int .i64 t, .int .i64 a, .int .i64 r, .int .i64 s, .int .i64 d, .int .i64 x] 28)).alloc (.cells #[.int .i64 0, .int .i64 0, .int .i64 0, .int .i64 0, .int .i64 0, .int .i64 0, .int .i64 0, .int .i64 0, .int .i64 0] 24)) w1) :
    w1.heap[w.heap.size]? = some (.cells #[.int .i64 K, .int .i64 a0, .int .i64 a1, .int .i64 a2, .int .i64 a3, .int .i64 a4, .int .i64 a5, .int .i64 a6, .int .i64 a7] 24 (0, 0)) ∧ w1.heap[w.heap.size + 1]? = some (.cells #[.int .i64 n, .int .i64 t, .int .i64 a, .int .i64 r, .int .i64 s, .int .i64 d, .int .i64 x] 28 (0, 0)) ∧ w1.heap[w.heap.size + 2]? = some (.cells #[.int .i64 0, .int .i64 0, .int .i64 0, .int .i64 0, .int .i64 0, .int .i64 0, .int .i64 0, .int .i64 0, .int .i64 0] 24 (0, 0)) ∧ Below w.heap.size w w1 ∧ w.heap.size + 3 ≤ w1.heap.size := by
  have hs := hb.size
  simp only [World.size_alloc] at hs
  refine ⟨(hb.block _ (by simp only [World.size_alloc]; omega)).trans (blk_alloc (blk_alloc (heap_alloc_new w _) _) _), (hb.block _ (by simp only [World.size_alloc]; omega)).trans (blk_alloc (by have := heap_alloc_new (w.alloc (.cells #[.int .i64 K, .int .i64 a0, .int .i64 a1, .int .i64 a2, .int .i64 a3, .int .i64 a4, .int .i64 a5, .int .i64 a6, .int .i64 a7] 24)) (.cells #[.int .i64 n, .int .i64 t, .int .i64 a, .int .i64 r, .int .i64 s, .int .i64 d, .int .i64 x] 28); simpa using this) _), (hb.block _ (by simp only [World.size_alloc]; omega)).trans ?_, ?_, by omega⟩
  · have := heap_alloc_new ((w.alloc (.cells #[.int .i64 K, .int .i64 a0, .int .i64 a1, .int .i64 a2, .int .i64 a3, .int .i64 a4, .int .i64 a5, .int .i64 a6, .int .i64 a7] 24)).alloc (.cells #[.int .i64 n, .int .i64 t, .int .i64 a, .int .i64 r, .int .i64 s, .int .i64 d, .int .i64 x] 28)) (.cells #[.int .i64 0, .int .i64 0, .int .i64 0, .int .i64 0, .int .i64 0, .int .i64 0, .int .i64 0, .int .i64 0, .int .i64 0] 24)
    simpa using this
  · exact ((((Below.refl w.heap.size w).alloc (Nat.le_refl _) _).alloc (by simp) _).alloc (by simp; omega) _).trans (hb.mono (by simp; omega))

set_option maxRecDepth 20000 in
set_option maxHeartbeats 4000000 in
theorem do_no (K a0 a1 a2 a3 a4 a5 a6 a7 n t a r s d x : Int) (w : World) (hm : matchesB K n t a = false) :
    Calls Try.prog 61 #[.agg #[.int .i64 K, .int .i64 a0, .int .i64 a1, .int .i64 a2, .int .i64 a3, .int .i64 a4, .int .i64 a5, .int .i64 a6, .int .i64 a7], .agg #[.int .i64 n, .int .i64 t, .int .i64 a, .int .i64 r, .int .i64 s, .int .i64 d, .int .i64 x]] w fun e w' => e = .returned (btV K [a0, a1, a2, a3, a4, a5, a6, a7]) ∧ Below w.heap.size w w' := by
  have h1 := fun w => matches_any K n t a w
  rw [hm] at h1
  have H1 := Lib.hid h1
  clear h1 hm
  go_enter Try.func61, Try.ntmps61
  go_wp2_with fail
  refine (H1.out _).mono ?_
  rintro e w1 ⟨rfl, hb1⟩
  obtain ⟨k2, k3, k4, hbb, hz2⟩ := do_boxes hb1
  have HB := Lib.hid hbb
  have c0 := blk_cell k2 0
  have c1 := blk_cell k2 1
  have c2 := blk_cell k2 2
  have c3 := blk_cell k2 3
  have c4 := blk_cell k2 4
  have c5 := blk_cell k2 5
  have c6 := blk_cell k2 6
  have c7 := blk_cell k2 7
  have c8 := blk_cell k2 8
  have z0 := blk_cell k4 0
  have z1 := blk_cell k4 1
  have z2 := blk_cell k4 2
  have z3 := blk_cell k4 3
  have z4 := blk_cell k4 4
  have z5 := blk_cell k4 5
  have z6 := blk_cell k4 6
  have z7 := blk_cell k4 7
  have z8 := blk_cell k4 8
  simp only [List.getElem?_toArray, List.getElem?_cons_zero, List.getElem?_cons_succ] at c0 z0 c1 z1 c2 z2 c3 z3 c4 z4 c5 z5 c6 z6 c7 z7 c8 z8
  have f0 := blk_free k4 0
  have f1 := blk_free k4 1
  have f2 := blk_free k4 2
  have f3 := blk_free k4 3
  have f4 := blk_free k4 4
  have f5 := blk_free k4 5
  have f6 := blk_free k4 6
  have f7 := blk_free k4 7
  have f8 := blk_free k4 8
  have l2 := blk_lt k2
  have l4 := blk_lt k4
  clear k2 k3 k4 hbb hb1 H1
  go_wp2
  refine bodyPost_ret (v := .agg #[.int .i64 K, .int .i64 a0, .int .i64 a1, .int .i64 a2, .int .i64 a3, .int .i64 a4, .int .i64 a5, .int .i64 a6, .int .i64 a7]) (by unfold results; try go_simp) rfl ?_
  refine ⟨rfl, Mod.toBelow (F := []) ?_ (by simp) (Nat.le_refl _)⟩
  repeat (refine Mod.setCell ?_ (.inr (by simp only; omega)) _)
  exact Mod.ofBelow HB.out
end Go.Proofs.Ytkcpmoinpdojjaa
