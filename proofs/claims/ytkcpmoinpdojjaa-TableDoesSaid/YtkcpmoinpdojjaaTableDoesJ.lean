import Derived.Test.YtkcpmoinpdojjaaTableDoesJ16
import Derived.Test.YtkcpmoinpdojjaaTableDoesJ6
import Derived.Test.YtkcpmoinpdojjaaTableDoesJ2
import Derived.Test.YtkcpmoinpdojjaaRows
/- The law TableDoes returns true for every input. -/
namespace Go.Proofs.Ytkcpmoinpdojjaa
open Go Go.RowKit Go.ChangeShapes Go.WideShapes Go.ChangeAt

theorem two_start {kn m p : Nat} {cs : List (Nat × Nat)} {w w1 w2 : World} (ht : TabAt w1 p kn [] (fun _ => []) (.slice none 0 0) m cs (newFs cs)) (hF : ∀ k ∈ tabF p m (.slice none 0 0) cs (newFs cs), w.heap.size ≤ k) (hb : Below w.heap.size w w1) (h2 : w2 = w1.alloc (.cells #[.int .i64 (kn : Int), .slice none 0 0] 43)) :
    Two w.heap.size [] w2 p w1.heap.size kn m cs [] [] ∧ Below w.heap.size w w2 := by
  subst h2
  have hlt := ht.lt
  have hs := hb.size
  refine ⟨⟨⟨.slice none 0 0, newFs cs, .slice none 0 0, ht.mod ((Mod.refl [] w1).alloc _) (by simp), ⟨heap_alloc_new _ _, rfl, ⟨rfl, .inl ⟨rfl, rfl⟩⟩, by simp [Value.ownBlock]⟩, fun y hy => ⟨⟨hF y hy, by simp⟩, by have := hlt y hy; omega, by simp [Value.ownBlock]⟩, ⟨hs, by simp⟩, by simp [Value.ownBlock]⟩, by simp; omega, by simp⟩, hb.alloc hs _⟩

theorem blk_recs {w : World} {b : Nat} {xs : List Value} {t : TypeId} {f : Nat × Nat} (h : w.heap[b]? = some (.cells xs.toArray t f)) : ∀ j u, xs[j]? = some u → w.cell? ((⟨b, 0, none⟩ : Addr).add j) = some u := by
  intro j u hu
  have e : (⟨b, 0, none⟩ : Addr).add j = ⟨b, j, none⟩ := by unfold Addr.add; split <;> simp_all
  rw [e, blk_cell h]
  simpa using hu

theorem row_recS {w : World} {B : Nat} {A : Option Addr} {cap : Nat} {rows : List Rw} (h : w.ownsRow B 51 11 (.slice A rows.length cap) rows.length (rows.flatMap rwC)) {k : Nat} (hk : k < rows.length) :
    ∃ g, A = some ⟨g, 0, none⟩ ∧ g < w.heap.size ∧ ∀ j u, (rwC rows[k])[j]? = some u → w.cell? ⟨g, k * 11 + j, none⟩ = some u := by
  obtain ⟨g, cap', he, hcell⟩ := row_rec rwC_len h hk
  cases he
  exact ⟨g, rfl, row_lt h g rfl, hcell⟩

attribute [local go_sem] AllFrom.cons_eq AllFrom.nil_eq putF_nil putF_cons wantedL_none wantedL_some OpGoalT OpGoalS OpGoalP OpGoalV YieldsR preF_nil preF_cons

set_option maxRecDepth 100000 in
set_option maxHeartbeats 4000000 in
theorem tableDoes_bad (k : Int) (hk : k < 0 ∨ 255 < k) (v : Value) (w : World) :
    Calls Try.prog 4 #[.int .i64 k, v] w fun e w' => e = .returned (.bool true) ∧ Below w.heap.size w w' := by
  have H1 := Lib.hid (new_bad k hk)
  rcases hk with hk | hk
  · go_enter Try.func4, Try.ntmps4
    go_wp2_with fail
    refine (H1.out _).mono ?_
    rintro e w1 ⟨rfl, rfl⟩
    go_wp2
    go_ret
    exact ⟨rfl, Below.refl _ _⟩
  · have h0 : ¬ k < 0 := by omega
    go_enter Try.func4, Try.ntmps4
    go_wp2_with fail
    refine (H1.out _).mono ?_
    rintro e w1 ⟨rfl, rfl⟩
    go_wp2
    go_ret
    exact ⟨rfl, Below.refl _ _⟩
-- ROUND: printed by mk_tabdoes.py

theorem sz_Dd (d : Dd) : (Try.prog.info? 47).map (·.size) = some (ddC d).length := by rw [ddC_len]; kernel_rfl

set_option maxRecDepth 100000 in
set_option maxHeartbeats 20000000 in
theorem tableDoes_ok (kn : Nat) (hkn : kn < 256) (A : Option Addr) (c : Nat) (l : List Dd) (w : World) (hl : l.length * 120 ≤ 140737488351232) (hA : Lies w w.heap.size A (l.flatMap ddC)) :
    Calls Try.prog 4 #[.int .i64 (kn : Int), .slice A l.length c] w fun e w' => e = .returned (.bool true) ∧ Below w.heap.size w w' := by
  have H1 := Lib.hid (new_ok kn hkn w)
  have hl2 : l.length ≤ 1200000000000 := by omega
  have HL := Lib.hid hl2; have HA := Lib.hid hA
  have hk0 : ¬ (kn : Int) < 0 := by omega
  have hk1 : ¬ (255 : Int) < (kn : Int) := by omega
  clear hl hA hl2
  go_enter Try.func4, Try.ntmps4
  go_wp2_with fail
  refine H1.out.mono ?_
  rintro e w1 ⟨p, m, cs, rfl, ht, hF, hb⟩
  obtain ⟨w2, hw2⟩ : ∃ w2, w2 = w1.alloc (.cells #[.int .i64 (kn : Int), .slice none 0 0] 43) := ⟨_, rfl⟩
  obtain ⟨hT, hB⟩ := two_start ht hF hb hw2
  have HT0 := Lib.hid hT; have HB0 := Lib.hid hB; have HW := Lib.hid hw2
  clear ht hF hb hT hB hw2
  go_wp2
  rw [← HW.out]
  generalize w1.heap.size = q at *
  clear HW H1
  go_loopw [67] (fun i wr => ∃ (k : Nat) (rows : List Rw), k ≤ l.length ∧ i = .int .i64 k ∧ rows.length ≤ k ∧ (∀ x ∈ rows, GoodR kn x) ∧ Two w.heap.size [] wr p q kn m cs rows rows ∧ Below w.heap.size w wr) (fun i _ => l.length - (intOf i).toNat)
  case atStart => exact ⟨0, [], by omega, rfl, Nat.le_refl _, by simp, HT0.out, HB0.out⟩
  case round =>
    obtain ⟨k, rows, hk, rfl, hrl, hg, hT, hB⟩ := hrel
    clear HT0 HB0
    have hsz := hB.size
    by_cases hlt : k < l.length
    · obtain ⟨ab, ao, rfl, hal, hc⟩ := HA.out.rec_at ddC_len (by omega) hlt
      have hq : ∀ j u, (ddC l[k])[j]? = some u → wr.cell? ((⟨ab, ao + k * 15, none⟩ : Addr).add j) = some u := fun j u hu => (hB.cell (p := (⟨ab, ao + k * 15, none⟩ : Addr).add j) (by rw [add_block]; exact hal)).trans (by first | exact hc j u hu | (have := hc j u hu; rw [Addr.add_mid]; exact this))
      generalize l[k] = x at *
      obtain ⟨⟨d0, d1, d2, d3⟩, ⟨s, g⟩, K, a0, a1, a2, a3, a4, a5, a6, a7⟩ := x
      obtain ⟨w3, hw3⟩ : ∃ w3, w3 = wr.alloc (.cells #[.int .i64 d0, .int .i64 d1, .int .i64 d2, .int .i64 d3, .int .i64 s, .int .i64 g, .int .i64 K, .int .i64 a0, .int .i64 a1, .int .i64 a2, .int .i64 a3, .int .i64 a4, .int .i64 a5, .int .i64 a6, .int .i64 a7] 47) := ⟨_, rfl⟩
      have hk3 : w3.heap[wr.heap.size]? = some (.cells #[.int .i64 d0, .int .i64 d1, .int .i64 d2, .int .i64 d3, .int .i64 s, .int .i64 g, .int .i64 K, .int .i64 a0, .int .i64 a1, .int .i64 a2, .int .i64 a3, .int .i64 a4, .int .i64 a5, .int .i64 a6, .int .i64 a7] 47 (0, 0)) := by rw [hw3]; exact heap_alloc_new _ _
      have hb3 : Below wr.heap.size wr w3 := by rw [hw3]; exact (Below.refl _ _).alloc (Nat.le_refl _) _
      have hT3 := hT.fresh hb3 wr.heap.size (Nat.le_refl _) (by rw [hw3]; simp)
      have hB3 := hb3.mono hsz
      have hzr : w.heap.size ≤ wr.heap.size := hsz
      have HP := Lib.hid hq; have HO := Lib.hid (ddC_one ((d0, d1, d2, d3), (s, g), K, a0, a1, a2, a3, a4, a5, a6, a7)); have HW3 := Lib.hid hw3
      have HT3 := Lib.hid hT3; have HB3 := Lib.hid (hB.trans hB3); have HK3 := Lib.hid hk3; have HG := Lib.hid hg; have HRL := Lib.hid hrl
      have hki : (k : Int) < (l.length : Int) := by omega
      have c0 := blk_cell hk3 0
      have c1 := blk_cell hk3 1
      have c2 := blk_cell hk3 2
      have c3 := blk_cell hk3 3
      have c4 := blk_cell hk3 4
      have c5 := blk_cell hk3 5
      have c6 := blk_cell hk3 6
      have c7 := blk_cell hk3 7
      have c8 := blk_cell hk3 8
      have c9 := blk_cell hk3 9
      have c10 := blk_cell hk3 10
      have c11 := blk_cell hk3 11
      have c12 := blk_cell hk3 12
      have c13 := blk_cell hk3 13
      have c14 := blk_cell hk3 14
      simp only [List.getElem?_toArray, List.getElem?_cons_zero, List.getElem?_cons_succ] at c0 c1 c2 c3 c4 c5 c6 c7 c8 c9 c10 c11 c12 c13 c14
      have cl := blk_lt hk3
      clear hq hc hw3 hT hB hT3 hB3 hb3 hg hk3
      have hrows : rows.length < 1200000000000 := by have := HL.out; have := HRL.out; omega
      have HRo := Lib.hid hrows
      clear hrows
      rcases (show d0 = 0 ∨ d0 = 1 ∨ d0 = 2 ∨ (d0 ≠ 0 ∧ d0 ≠ 1 ∧ d0 ≠ 2) by omega) with rfl | rfl | rfl | ⟨e0, e1, e2⟩
      case' inl =>
        go_wp2_with (first | (refine wpList_load_flat rfl 47 (.tmp 69) rfl _ rfl (ddC ((0, d1, d2, d3), (s, g), K, a0, a1, a2, a3, a4, a5, a6, a7)) _ Try.underlying47 rfl (sz_Dd _) HP.out ?_) | (refine wpList_store_new rfl 47 (.tmp 9) (.tmp 70) rfl wr (ints [0, 0, 0, 0, 0, 0, 0, 0, 0, 0, 0, 0, 0, 0, 0]) (ddC ((0, d1, d2, d3), (s, g), K, a0, a1, a2, a3, a4, a5, a6, a7)) 47 rfl rfl rfl (sz_Dd _) HO.out ?_; rw [show (ddC ((0, d1, d2, d3), (s, g), K, a0, a1, a2, a3, a4, a5, a6, a7)).toArray = #[.int .i64 0, .int .i64 d1, .int .i64 d2, .int .i64 d3, .int .i64 s, .int .i64 g, .int .i64 K, .int .i64 a0, .int .i64 a1, .int .i64 a2, .int .i64 a3, .int .i64 a4, .int .i64 a5, .int .i64 a6, .int .i64 a7] from rfl, ← HW3.out]; clear HW3))
        refine (tadd_any HT3.out s g K a0 a1 a2 a3 a4 a5 a6 a7 HRo.out).mono ?_
        rintro e w4 ⟨rfl, h4, b4, z4⟩
        have hk4 := z4 _ (by simp) _ HK3.out
        have HT4 := Lib.hid h4; have HB4 := Lib.hid (HB3.out.trans b4); have HK4 := Lib.hid hk4
        have c0 := blk_cell hk4 0
        have c1 := blk_cell hk4 1
        have c2 := blk_cell hk4 2
        have c3 := blk_cell hk4 3
        have c4 := blk_cell hk4 4
        have c5 := blk_cell hk4 5
        have c6 := blk_cell hk4 6
        have c7 := blk_cell hk4 7
        have c8 := blk_cell hk4 8
        have c9 := blk_cell hk4 9
        have c10 := blk_cell hk4 10
        have c11 := blk_cell hk4 11
        have c12 := blk_cell hk4 12
        have c13 := blk_cell hk4 13
        have c14 := blk_cell hk4 14
        simp only [List.getElem?_toArray, List.getElem?_cons_zero, List.getElem?_cons_succ] at c0 c1 c2 c3 c4 c5 c6 c7 c8 c9 c10 c11 c12 c13 c14
        have cl := blk_lt hk4
        clear h4 b4 z4 hk4
        go_wp2_with fail
        refine (radd_any HT4.out s g K a0 a1 a2 a3 a4 a5 a6 a7 HRo.out).mono ?_
        rintro e w5 ⟨rfl, h5, b5, z5⟩
        have hk5 := z5 _ (by simp) _ HK4.out
        have HT5 := Lib.hid h5; have HB5 := Lib.hid (HB4.out.trans b5); have HK5 := Lib.hid hk5
        have HG5 := Lib.hid (good_addL hkn HG.out ((s, g), K, a0, a1, a2, a3, a4, a5, a6, a7)); have HL5 := Lib.hid (Nat.le_trans (addL_len kn rows ((s, g), K, a0, a1, a2, a3, a4, a5, a6, a7)) (Nat.succ_le_succ HRL.out))
        generalize addL kn rows ((s, g), K, a0, a1, a2, a3, a4, a5, a6, a7) = rows5 at *
        generalize addN kn rows ((s, g), K, a0, a1, a2, a3, a4, a5, a6, a7) = n5 at *
        generalize addZ kn (K, a0, a1, a2, a3, a4, a5, a6, a7) = z9 at *
        have c0 := blk_cell hk5 0
        have c1 := blk_cell hk5 1
        have c2 := blk_cell hk5 2
        have c3 := blk_cell hk5 3
        have c4 := blk_cell hk5 4
        have c5 := blk_cell hk5 5
        have c6 := blk_cell hk5 6
        have c7 := blk_cell hk5 7
        have c8 := blk_cell hk5 8
        have c9 := blk_cell hk5 9
        have c10 := blk_cell hk5 10
        have c11 := blk_cell hk5 11
        have c12 := blk_cell hk5 12
        have c13 := blk_cell hk5 13
        have c14 := blk_cell hk5 14
        simp only [List.getElem?_toArray, List.getElem?_cons_zero, List.getElem?_cons_succ] at c0 c1 c2 c3 c4 c5 c6 c7 c8 c9 c10 c11 c12 c13 c14
        have cl := blk_lt hk5
        clear h5 b5 z5 hk5
        go_wp2_with fail
        clear HT3 HB3 HK3 HT4 HB4 HK4 HG HRL HRo HP HO
      case' inr.inl =>
        go_wp2_with (first | (refine wpList_load_flat rfl 47 (.tmp 69) rfl _ rfl (ddC ((1, d1, d2, d3), (s, g), K, a0, a1, a2, a3, a4, a5, a6, a7)) _ Try.underlying47 rfl (sz_Dd _) HP.out ?_) | (refine wpList_store_new rfl 47 (.tmp 9) (.tmp 70) rfl wr (ints [0, 0, 0, 0, 0, 0, 0, 0, 0, 0, 0, 0, 0, 0, 0]) (ddC ((1, d1, d2, d3), (s, g), K, a0, a1, a2, a3, a4, a5, a6, a7)) 47 rfl rfl rfl (sz_Dd _) HO.out ?_; rw [show (ddC ((1, d1, d2, d3), (s, g), K, a0, a1, a2, a3, a4, a5, a6, a7)).toArray = #[.int .i64 1, .int .i64 d1, .int .i64 d2, .int .i64 d3, .int .i64 s, .int .i64 g, .int .i64 K, .int .i64 a0, .int .i64 a1, .int .i64 a2, .int .i64 a3, .int .i64 a4, .int .i64 a5, .int .i64 a6, .int .i64 a7] from rfl, ← HW3.out]; clear HW3))
        have hl8 : rows.length ≤ 1200000000000 := by have := HRo.out; omega
        have HL8 := Lib.hid hl8
        clear hl8
        have HG5 := Lib.hid (good_remV HG.out d1); have HL5 := Lib.hid (Nat.le_succ_of_le (Nat.le_trans (remV_len rows d1) HRL.out))
        have R1 := Lib.hid (trem_any HT3.out HG.out d1 HL8.out)
        have R2 := Lib.hid (fun Z v (h : Two w.heap.size Z v p q kn m cs (remV rows d1) rows) => rrem_any h d1 HL8.out)
        generalize remV rows d1 = rows5 at *
        generalize rowG rows d1 = y8 at *
        generalize rowZ rows d1 = e8 at *
        have HO8 := Lib.hid (rwC_one y8)
        have hcmp : ∀ w, (binOp .neq 51 (.agg (rwC y8).toArray) (.agg (rwC y8).toArray)).run Try.prog w = .ok (.bool false) w := fun w => by rw [neqRow, eqB_self]; rfl
        have HCmp := Lib.hid hcmp
        clear hcmp
        refine R1.out.mono ?_
        rintro e w4 ⟨he, h4, b4, z4⟩
        unfold RowAns at he
        subst he
        have hk4 := z4 _ (by simp) _ HK3.out
        obtain ⟨w4', hw4⟩ : ∃ w4', w4' = w4.alloc (.cells (rwC y8).toArray 51) := ⟨_, rfl⟩
        have hb44 : Below w4.heap.size w4 w4' := by rw [hw4]; exact (Below.refl _ _).alloc (Nat.le_refl _) _
        have hr4 : w4'.heap[w4.heap.size]? = some (.cells (rwC y8).toArray 51 (0, 0)) := by rw [hw4]; exact heap_alloc_new _ _
        have hT4 := h4.fresh hb44 w4.heap.size (Nat.le_refl _) (blk_lt hr4)
        have hd4 := (Mod.ofBelow hb44).keep hk4 (by simp)
        have hB4 := (HB3.out.trans b4).trans (hb44.mono (Nat.le_trans HB3.out.size b4.size))
        have c0 := blk_cell hd4 0
        have c1 := blk_cell hd4 1
        have c2 := blk_cell hd4 2
        have c3 := blk_cell hd4 3
        have c4 := blk_cell hd4 4
        have c5 := blk_cell hd4 5
        have c6 := blk_cell hd4 6
        have c7 := blk_cell hd4 7
        have c8 := blk_cell hd4 8
        have c9 := blk_cell hd4 9
        have c10 := blk_cell hd4 10
        have c11 := blk_cell hd4 11
        have c12 := blk_cell hd4 12
        have c13 := blk_cell hd4 13
        have c14 := blk_cell hd4 14
        simp only [List.getElem?_toArray, List.getElem?_cons_zero, List.getElem?_cons_succ] at c0 c1 c2 c3 c4 c5 c6 c7 c8 c9 c10 c11 c12 c13 c14
        have cl := blk_lt hd4
        have Hw4 := Lib.hid hw4; have HT4 := Lib.hid hT4; have Hd4 := Lib.hid hd4; have Hr4 := Lib.hid hr4; have HB4 := Lib.hid hB4
        clear hw4 hT4 hd4 hr4 hB4
        clear h4 b4 z4 hk4 hb44
        go_wp2_with (refine wpList_store_new rfl 51 (.tmp 14) (.tmp 108) rfl w4 (ints [0, 0, 0, 0, 0, 0, 0, 0, 0, 0, 0]) (rwC y8) 51 rfl rfl rfl (sz_Row _) HO8.out ?_; rw [← Hw4.out]; clear Hw4)
        refine (R2.out _ _ HT4.out).mono ?_
        rintro e w5a ⟨he, h5, b5, z5⟩
        unfold RowAns at he
        subst he
        obtain ⟨w5, hw5⟩ : ∃ w5, w5 = w5a.alloc (.cells (rwC y8).toArray 51) := ⟨_, rfl⟩
        have hb55 : Below w5a.heap.size w5a w5 := by rw [hw5]; exact (Below.refl _ _).alloc (Nat.le_refl _) _
        have hr5 : w5.heap[w5a.heap.size]? = some (.cells (rwC y8).toArray 51 (0, 0)) := by rw [hw5]; exact heap_alloc_new _ _
        have hq5 := (Mod.ofBelow hb55).keep (z5 _ (by simp) _ Hr4.out) (by simp)
        have hk5 := (Mod.ofBelow hb55).keep (z5 _ (by simp) _ Hd4.out) (by simp)
        have HT5 := Lib.hid ((h5.mod (Mod.ofBelow hb55)).drop (Y := [wr.heap.size]) (by simp))
        have HB5 := Lib.hid ((HB4.out.trans b5).trans (hb55.mono (Nat.le_trans HB4.out.size b5.size)))
        have HK5 := Lib.hid hk5; have HR5 := Lib.hid (blk_recs hr5); have HQ5 := Lib.hid (blk_recs hq5)
        have hql := blk_lt hq5
        have hrl := blk_lt hr5
        have c0 := blk_cell hk5 0
        have c1 := blk_cell hk5 1
        have c2 := blk_cell hk5 2
        have c3 := blk_cell hk5 3
        have c4 := blk_cell hk5 4
        have c5 := blk_cell hk5 5
        have c6 := blk_cell hk5 6
        have c7 := blk_cell hk5 7
        have c8 := blk_cell hk5 8
        have c9 := blk_cell hk5 9
        have c10 := blk_cell hk5 10
        have c11 := blk_cell hk5 11
        have c12 := blk_cell hk5 12
        have c13 := blk_cell hk5 13
        have c14 := blk_cell hk5 14
        simp only [List.getElem?_toArray, List.getElem?_cons_zero, List.getElem?_cons_succ] at c0 c1 c2 c3 c4 c5 c6 c7 c8 c9 c10 c11 c12 c13 c14
        have cl := blk_lt hk5
        have Hw5 := Lib.hid hw5
        clear hw5
        clear h5 b5 z5 hb55 hr5 hq5 hk5
        go_wp2_with (first | (refine wpList_store_new rfl 51 (.tmp 16) (.tmp 115) rfl w5a (ints [0, 0, 0, 0, 0, 0, 0, 0, 0, 0, 0]) (rwC y8) 51 rfl rfl rfl (sz_Row _) HO8.out ?_; rw [← Hw5.out]; clear Hw5; have hcmp := HCmp.out) | (refine wpList_load_flat rfl 51 (.tmp 14) rfl _ rfl (rwC y8) _ Try.underlying51 rfl (sz_Row _) HQ5.out ?_) | (refine wpList_load_flat rfl 51 (.tmp 16) rfl _ rfl (rwC y8) _ Try.underlying51 rfl (sz_Row _) HR5.out ?_))
        clear HT3 HB3 HK3 HT4 HB4 Hd4 Hr4 HG HRL HRo HP HO hcmp HCmp R1 R2 HL8 HO8 HR5 HQ5 hql hrl
      case' inr.inr.inl =>
        go_wp2_with (first | (refine wpList_load_flat rfl 47 (.tmp 69) rfl _ rfl (ddC ((2, d1, d2, d3), (s, g), K, a0, a1, a2, a3, a4, a5, a6, a7)) _ Try.underlying47 rfl (sz_Dd _) HP.out ?_) | (refine wpList_store_new rfl 47 (.tmp 9) (.tmp 70) rfl wr (ints [0, 0, 0, 0, 0, 0, 0, 0, 0, 0, 0, 0, 0, 0, 0]) (ddC ((2, d1, d2, d3), (s, g), K, a0, a1, a2, a3, a4, a5, a6, a7)) 47 rfl rfl rfl (sz_Dd _) HO.out ?_; rw [show (ddC ((2, d1, d2, d3), (s, g), K, a0, a1, a2, a3, a4, a5, a6, a7)).toArray = #[.int .i64 2, .int .i64 d1, .int .i64 d2, .int .i64 d3, .int .i64 s, .int .i64 g, .int .i64 K, .int .i64 a0, .int .i64 a1, .int .i64 a2, .int .i64 a3, .int .i64 a4, .int .i64 a5, .int .i64 a6, .int .i64 a7] from rfl, ← HW3.out]; clear HW3))
        have HG5 := Lib.hid (good_setV HG.out d1 d2 d3); have HL5 := Lib.hid (Nat.le_succ_of_le (Nat.le_trans (Nat.le_of_eq (setV_len kn rows d1 d2 d3)) HRL.out))
        have hl8 : rows.length ≤ 1200000000000 := by have := HRo.out; omega
        have R1 := Lib.hid (fun v (h : Two w.heap.size [wr.heap.size] v p q kn m cs rows rows) => tset_any h d1 d2 d3 hl8)
        have R2 := Lib.hid (fun v (h : Two w.heap.size [wr.heap.size] v p q kn m cs (setV kn rows d1 d2 d3) rows) => rset_any h hkn d1 d2 d3 hl8)
        generalize setV kn rows d1 d2 d3 = rows5 at *
        generalize setE kn d1 rows.length d2 d3 = e8 at *
        clear hl8
        refine wp_planF 15 [0, 8] [some 127, some 128, some 129, some 130, some 131, some 132, some 133, some 134, some 135, some 136, some 137, some 138, some 139, some 140, some 141, some 142, some 143] [[], [], [1], [], [3], [], [5], [0, 1, 2, 3, 4, 5, 6], [], [], [9], [], [11], [], [13], [0, 1, 2, 3, 4, 5, 6, 7, 8, 9, 10, 11, 12, 13, 14], [0, 1, 2, 3, 4, 5, 6, 7, 8, 9, 10, 11, 12, 13, 14, 15]] [0, 1, 2, 3, 4, 5, 6, 7, 8, 9, 10, 11, 12, 13, 14] 15 (fun vs => [isV (vs.getD 0 undef), isV (vs.getD 1 undef), isV (vs.getD 2 undef), isV (vs.getD 3 undef), isV (vs.getD 4 undef), isV (vs.getD 5 undef), isV (vs.getD 6 undef), (isV (.int .i64 e8)), isV (vs.getD 8 undef), isV (vs.getD 9 undef), isV (vs.getD 10 undef), isV (vs.getD 11 undef), isV (vs.getD 12 undef), isV (vs.getD 13 undef), isV (vs.getD 14 undef)])
          (fun L _ V => Below w.heap.size w3 V ∧ KeepZ [wr.heap.size] w3 V ∧ (L 7 = false → Two w.heap.size [wr.heap.size] V p q kn m cs rows rows) ∧ (L 7 = true → Two w.heap.size [wr.heap.size] V p q kn m cs rows5 rows)) mixed rfl (by kernel_rfl) (by decide) (by decide)
          ⟨(Below.refl _ _).drew, fun _ _ _ ho => blk_drew ho, fun _ => HT3.out.mod (Mod.refl [] _).drew, fun h => absurd h (by decide)⟩ rfl ?_
        iterate 15 apply Exists.intro
        refine ⟨?_, ?_⟩
        · simp only [List.take_succ_cons, List.take_zero, AllFrom.cons_eq, AllFrom.nil_eq, OpGoalV]
          refine ⟨?_, ?_, ?_, ?_, ?_, ?_, ?_, ?_, ?_, ?_, ?_, ?_, ?_, ?_, ?_, trivial⟩
          all_goals (intro L' σ V h1 h2 h3 hI hp; clear h2 h3; (try simp only [List.getD_cons_zero, List.getD_cons_succ, preF_cons, preF_nil, isV, and_true] at hp); (first | (have hq : True := hp; clear hq hp) | skip))
          all_goals (
            have hzk := hI.2.1 _ (by simp) _ HK3.out
            have c0 := blk_cell hzk 0
            have c1 := blk_cell hzk 1
            have c2 := blk_cell hzk 2
            have c3 := blk_cell hzk 3
            simp only [List.getElem?_toArray, List.getElem?_cons_zero, List.getElem?_cons_succ] at c0 c1 c2 c3
            have HI := Lib.hid hI
            have Hh1 := Lib.hid h1
            clear hzk hI h1)
          all_goals (try (go_simp; exact ⟨rfl, ⟨HI.out.1, HI.out.2.1, fun h => HI.out.2.2.1 (upd_false h), fun h => HI.out.2.2.2 (upd_true h (by omega))⟩, KeepAll.refl⟩))
          · go_simp
            refine (R1.out V (HI.out.2.2.1 Hh1.out)).mono ?_
            rintro e w4 ⟨rfl, h4, b4, z4⟩
            exact ⟨_, rfl, ⟨rfl, ⟨HI.out.1.trans b4, fun z hz o ho => z4 z hz o (HI.out.2.1 z hz o ho), fun h => absurd h (by simp [upd]), fun _ => h4⟩, by repeat (first | exact keep_nil | refine keep_isV ?_)⟩⟩
        intro L' σ V h1 hI hp
        have hL := h1 7 (by decide)
        clear h1
        simp only [List.getD_cons_zero, List.getD_cons_succ, preF_cons, preF_nil, isV, and_true] at hp
        obtain ⟨s0, s1, s2, s3, s4, s5, s6, s7, s8, s9, s10, s11, s12, s13, s14⟩ := hp
        have hT4 := hI.2.2.2 hL
        have hB4 := HB3.out.trans hI.1
        have hk4 := hI.2.1 _ (by simp) _ HK3.out
        have HT4 := Lib.hid hT4; have HB4 := Lib.hid hB4; have Hk4 := Lib.hid hk4
        clear hT4 hB4 hk4
        clear hI hL
        simp only [List.drop_succ_cons, List.drop_zero]
        go_simp
        clear s0 s1 s2 s3 s4 s5 s6 s7 s8 s9 s10 s11 s12 s13 s14
        go_wp2_with fail
        refine (R2.out V HT4.out).mono ?_
        rintro e w5 ⟨rfl, h5, b5, z5⟩
        have hk5 := z5 _ (by simp) _ Hk4.out
        have HT5 := Lib.hid h5; have HB5 := Lib.hid (HB4.out.trans b5); have HK5 := Lib.hid hk5
        have c0 := blk_cell hk5 0
        have c1 := blk_cell hk5 1
        have c2 := blk_cell hk5 2
        have c3 := blk_cell hk5 3
        have c4 := blk_cell hk5 4
        have c5 := blk_cell hk5 5
        have c6 := blk_cell hk5 6
        have c7 := blk_cell hk5 7
        have c8 := blk_cell hk5 8
        have c9 := blk_cell hk5 9
        have c10 := blk_cell hk5 10
        have c11 := blk_cell hk5 11
        have c12 := blk_cell hk5 12
        have c13 := blk_cell hk5 13
        have c14 := blk_cell hk5 14
        simp only [List.getElem?_toArray, List.getElem?_cons_zero, List.getElem?_cons_succ] at c0 c1 c2 c3 c4 c5 c6 c7 c8 c9 c10 c11 c12 c13 c14
        have cl := blk_lt hk5
        clear h5 b5 z5 hk5
        go_wp2_with fail
        refine ⟨rfl, ?_⟩
        go_wp2_with fail
        clear HT3 HB3 HK3 HT4 HB4 Hk4 HG HRL HRo HP HO R1 R2
      case' inr.inr.inr =>
        have HT5 := HT3; have HB5 := HB3; have HK5 := HK3; have HG5 := HG; have HL5 := Lib.hid (Nat.le_succ_of_le HRL.out)
        go_wp2_with (first | (refine wpList_load_flat rfl 47 (.tmp 69) rfl _ rfl (ddC ((d0, d1, d2, d3), (s, g), K, a0, a1, a2, a3, a4, a5, a6, a7)) _ Try.underlying47 rfl (sz_Dd _) HP.out ?_) | (refine wpList_store_new rfl 47 (.tmp 9) (.tmp 70) rfl wr (ints [0, 0, 0, 0, 0, 0, 0, 0, 0, 0, 0, 0, 0, 0, 0]) (ddC ((d0, d1, d2, d3), (s, g), K, a0, a1, a2, a3, a4, a5, a6, a7)) 47 rfl rfl rfl (sz_Dd _) HO.out ?_; rw [show (ddC ((d0, d1, d2, d3), (s, g), K, a0, a1, a2, a3, a4, a5, a6, a7)).toArray = #[.int .i64 d0, .int .i64 d1, .int .i64 d2, .int .i64 d3, .int .i64 s, .int .i64 g, .int .i64 K, .int .i64 a0, .int .i64 a1, .int .i64 a2, .int .i64 a3, .int .i64 a4, .int .i64 a5, .int .i64 a6, .int .i64 a7] from rfl, ← HW3.out]; clear HW3))
        clear HT3 HB3 HK3 HG HRL HRo HP HO e0 e1 e2
        generalize w3 = w5 at *
        generalize rows = rows5 at *
      all_goals (first | exact undef | skip)
      all_goals
        have hl5 : rows5.length ≤ 1200000000000 := by have := HL.out; have := HL5.out; omega
        have hlb : l.length ≤ 9223372036854775807 := by have := HL.out; omega
        have C1 := trow_any HT5.out HG5.out d1 hl5
        have C2 := fun v (hb : Below w5.heap.size w5 v) => rrow_any (HT5.out.mod (Mod.ofBelow hb)) d1 hl5
        have C3 := fun v (hb : Below w5.heap.size w5 v) => tcol_any (HT5.out.mod (Mod.ofBelow hb)) d2 hl5
        have C4 := fun v (hb : Below w5.heap.size w5 v) => rcol_any (HT5.out.mod (Mod.ofBelow hb)) hkn d2 hl5
        have hL9 : (if kindE kn d2 = 0 then colsR rows5 d2.toNat else []).length ≤ 9223372036854775807 := by
          split
          · rw [colsR_len]; omega
          · simp
        generalize (if kindE kn d2 = 0 then colsR rows5 d2.toNat else []) = L9 at C3 C4 hL9
        generalize kindE kn d2 = k9 at C3 C4
        generalize rowG rows5 d1 = y9 at C1 C2
        generalize rowZ rows5 d1 = e9 at C1 C2
        have C1 := Lib.hid C1; have C2 := Lib.hid C2; have C3 := Lib.hid C3; have C4 := Lib.hid C4
        have HO9 := Lib.hid (rwC_one y9); have HL9 := Lib.hid hL9
        clear hl5 hL9
        refine C1.out.mono ?_
        rintro e w6 ⟨he, hb6⟩
        unfold RowAns at he
        subst he
        obtain ⟨w7, hw7⟩ : ∃ w7, w7 = w6.alloc (.cells (rwC y9).toArray 51) := ⟨_, rfl⟩
        have hb67 : Below w6.heap.size w6 w7 := by rw [hw7]; exact (Below.refl _ _).alloc (Nat.le_refl _) _
        have hk7 : w7.heap[w6.heap.size]? = some (.cells (rwC y9).toArray 51 (0, 0)) := by rw [hw7]; exact heap_alloc_new _ _
        have hb7 : Below w5.heap.size w5 w7 := hb6.trans (hb67.mono hb6.size)
        have hd7 := (Mod.ofBelow hb7).keep HK5.out (by simp)
        have HW7 := Lib.hid hw7; have HB7 := Lib.hid hb7; have HK7 := Lib.hid hk7
        have c0 := blk_cell hd7 0
        have c1 := blk_cell hd7 1
        have c2 := blk_cell hd7 2
        have c3 := blk_cell hd7 3
        have c4 := blk_cell hd7 4
        have c5 := blk_cell hd7 5
        have c6 := blk_cell hd7 6
        have c7 := blk_cell hd7 7
        have c8 := blk_cell hd7 8
        have c9 := blk_cell hd7 9
        have c10 := blk_cell hd7 10
        have c11 := blk_cell hd7 11
        have c12 := blk_cell hd7 12
        have c13 := blk_cell hd7 13
        have c14 := blk_cell hd7 14
        simp only [List.getElem?_toArray, List.getElem?_cons_zero, List.getElem?_cons_succ] at c0 c1 c2 c3 c4 c5 c6 c7 c8 c9 c10 c11 c12 c13 c14
        have cl := blk_lt hd7
        clear hw7 hb67 hk7 hb7 hd7 hb6
        go_wp2_with (refine wpList_store_new rfl 51 (.tmp 18) (.tmp 149) rfl w6 (ints [0, 0, 0, 0, 0, 0, 0, 0, 0, 0, 0]) (rwC y9) 51 rfl rfl rfl (sz_Row _) HO9.out ?_; rw [← HW7.out]; clear HW7)
        refine (C2.out w7 HB7.out).mono ?_
        rintro e w8 ⟨he, hb8⟩
        unfold RowAns at he
        subst he
        obtain ⟨w9, hw9⟩ : ∃ w9, w9 = w8.alloc (.cells (rwC y9).toArray 51) := ⟨_, rfl⟩
        have hb89 : Below w8.heap.size w8 w9 := by rw [hw9]; exact (Below.refl _ _).alloc (Nat.le_refl _) _
        have hr9 : w9.heap[w8.heap.size]? = some (.cells (rwC y9).toArray 51 (0, 0)) := by rw [hw9]; exact heap_alloc_new _ _
        have hb79 : Below w7.heap.size w7 w9 := hb8.trans (hb89.mono hb8.size)
        have hb9 : Below w5.heap.size w5 w9 := HB7.out.trans (hb79.mono HB7.out.size)
        have hq9 := (Mod.ofBelow hb79).keep HK7.out (by simp)
        have hd9 := (Mod.ofBelow hb9).keep HK5.out (by simp)
        have c0 := blk_cell hd9 0
        have c1 := blk_cell hd9 1
        have c2 := blk_cell hd9 2
        have c3 := blk_cell hd9 3
        have c4 := blk_cell hd9 4
        have c5 := blk_cell hd9 5
        have c6 := blk_cell hd9 6
        have c7 := blk_cell hd9 7
        have c8 := blk_cell hd9 8
        have c9 := blk_cell hd9 9
        have c10 := blk_cell hd9 10
        have c11 := blk_cell hd9 11
        have c12 := blk_cell hd9 12
        have c13 := blk_cell hd9 13
        have c14 := blk_cell hd9 14
        simp only [List.getElem?_toArray, List.getElem?_cons_zero, List.getElem?_cons_succ] at c0 c1 c2 c3 c4 c5 c6 c7 c8 c9 c10 c11 c12 c13 c14
        have cl := blk_lt hd9
        have Hw9 := Lib.hid hw9; have Hb9 := Lib.hid hb9; have Hq9 := Lib.hid hq9; have Hr9 := Lib.hid hr9
        clear hw9 hb9 hq9 hr9
        clear hb89 hb79 hd9 hb8
        go_wp2_with (refine wpList_store_new rfl 51 (.tmp 20) (.tmp 156) rfl w8 (ints [0, 0, 0, 0, 0, 0, 0, 0, 0, 0, 0]) (rwC y9) 51 rfl rfl rfl (sz_Row _) HO9.out ?_; rw [← Hw9.out]; clear Hw9)
        refine (C3.out w9 Hb9.out).mono ?_
        rintro e w10 ⟨⟨v10, rfl, hown10, -⟩, hb10⟩
        have hbb10 : Below w5.heap.size w5 w10 := Hb9.out.trans (hb10.mono Hb9.out.size)
        have hd10 := (Mod.ofBelow hbb10).keep HK5.out (by simp)
        have hq10 := (Mod.ofBelow hb10).keep Hq9.out (by simp)
        have hr10 := (Mod.ofBelow hb10).keep Hr9.out (by simp)
        have c0 := blk_cell hd10 0
        have c1 := blk_cell hd10 1
        have c2 := blk_cell hd10 2
        have c3 := blk_cell hd10 3
        have c4 := blk_cell hd10 4
        have c5 := blk_cell hd10 5
        have c6 := blk_cell hd10 6
        have c7 := blk_cell hd10 7
        have c8 := blk_cell hd10 8
        have c9 := blk_cell hd10 9
        have c10 := blk_cell hd10 10
        have c11 := blk_cell hd10 11
        have c12 := blk_cell hd10 12
        have c13 := blk_cell hd10 13
        have c14 := blk_cell hd10 14
        simp only [List.getElem?_toArray, List.getElem?_cons_zero, List.getElem?_cons_succ] at c0 c1 c2 c3 c4 c5 c6 c7 c8 c9 c10 c11 c12 c13 c14
        have cl := blk_lt hd10
        have Hbb10 := Lib.hid hbb10; have Hq10 := Lib.hid hq10; have Hr10 := Lib.hid hr10; have Hown10 := Lib.hid hown10
        clear hbb10 hq10 hr10 hown10
        clear hd10 hb10
        go_wp2_with fail
        refine (C4.out w10 Hbb10.out).mono ?_
        rintro e w11 ⟨⟨v11, rfl, hown11, -⟩, hb11⟩
        have hbb11 : Below w5.heap.size w5 w11 := Hbb10.out.trans (hb11.mono Hbb10.out.size)
        have hq11 := (Mod.ofBelow hb11).keep Hq10.out (by simp)
        have hr11 := (Mod.ofBelow hb11).keep Hr10.out (by simp)
        have hown10 := row_mod Hown10.out (Mod.ofBelow hb11) (by simp)
        have hql := blk_lt hq11
        have hrl := blk_lt hr11
        obtain ⟨A10, c10', rfl, -, hA10⟩ := own_lies hown10
        obtain ⟨A11, c11', rfl, -, hA11⟩ := own_lies hown11
        have h12 := eqInt_any A10 c10' A11 c11' L9 L9 _ _ w11 HL9.out HL9.out hA10 hA11
        rw [eqB_self] at h12
        have HQ := Lib.hid (blk_recs hq11); have HR := Lib.hid (blk_recs hr11)
        have hcmp : ∀ w, (binOp .neq 51 (.agg (rwC y9).toArray) (.agg (rwC y9).toArray)).run Try.prog w = .ok (.bool false) w := fun w => by rw [neqRow, eqB_self]; rfl
        have H12 := Lib.hid h12; have Hbb11 := Lib.hid hbb11
        clear h12 hbb11
        clear hq11 hr11 hown10 hown11 hA10 hA11 hb11
        go_wp2_with (first | (refine wpList_load_flat rfl 51 (.tmp 18) rfl _ rfl (rwC y9) _ Try.underlying51 rfl (sz_Row _) HQ.out ?_) | (refine wpList_load_flat rfl 51 (.tmp 20) rfl _ rfl (rwC y9) _ Try.underlying51 rfl (sz_Row _) HR.out ?_) | (go_at_call 29; refine H12.out.mono ?_; rintro e w12 ⟨rfl, rfl⟩))
        go_roundw
        case rel => exact ⟨k + 1, rows5, by omega, by go_num, HL5.out, HG5.out, (HT5.out.mod (Mod.ofBelow Hbb11.out)).drop (by simp), HB5.out.trans (Hbb11.out.mono HB5.out.size)⟩
        case measure => simp [intOf]; omega
      all_goals exact undef
    · obtain rfl : k = l.length := by omega
      have hrows : rows.length ≤ 1200000000000 := by have := HL.out; omega
      obtain ⟨vh, Fs, vl, -, hr, -⟩ := hT.ex
      obtain ⟨Al, cl, rfl, hcl1, -⟩ := row_slice hr.row
      have cq := hr.cell
      have hql := FieldAt.lt hr
      have HRow := Lib.hid hr.row
      have HT := Lib.hid hT; have HB := Lib.hid hB; have Hg := Lib.hid hg; have HRows := Lib.hid hrows; have Hsz := Lib.hid hsz
      clear hT hB hg hrows hsz
      clear hr
      have hlr : rows.length ≤ 9223372036854775807 := by have := HRows.out; omega
      go_wp2
      go_loopw [26, 197] (fun v i w2 => ∃ j : Nat, j ≤ rows.length ∧ i = .int .i64 j ∧ w2.ownsRow wr.heap.size 45 2 v ((rows.take j).map (·.1)).length (((rows.take j).map (·.1)).flatMap handleC) ∧ Below wr.heap.size wr w2) (fun _ i _ => rows.length - (intOf i).toNat)
      case atStart => exact ⟨0, by omega, rfl, ⟨rfl, .inl ⟨rfl, rfl⟩⟩, Below.refl _ _⟩
      case round =>
        obtain ⟨j, hj, rfl, hown, hbel⟩ := hrel
        rename World => v2
        have hsz2 := hbel.size
        by_cases hlt2 : j < rows.length
        · have hrec := row_recS HRow.out hlt2
          obtain ⟨g0, hA0, hgl, hcell⟩ := hrec
          subst hA0
          have hs : (rows.take (j + 1)).map (·.1) = (rows.take j).map (·.1) ++ [rows[j].1] := by rw [take_succ_get rows j hlt2, List.map_append]; rfl
          have hP : ∀ i u, (rwC rows[j])[i]? = some u → v2.cell? ((⟨g0, j * 11, none⟩ : Addr).add i) = some u := fun i u hu => by
            have := hcell i u hu
            rw [Addr.add_mid]
            exact (hbel.cell (p := ⟨g0, j * 11 + i, none⟩) hgl).trans this
          have hlen : ((rows.take j).map (·.1)).length ≤ 1200000000000 := by rw [List.length_map, List.length_take]; have := HRows.out; omega
          generalize (rows.take j).map (·.1) = L at *
          generalize rows[j] = x at *
          obtain ⟨⟨s, g⟩, b⟩ := x
          obtain ⟨w3, hw3⟩ : ∃ w3, w3 = v2.alloc (.cells (rwC ((s, g), b)).toArray 51) := ⟨_, rfl⟩
          have hk3 : w3.heap[v2.heap.size]? = some (.cells (rwC ((s, g), b)).toArray 51 (0, 0)) := by rw [hw3]; exact heap_alloc_new _ _
          have hb3 : Below v2.heap.size v2 w3 := by rw [hw3]; exact (Below.refl _ _).alloc (Nat.le_refl _) _
          have c0 : w3.cell? ⟨v2.heap.size, 0, none⟩ = some (.int .i64 s) := blk_cell hk3 0
          have c1 : w3.cell? ⟨v2.heap.size, 1, none⟩ = some (.int .i64 g) := blk_cell hk3 1
          have cl := blk_lt hk3
          have hown3 := row_mod hown (Mod.ofBelow hb3) (by simp)
          have hbw3 := hbel.trans (hb3.mono hsz2)
          have HO := Lib.hid (rwC_one ((s, g), b))
          have hji : (j : Int) < (rows.length : Int) := by omega
          have Hs := Lib.hid hs; have HP := Lib.hid hP; have Hlen := Lib.hid hlen; have Hw3 := Lib.hid hw3; have Hown3 := Lib.hid hown3; have Hbw3 := Lib.hid hbw3
          clear hs hP hlen hw3 hown3 hbw3
          clear hown hk3 hb3 hcell hbel
          go_wp2_with (first | (refine wpList_load_flat rfl 51 (.tmp 199) rfl _ rfl (rwC ((s, g), b)) _ Try.underlying51 rfl (sz_Row _) HP.out ?_) | (refine wpList_store_new rfl 51 (.tmp 28) (.tmp 200) rfl v2 (ints [0, 0, 0, 0, 0, 0, 0, 0, 0, 0, 0]) (rwC ((s, g), b)) 51 rfl rfl rfl (sz_Row _) HO.out ?_; rw [← Hw3.out]; clear Hw3) | (at_builtin; refine app_handle rfl _ _ rfl wr.heap.size _ L (s, g) ⟨w3.heap.size, 0, none⟩ 1 rfl (Hown3.out.alloc _) rfl (new_rec rfl rfl) (by have := Hlen.out; omega) (by have := Hbw3.out.size; simp; omega) ?_; intro v' w4 hown4 hb4))
          go_roundw
          case rel => exact ⟨j + 1, by omega, by go_num, by rw [Hs.out]; exact hown4, (Hbw3.out.alloc Hbw3.out.size _).trans hb4⟩
          case measure => simp [intOf]; omega
          all_goals exact undef
        · obtain rfl : j = rows.length := by omega
          rw [List.take_length] at hown
          have hlm : (rows.map (·.1)).length ≤ 9223372036854775807 := by rw [List.length_map]; exact hlr
          have H31 := Lib.hid (thandles_any (HT.out.mod (Mod.ofBelow hbel)) HRows.out)
          have HBl := Lib.hid (HB.out.trans (hbel.mono Hsz.out))
          have Hown := Lib.hid hown; have Hlm := Lib.hid hlm
          clear hown hlm
          clear hbel
          go_wp2_with fail
          refine H31.out.mono ?_
          rintro e w5 ⟨⟨v5, rfl, hown5, -⟩, hb5⟩
          have hown6 := row_mod Hown.out (Mod.ofBelow hb5) (by simp)
          obtain ⟨A5, c5, rfl, -, hA5⟩ := own_lies hown5
          obtain ⟨A6, c6, rfl, -, hA6⟩ := own_lies hown6
          have h7 := eqHandle_any A5 c5 A6 c6 (rows.map (·.1)) (rows.map (·.1)) w5 Hlm.out Hlm.out hA5 hA6
          rw [eqB_self, List.length_map] at h7
          have HB5 := Lib.hid (HBl.out.trans (hb5.mono HBl.out.size))
          have H7 := Lib.hid h7
          clear h7
          clear hown5 hown6 hA5 hA6 hb5
          go_wp2_with fail
          refine H7.out.mono ?_
          rintro e w8 ⟨rfl, hb8⟩
          have HB8 := Lib.hid (HB5.out.trans (hb8.mono HB5.out.size))
          clear hb8
          go_wp2
          go_ret
          exact ⟨rfl, HB8.out⟩

theorem intCells_Deed : IntCells Try.prog 47 := IntCells.struct Try.underlying47 (by kernel_rfl) (by
  intro f hf
  simp only [List.mem_toArray, List.mem_cons, List.not_mem_nil, or_false] at hf
  rcases hf with rfl | rfl | rfl | rfl | rfl | rfl
  · exact intCells_int
  · exact intCells_int
  · exact intCells_int
  · exact intCells_int
  · exact intCells_Handle
  · exact intCells_Beast)
theorem ddI_mk (zs : List Int) (h : zs.length = 15) : ∃ x, ddI x = zs := by
  match zs, h with
  | [d0, d1, d2, d3, s, g, K, a0, a1, a2, a3, a4, a5, a6, a7], _ => exact ⟨((d0, d1, d2, d3), (s, g), K, a0, a1, a2, a3, a4, a5, a6, a7), rfl⟩

set_option maxRecDepth 100000 in
theorem tableDoes_law {H : Type} {enc : TypeId × Value → H} (W : World) (base : Nat) (args : Array Value) (ds : List (DataW H)) (ps : List MemPlace)
    (hval : ∀ (j : Nat) t v, Try.f4.params[j]? = some t → args[j]? = some v → Value.okWide Try.prog W .any base t v)
    (hA : DataW.TrodAll enc Try.prog W 0 (fun _ => true) true Try.f4.params.toList args.toList ds ps) (hlt : ∀ p ∈ ps, p.block < W.heap.size)
    (hsz : ∀ (j : Nat) t d, Try.f4.params.toList[j]? = some t → ds[j]? = some d → ∀ m ∈ d.weights Try.prog t, m ≤ reachBytes) :
    Calls Try.prog 4 args W fun e W' => e = .returned (.bool true) ∧ Below W.heap.size W W' := by
  rw [Try.params4] at hA hval hsz
  obtain ⟨v0, v1, d0, d1, p0, p1, rfl, rfl, rfl, h0, h1⟩ := trodAll_two hA
  obtain ⟨m, rfl, -, -, -⟩ := open_int Try.underlying3 (hval 0 3 v0 rfl rfl) h0
  by_cases hm : m < 0 ∨ 255 < m
  · exact tableDoes_bad m hm v1 W
  obtain ⟨kn, rfl⟩ := Int.eq_ofNat_of_zero_le (show 0 ≤ m by omega)
  obtain ⟨A, n, c, zs, rfl, hnc, hc, hlen, -, hL⟩ := open_slice_flat Try.underlying36 intCells_Deed (k := 15) (by kernel_rfl) (by omega) (hval 1 36 _ rfl rfl) h1 (fun p hp => hlt p (by simp [hp]))
  obtain ⟨l, hl, rfl⟩ := unflat ddI 15 ddI_mk n zs hlen
  have hs := slice_size Try.underlying36 h1 (hsz 1 36 d1 rfl rfl)
  rw [show Try.prog.bytesOf 47 = 120 by kernel_rfl, reach_val] at hs
  rw [show ints (l.flatMap ddI) = l.flatMap ddC by unfold ints ddC; rw [List.map_flatMap]; rfl] at hL
  subst hl
  exact tableDoes_ok kn (by omega) A c l W hs hL

set_option maxRecDepth 100000 in
theorem tableDoes_lifted (os : Os) (started : os.Started) (H : Type) (enc : TypeId × Value → H) :
    ReturnsInHanded {} Try.checked os 4 .any (Rows.tableDoesSpec.pre6 enc Try.prog Try.f4 Rows.tableDoesRow.domain false) (Rows.tableDoesSpec.post enc Try.prog Try.f4 false true false false) := by
  refine law_lifted_sized (C := Try.checked) (tb := 4) started own_ laid_ (by kernel_rfl) Try.func4 ?_ rfl rfl (by kernel_rfl) (fun ds h => ?_)
    (ChangeSpec.witness6 (enc := enc) (C := Try.checked) false ⟨#[], #[.int .i64 0, .slice none 0 0], []⟩ 8 (by kernel_rfl) (by kernel_rfl) (by kernel_rfl) (by kernel_rfl)) ?_
  · intro t ht
    have : t = 3 ∨ t = 36 := by simpa [Try.params4] using ht
    rcases this with rfl | rfl
    all_goals exact ⟨by kernel_rfl, of_decide_eq_true (by kernel_rfl)⟩
  · match ds, h with
    | [d0, d1], _ => rfl
  · intro W base args ds ps hval hA hlt hsz
    exact tableDoes_law W base args ds ps hval hA hlt hsz

set_option maxHeartbeats 4000000 in
theorem tableDoes_closed : joinedFacts Try.prog 4 Try.f4 Rows.tableDoesSpec Rows.tableDoesRow = true := by
  unfold joinedFacts
  repeat' (with_reducible refine and_intro ?_ ?_)
  · as_aux_lemma => kernel_rfl
  · exact laid_
  · exact mapsRowed_
  · as_aux_lemma => kernel_rfl
  · as_aux_lemma => kernel_rfl
  · as_aux_lemma => kernel_rfl
  · exact stops_
  · as_aux_lemma => kernel_rfl
  · exact stopKnobs_
  · as_aux_lemma => kernel_rfl
  · as_aux_lemma => kernel_rfl
  · as_aux_lemma => kernel_rfl
  · as_aux_lemma => kernel_rfl
  · as_aux_lemma => kernel_rfl
  · as_aux_lemma => kernel_rfl
  · as_aux_lemma => kernel_rfl
  · as_aux_lemma => kernel_rfl
  · as_aux_lemma => kernel_rfl
  · as_aux_lemma => kernel_rfl
  · as_aux_lemma => kernel_rfl
  · as_aux_lemma => kernel_rfl
  · as_aux_lemma => kernel_rfl
  · exact plainKeys_
  · as_aux_lemma => kernel_rfl
  · exact stopsHeard_
  · exact mayEnter_
  · exact liftsFinal_
  · exact make_
  · as_aux_lemma => kernel_rfl
  · as_aux_lemma => kernel_rfl
  · as_aux_lemma => kernel_rfl
  · as_aux_lemma => kernel_rfl

theorem tableDoes_holds : Rows.TableDoesSaid :=
  OpenClaim.holds_of_wide 4 Try.f4 rfl rfl rfl rfl rfl rfl rfl ⟨rfl, rfl, rfl, rfl, rfl⟩ rfl rfl rfl rfl rfl (by as_aux_lemma => kernel_rfl) Try.func4 tableDoes_closed
    (of_decide_eq_true (by as_aux_lemma => kernel_rfl)) (by unfold Func.isWrapper; first | (rw [if_pos (by decide +kernel)]; kernel_rfl) | (rw [if_neg (by decide +kernel)]; exact ⟨rfl, rfl⟩))
    (fun os started H enc _ => tableDoes_lifted os started H enc)
#print axioms tableDoes_holds
end Go.Proofs.Ytkcpmoinpdojjaa
