import Derived.Test.YtkcpmoinpdojjaaFamilyTellsJ10
import Derived.Test.YtkcpmoinpdojjaaFamilyTellsJ9
/- The reference's table: Add. -/
namespace Go.Proofs.Ytkcpmoinpdojjaa
open Go Go.RowKit

attribute [local go_sem] AllFrom.cons_eq AllFrom.nil_eq putF_nil putF_cons wantedL_none wantedL_some OpGoalT OpGoalV OpGoalQ YieldsR preF_nil preF_cons

theorem field_new {α : Type} {enc : α → List Value} {E n : Nat} {w w2 : World} {p o : Nat} {cs : Array Value} {T : TypeId} {v v' : Value} {l l' : List α} (h : FieldAt enc E n w p o cs T v l) (hm : Mod [] w w2) (hown : w2.ownsRow w.heap.size E n v' l'.length (l'.flatMap enc)) :
    FieldPost enc E n w p o cs T v l' (w2.setCell ⟨p, o, none⟩ v') ∧ w2.heap[p]? = some (.cells cs T (0, 0)) := by
  have hp2 : w2.heap[p]? = some (.cells cs T (0, 0)) := hm.keep h.blk (by simp)
  have hpl := h.lt
  have hol : o < cs.size := (Array.getElem?_eq_some_iff.1 h.here).1
  have hvp : ∀ k, v'.ownBlock = some k → w.heap.size ≤ k := fun k hk => (hown.lt k hk).1
  refine ⟨⟨⟨v', ⟨blk_set hp2 o v', by simp [hol], row_base (row_mod hown ((Mod.refl [p] _).setCell (.inl (by simp)) _) (fun k hk => by have := hvp k hk; simp; omega)) (by simp), fun k hk => by have := hvp k hk; omega⟩, fun k hk => .inr (hvp k hk)⟩, ?_⟩, hp2⟩
  exact (hm.mono (G := p :: v.ownBlock.toList) (by simp)).setCell (.inl (by simp)) _

def rtCs (kn : Nat) (vl : Value) : Array Value := #[.int .i64 (kn : Int), vl]
/-- The reference's table at block q. -/
def RTabAt (w : World) (q kn : Nat) (rows : List Rw) (vl : Value) : Prop := FieldAt rwC 51 11 w q 1 (rtCs kn vl) 43 vl rows

section
variable {w : World} {q kn : Nat} {rows : List Rw} {vl : Value}
set_option maxRecDepth 20000 in
set_option maxHeartbeats 1000000 in
theorem radd_beast (s g K a0 a1 a2 a3 a4 a5 a6 a7 : Int) (hb : beastE K [a0, a1, a2, a3, a4, a5, a6, a7] ≠ 0) :
    Calls Try.prog 20 #[.pointer (some ⟨q, 0, none⟩), .agg #[.int .i64 s, .int .i64 g], .agg #[.int .i64 K, .int .i64 a0, .int .i64 a1, .int .i64 a2, .int .i64 a3, .int .i64 a4, .int .i64 a5, .int .i64 a6, .int .i64 a7]] w (AddBad (beastE K [a0, a1, a2, a3, a4, a5, a6, a7]) w) := by
  have h1 := fun w => beastCheck_any K a0 a1 a2 a3 a4 a5 a6 a7 w
  generalize beastE K [a0, a1, a2, a3, a4, a5, a6, a7] = z at *
  have hq : (z != 0) = true := by simpa using hb
  have H1 := Lib.hid h1
  clear h1 hb
  go_enter Try.func20, Try.ntmps20
  go_wp2_with fail
  refine (H1.out _).mono ?_
  rintro e w1 ⟨rfl, hb1⟩
  have k2 := (Mod.ofBelow hb1).keep (blk_alloc (heap_alloc_new w _) _) (by simp)
  have k3 := (Mod.ofBelow hb1).keep (heap_alloc_new (w.alloc _) _) (by simp)
  have hz1 := hb1.size
  have hB := (((Below.refl w.heap.size w).alloc (Nat.le_refl _) _).alloc (by simp) _).trans (hb1.mono (by simp; omega))
  simp only [World.size_alloc] at k3 hz1
  have HB := Lib.hid hB
  clear k2 k3 hb1 H1 hB
  go_wp2
  go_ret2
  exact ⟨rfl, HB.out⟩

set_option maxRecDepth 20000 in
set_option maxHeartbeats 1000000 in
theorem radd_kind (h : RTabAt w q kn rows vl) (s g K a0 a1 a2 a3 a4 a5 a6 a7 : Int) (hb : beastE K [a0, a1, a2, a3, a4, a5, a6, a7] = 0) (hk : K ≠ kn) :
    Calls Try.prog 20 #[.pointer (some ⟨q, 0, none⟩), .agg #[.int .i64 s, .int .i64 g], .agg #[.int .i64 K, .int .i64 a0, .int .i64 a1, .int .i64 a2, .int .i64 a3, .int .i64 a4, .int .i64 a5, .int .i64 a6, .int .i64 a7]] w (AddBad 4 w) := by
  have h1 := fun w => beastCheck_any K a0 a1 a2 a3 a4 a5 a6 a7 w
  rw [hb] at h1
  have H1 := Lib.hid h1
  have hne : (K != (kn : Int)) = true := by simpa using hk
  have H := Lib.hid h
  clear h1 hb hk h
  go_enter Try.func20, Try.ntmps20
  go_wp2_with fail
  refine (H1.out _).mono ?_
  rintro e w1 ⟨rfl, hb1⟩
  have k2 := (Mod.ofBelow hb1).keep (blk_alloc (heap_alloc_new w _) _) (by simp)
  have k3 := (Mod.ofBelow hb1).keep (heap_alloc_new (w.alloc _) _) (by simp)
  have hz1 := hb1.size
  have hB := (((Below.refl w.heap.size w).alloc (Nat.le_refl _) _).alloc (by simp) _).trans (hb1.mono (by simp; omega))
  simp only [World.size_alloc] at k3 hz1
  have ht : RTabAt w1 q kn rows vl := FieldAt.mod H.out (Mod.mono (Mod.ofBelow (hB.mono (Nat.le_refl _))) (G := []) (by simp)) (by simp) (by simp)
  have d0 : w1.cell? ⟨q, 0, none⟩ = some (.int .i64 (kn : Int)) := by rw [blk_cell ht.blk]; rfl
  have HB := Lib.hid hB
  have c0 := blk_cell k3 0
  have c1 := blk_cell k3 1
  have c2 := blk_cell k3 2
  have c3 := blk_cell k3 3
  have c4 := blk_cell k3 4
  have c5 := blk_cell k3 5
  have c6 := blk_cell k3 6
  have c7 := blk_cell k3 7
  have c8 := blk_cell k3 8
  simp only [List.getElem?_toArray, List.getElem?_cons_zero, List.getElem?_cons_succ] at c0 c1 c2 c3 c4 c5 c6 c7 c8
  have lc := blk_lt k3
  clear k2 k3 hb1 H1 hB ht
  go_wp2
  refine wp_planR 7 [2] [some 14, some 15, some 16, some 17, some 18, some 19, some 20] [[], [0], [], [2], [2, 3], [2, 3, 4], [0, 1, 2, 3, 4, 5]] [0, 1, 2, 3, 4, 5, 6] mixed rfl (by kernel_rfl) (by decide) (by decide) rfl ?_
  iterate 7 apply Exists.intro
  refine ⟨rfl, ?_, ?_⟩
  · simp only [List.take_succ_cons, List.take_zero, AllFrom.cons_eq, AllFrom.nil_eq, OpGoalQ]
    refine ⟨?_, ?_, ?_, ?_, ?_, ?_, ?_, trivial⟩
    all_goals (intro σ hp; (try simp only [List.getD_cons_zero, List.getD_cons_succ, List.map_cons, List.map_nil, preF_cons, preF_nil, isV, and_true] at hp); (first | (have hq : True := hp; clear hq hp) | skip))
    all_goals (go_simp; exact ⟨rfl, rfl⟩)
  intro σ hp
  simp only [List.getD_cons_zero, List.getD_cons_succ, List.map_cons, List.map_nil, preF_cons, preF_nil, isV, and_true] at hp
  simp only [List.drop_succ_cons, List.drop_zero]
  go_simp
  clear hp
  refine ⟨rfl, ?_⟩
  go_wp2
  go_ret2
  exact ⟨rfl, HB.out.drew⟩

/-- The reference's table has new rows. -/
def RPost (w : World) (q kn : Nat) (vl : Value) (rows' : List Rw) (r : Value) (e : Ending) (w' : World) : Prop :=
  e = .returned r ∧ FieldPost rwC 51 11 w q 1 (rtCs kn vl) 43 vl rows' w'

theorem copyRows_any (w : World) (v : Value) (l : List Rw) (h : w.ownsRow 0 51 11 v l.length (l.flatMap rwC)) (hl : l.length ≤ 1200000000000) :
    Calls Try.prog 72 #[v] w (MadeR 51 11 rwC l w) := by
  obtain ⟨A, cap, rfl, _, hlies⟩ := own_lies h
  have hnil : A = none → l = [] ∧ cap = 0 := by
    rintro rfl
    rcases h with ⟨_, ⟨h1, h2⟩ | ⟨g, cap2, cur, h1, _⟩⟩
    · simp only [Value.slice.injEq, true_and] at h1
      exact ⟨List.eq_nil_of_length_eq_zero h1.1, h1.2⟩
    · cases h1
  exact copyR_any A cap l w (by omega) hlies (fun e => (hnil e).1) (fun e => (hnil e).2)

set_option maxRecDepth 20000 in
set_option maxHeartbeats 4000000 in
theorem radd_ok (h : RTabAt w q kn rows vl) (s g a0 a1 a2 a3 a4 a5 a6 a7 : Int) (hb : beastE (kn : Int) [a0, a1, a2, a3, a4, a5, a6, a7] = 0) (hl : rows.length < 1200000000000) :
    Calls Try.prog 20 #[.pointer (some ⟨q, 0, none⟩), .agg #[.int .i64 s, .int .i64 g], .agg #[.int .i64 (kn : Int), .int .i64 a0, .int .i64 a1, .int .i64 a2, .int .i64 a3, .int .i64 a4, .int .i64 a5, .int .i64 a6, .int .i64 a7]] w (RPost w q kn vl (rows ++ [((s, g), ((kn : Int), a0, a1, a2, a3, a4, a5, a6, a7))]) (.tuple #[.int .i64 (rows.length : Int), .int .i64 0])) := by
  have h1 := fun w => beastCheck_any (kn : Int) a0 a1 a2 a3 a4 a5 a6 a7 w
  rw [hb] at h1
  have H1 := Lib.hid h1
  have H := Lib.hid h; have HLen := Lib.hid hl
  obtain ⟨A, cap, rfl, -, -⟩ := row_slice h.row
  clear h1 hb h
  go_enter Try.func20, Try.ntmps20
  go_wp2_with fail
  refine (H1.out _).mono ?_
  rintro e w1 ⟨rfl, hb1⟩
  have k2 := (Mod.ofBelow hb1).keep (blk_alloc (heap_alloc_new w _) _) (by simp)
  have k3 := (Mod.ofBelow hb1).keep (heap_alloc_new (w.alloc _) _) (by simp)
  have hz1 := hb1.size
  have hB := (((Below.refl w.heap.size w).alloc (Nat.le_refl _) _).alloc (by simp) _).trans (hb1.mono (by simp; omega))
  simp only [World.size_alloc] at k3 hz1
  have ht : RTabAt w1 q kn rows (.slice A rows.length cap) := FieldAt.mod H.out (Mod.mono (Mod.ofBelow (hB.mono (Nat.le_refl _))) (G := []) (by simp)) (by simp) (by simp)
  have d0 : w1.cell? ⟨q, 0, none⟩ = some (.int .i64 (kn : Int)) := by rw [blk_cell ht.blk]; rfl
  have HB := Lib.hid hB; have HT := Lib.hid ht; have K2 := Lib.hid k2; have K3 := Lib.hid k3
  have c0 := blk_cell k3 0
  simp only [List.getElem?_toArray, List.getElem?_cons_zero, List.getElem?_cons_succ] at c0
  have lc := blk_lt k3
  clear k2 k3 hb1 H1 hB ht
  go_wp2
  refine wp_planR 7 [2] [some 14, some 15, some 16, some 17, some 18, some 19, some 20] [[], [0], [], [2], [2, 3], [2, 3, 4], [0, 1, 2, 3, 4, 5]] [0, 1, 2, 3, 4, 5, 6] mixed rfl (by kernel_rfl) (by decide) (by decide) rfl ?_
  iterate 7 apply Exists.intro
  refine ⟨rfl, ?_, ?_⟩
  · simp only [List.take_succ_cons, List.take_zero, AllFrom.cons_eq, AllFrom.nil_eq, OpGoalQ]
    refine ⟨?_, ?_, ?_, ?_, ?_, ?_, ?_, trivial⟩
    all_goals (intro σ hp; (try simp only [List.getD_cons_zero, List.getD_cons_succ, List.map_cons, List.map_nil, preF_cons, preF_nil, isV, and_true] at hp); (first | (have hq : True := hp; clear hq hp) | skip))
    all_goals (go_simp; exact ⟨rfl, rfl⟩)
  intro σ hp
  simp only [List.getD_cons_zero, List.getD_cons_succ, List.map_cons, List.map_nil, preF_cons, preF_nil, isV, and_true] at hp
  simp only [List.drop_succ_cons, List.drop_zero]
  go_simp
  clear hp
  refine ⟨rfl, ?_⟩
  go_wp2
  have hwd : Mod [] w w1.drew := (Mod.ofBelow HB.out).drew
  obtain ⟨w0, hw0⟩ : ∃ w0, w0 = w1.drew := ⟨_, rfl⟩
  have hs0 : w0.heap.size = w1.heap.size := by rw [hw0]; rfl
  have ht0 : RTabAt w0 q kn rows (.slice A rows.length cap) := FieldAt.mod HT.out (F := []) (by rw [hw0]; exact (Mod.refl _ _).drew) (by simp) (by simp)
  have k20 : w0.heap[w.heap.size]? = some (.cells #[.int .i64 s, .int .i64 g] 45 (0, 0)) := by rw [hw0]; exact K2.out
  have k30 : w0.heap[w.heap.size + 1]? = some (.cells #[.int .i64 (kn : Int), .int .i64 a0, .int .i64 a1, .int .i64 a2, .int .i64 a3, .int .i64 a4, .int .i64 a5, .int .i64 a6, .int .i64 a7] 24 (0, 0)) := by rw [hw0]; exact K3.out
  rw [← hw0] at hwd ⊢
  have HW := Lib.hid hwd; have HT0 := Lib.hid ht0; have K20 := Lib.hid k20; have K30 := Lib.hid k30
  clear hwd ht0 k20 k30 hw0 hs0 c0 lc d0
  refine wp_planF 10 [0, 1] [some 21, some 22, some 23, some 24, some 25, some 26, some 27, some 28, some 29, some 30, some 31, some 32, some 33, none] [[], [], [1], [1, 2], [1, 2, 3], [1, 2, 3, 4], [], [], [6, 7], [6, 7, 8], [1, 2, 3, 4, 5, 6, 7, 8, 9], [0, 1, 2, 3, 4, 5, 6, 7, 8, 9, 10], [0, 1, 2, 3, 4, 5, 6, 7, 8, 9, 10, 11], [0, 1, 2, 3, 4, 5, 6, 7, 8, 9, 10, 11, 12]] [0, 1, 2, 3, 4, 5, 6, 7, 8, 9] 10 (fun vs => [isV (vs.getD 0 undef), isV (vs.getD 1 undef), isV (vs.getD 2 undef), isV (vs.getD 3 undef), isV (vs.getD 4 undef), (rowV w0.heap.size 51 11 rows.length (rows.flatMap rwC)), isV (vs.getD 6 undef), isV (vs.getD 7 undef), isV (vs.getD 8 undef), (oneR w0.heap.size #[.int .i64 s, .int .i64 g, .int .i64 (kn : Int), .int .i64 a0, .int .i64 a1, .int .i64 a2, .int .i64 a3, .int .i64 a4, .int .i64 a5, .int .i64 a6, .int .i64 a7] 51)])
    (fun _ _ W => Below w0.heap.size w0 W) mixed rfl (by kernel_rfl) (by decide) (by decide) (Below.refl _ _).drew rfl ?_
  iterate 10 apply Exists.intro
  refine ⟨?_, ?_⟩
  · simp only [List.take_succ_cons, List.take_zero, AllFrom.cons_eq, AllFrom.nil_eq, OpGoalV]
    refine ⟨?_, ?_, ?_, ?_, ?_, ?_, ?_, ?_, ?_, ?_, trivial⟩
    all_goals (intro L' σ W h1 h2 h3 hI hp; clear h1 h2 h3; (try simp only [List.getD_cons_zero, List.getD_cons_succ, preF_cons, preF_nil, isV, and_true] at hp); (first | (have hq : True := hp; clear hq hp) | skip); have HI := Lib.hid hI; clear hI)
    all_goals (
      have htW : RTabAt W q kn rows (.slice A rows.length cap) := FieldAt.mod HT0.out (Mod.ofBelow HI.out) (by simp) (by simp)
      have e1 := htW.cell
      have j2 := (Mod.ofBelow HI.out).keep K20.out (by simp)
      have j3 := (Mod.ofBelow HI.out).keep K30.out (by simp)
      have HTW := Lib.hid htW
      have c0 := blk_cell j3 0
      have c1 := blk_cell j3 1
      have c2 := blk_cell j3 2
      have c3 := blk_cell j3 3
      have c4 := blk_cell j3 4
      have c5 := blk_cell j3 5
      have c6 := blk_cell j3 6
      have c7 := blk_cell j3 7
      have c8 := blk_cell j3 8
      simp only [List.getElem?_toArray, List.getElem?_cons_zero, List.getElem?_cons_succ] at c0 c1 c2 c3 c4 c5 c6 c7 c8
      have lc := blk_lt j3
      have b0 := blk_cell j2 0
      have b1 := blk_cell j2 1
      simp only [List.getElem?_toArray, List.getElem?_cons_zero, List.getElem?_cons_succ] at b0 b1
      have lb := blk_lt j2
      clear htW j2 j3)
    all_goals (try (go_simp; exact ⟨rfl, HI.out, KeepAll.refl⟩))
    · go_simp
      refine (copyRows_any W _ rows HTW.out.row (by have := HLen.out; omega)).mono ?_
      rintro e w2 ⟨v, rfl, hown, hb⟩
      have hszW := HI.out.size
      exact ⟨_, rfl, ⟨row_base hown (fun k hk => by have := (hown.lt k hk).1; omega), HI.out.trans (hb.mono hszW), KeepAll.ofStab (T := Grow) hb (by repeat (first | exact allStab_nil | refine allStab_isV ?_ | refine allStab_oneR ?_ | refine allStab_rowV ?_))⟩⟩
    · go_simp
      exact ⟨oneR_new HI.out.size, HI.out.alloc HI.out.size _, KeepAll.ofStab (T := Grow) (grow_alloc _ _) (by repeat (first | exact allStab_nil | refine allStab_isV ?_ | refine allStab_oneR ?_ | refine allStab_rowV ?_))⟩
  · intro L' σ W h1 hI hp
    clear h1
    simp only [List.getD_cons_zero, List.getD_cons_succ, preF_cons, preF_nil, isV, and_true] at hp
    obtain ⟨s0, s1, s2, s3, s4, s5, s6, s7, s8, s9⟩ := hp
    have HI := Lib.hid hI; have S5 := Lib.hid s5; have S9 := Lib.hid s9
    clear hI s5 s9
    simp only [List.drop_succ_cons, List.drop_zero]
    go_simp
    clear s0 s1 s2 s3 s4 s6 s7 s8
    generalize σ 5 = v5 at *
    generalize σ 9 = v9 at *
    obtain ⟨A5, cap5, rfl, -, -⟩ := row_slice S5.out
    go_wp2_with (at_builtin; refine app_oneR (enc := rwC) (n := 11) (z := .agg (Array.replicate 11 (.int .i64 0))) (bytes := 88) rfl _ _ 41 51 rfl Try.underlying41 inf_Row rfl (by omega) (by omega) rwC_one rwC_len w0.heap.size _ rows ((s, g), ((kn : Int), a0, a1, a2, a3, a4, a5, a6, a7)) w0.heap.size _ 51 rfl S5.out S9.out rfl (by have := HLen.out; omega) HI.out.size ?_; intro v' w2 hown hg hloc; obtain ⟨A2, cap2, rfl, -, -⟩ := row_slice hown; have hm2 : Mod [] w0 w2 := (Mod.ofBelow HI.out).grown hg (fun k hk => .inr (S5.out.lt k hk).1); have hws := HW.out.size; have hk := field_new H.out (HW.out.trans hm2 (by simp)) (row_base hown (fun k hk => by have := (hown.lt k hk).1; omega)); have hb2 := hk.2; have hk1 := hk.1; rw [List.length_append] at hk1; have HK := Lib.hid hk1; have hf2 := blk_free hb2 1; have hc2 := blk_cell hb2 1; rw [H.out.here] at hc2; have hl2 := blk_lt hb2; clear hown hg hloc hk hk1 hb2 hm2)
    refine ⟨rfl, ?_⟩
    have hle : rows.length ≤ 1200000000000 := by have := HLen.out; omega
    go_wp2
    go_ret2
    exact ⟨rfl, HK.out⟩
  all_goals exact undef
end
end Go.Proofs.Ytkcpmoinpdojjaa
