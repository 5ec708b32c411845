import Derived.Test.YtfbcdblgfhekpaaRows
import Derived.Test.YtfbcdblgfhekpaaDiffBetweensJ1
import Derived.Test.YtfbcdblgfhekpaaDiffBetweensJ10
import Derived.Test.YtfbcdblgfhekpaaDiffBetweensJ23
import Derived.Test.YtfbcdblgfhekpaaDiffBetweensJ28
import Derived.Test.YtfbcdblgfhekpaaDiffBetweensJ25
/- The law DiffBetweens returns true for every input. -/
namespace Go.Proofs.Ytfbcdblgfhekpaa
open Go Go.ChangeShapes Go.WideShapes Go.ChangeAt Go.RowKit

theorem intCells_Row3 : IntCells Try.prog 33 := IntCells.struct Try.underlying33 (by kernel_rfl) (by
  intro f hf
  simp only [List.mem_toArray, List.mem_cons, List.not_mem_nil, or_false] at hf
  rcases hf with rfl | rfl
  · exact intCells_Handle
  · exact intCells_Beast)

theorem chg_len (h : Hd) (o n : Bt) : (chg h o n).length ≤ 1 := by unfold chg; split <;> simp
theorem mrgB_len : ∀ (n : Nat) (la lb : List Rw), (mrgB n la lb).length ≤ n
  | 0, _, _ => by simp [mrgB]
  | n + 1, [], [] => by simp [mrgB]
  | n + 1, x :: a, [] => by
    show (chg x.1 x.2 noneB ++ mrgB n a []).length ≤ n + 1
    rw [List.length_append]; have := chg_len x.1 x.2 noneB; have := mrgB_len n a []; omega
  | n + 1, [], y :: b => by
    show (chg y.1 noneB y.2 ++ mrgB n [] b).length ≤ n + 1
    rw [List.length_append]; have := chg_len y.1 noneB y.2; have := mrgB_len n [] b; omega
  | n + 1, x :: a, y :: b => by
    unfold mrgB
    have h1 := chg_len x.1 x.2 noneB; have h2 := mrgB_len n a (y :: b)
    have h3 := chg_len y.1 noneB y.2; have h4 := mrgB_len n (x :: a) b
    have h5 := chg_len y.1 x.2 y.2; have h6 := mrgB_len n a b
    split
    · rw [List.length_append]; omega
    · split
      · rw [List.length_append]; omega
      · rw [List.length_append]; omega
theorem mayB_sort {l : List Rw} (h : mayB l = true) : SortR l := (mayB_ok h).2.2.imp fun {x y} hlt => by
  obtain ⟨⟨s, g⟩, b⟩ := x
  obtain ⟨⟨t, u⟩, d⟩ := y
  simp only at hlt
  unfold ltH
  simp [hlt]
/-- The answer of both. -/
def btwL (la lb : List Rw) : List Cg := if mayB la = true ∧ mayB lb = true then mrgB (la.length + lb.length) la lb else []
def btwZ (la lb : List Rw) : Int := if mayB la = true ∧ mayB lb = true then 0 else 4
def BtwAny (la lb : List Rw) (w : World) (e : Ending) (w' : World) : Prop :=
  ∃ v, e = .returned (.tuple #[v, .int .i64 (btwZ la lb)]) ∧ ownC w' w.heap.size v (btwL la lb) ∧ Below w.heap.size w w'
theorem btw_any {la lb : List Rw} {w w' : World} {e : Ending} (h : BtwPost la lb w e w') : BtwAny la lb w e w' := by
  obtain ⟨hb, h⟩ := h
  unfold BtwAny btwZ btwL
  by_cases hm : mayB la = true ∧ mayB lb = true
  · rw [if_pos hm] at h ⊢
    rw [if_pos hm]
    obtain ⟨v, hs, rfl, hB, ho⟩ := h
    rw [mrg_bet _ la lb hs (Nat.le_refl _) (mayB_sort hm.1) (mayB_sort hm.2) hB]
    exact ⟨v, rfl, ho, hb⟩
  · rw [if_neg hm] at h ⊢
    rw [if_neg hm]
    subst h
    exact ⟨_, rfl, ⟨rfl, .inl ⟨rfl, rfl⟩⟩, hb⟩
theorem rbtw_any {la lb : List Rw} {w w' : World} {e : Ending} (h : RBtwPost la lb w e w') : BtwAny la lb w e w' := by
  obtain ⟨hb, h⟩ := h
  unfold BtwAny btwZ btwL
  by_cases hm : mayB la = true ∧ mayB lb = true
  · rw [if_pos hm] at h ⊢
    rw [if_pos hm]
    obtain ⟨v, rfl, ho⟩ := h
    exact ⟨v, rfl, ho, hb⟩
  · rw [if_neg hm] at h ⊢
    rw [if_neg hm]
    subst h
    exact ⟨_, rfl, ⟨rfl, .inl ⟨rfl, rfl⟩⟩, hb⟩
theorem btwL_len (la lb : List Rw) : (btwL la lb).length ≤ la.length + lb.length := by
  unfold btwL
  split
  · exact mrgB_len _ _ _
  · simp

attribute [local go_sem] AllFrom.cons_eq AllFrom.nil_eq putF_nil putF_cons wantedL_none wantedL_some OpGoalQ YieldsR preF_nil preF_cons

set_option maxRecDepth 100000 in
set_option maxHeartbeats 4000000 in
theorem diffBetweens_any (A : Option Addr) (c : Nat) (la : List Rw) (A' : Option Addr) (c' : Nat) (lb : List Rw) (w : World) (hla : la.length ≤ 1200000000000000) (hlb : lb.length ≤ 1200000000000000) (hca : la.length ≤ c) (hcb : lb.length ≤ c') (hA : Lies w w.heap.size A (la.flatMap rwC)) (hB : Lies w w.heap.size A' (lb.flatMap rwC)) :
    Calls Try.prog 3 #[.slice A la.length c, .slice A' lb.length c'] w fun e w' => e = .returned (.bool true) ∧ Below w.heap.size w w' := by
  have H1 := Lib.hid (between_any (w := w) A c la A' c' lb (by omega) (by omega) hA hB)
  have H2 := Lib.hid (fun w' (hb : Below w.heap.size w w') => rbetween_any (w := w') A c la A' c' lb (by omega) (by omega) hca hcb ((hA.below hb).mono hb.size) ((hB.below hb).mono hb.size))
  have Hlen := Lib.hid (show (btwL la lb).length ≤ 9223372036854775807 by have := btwL_len la lb; omega)
  clear hla hlb hca hcb hA hB
  go_enter Try.func3, Try.ntmps3
  go_wp2_with fail
  refine H1.out.mono ?_
  rintro e w1 h1
  obtain ⟨v1, rfl, ho1, hb1⟩ := btw_any h1
  have H3 := Lib.hid (H2.out _ hb1)
  have Ho1 := Lib.hid ho1; have Hb1 := Lib.hid hb1
  clear ho1 hb1
  clear h1
  go_wp2_with fail
  refine H3.out.mono ?_
  rintro e w2 h2
  obtain ⟨v2, rfl, ho2, hb2⟩ := rbtw_any h2
  have ho12 := row_mod Ho1.out (Mod.ofBelow hb2) (by simp)
  have hb02 := Hb1.out.trans (hb2.mono Hb1.out.size)
  generalize btwZ la lb = z at *
  generalize btwL la lb = l at *
  have Ho12 := Lib.hid ho12; have Ho2 := Lib.hid ho2; have Hb02 := Lib.hid hb02
  clear ho12 ho2 hb02
  clear h2 hb2
  go_wp2_with fail
  refine (between_bad _ _ (heap_alloc_new _ _)).mono ?_
  rintro e w3 ⟨rfl, hb3⟩
  have hw3 : Below w2.heap.size w2 w3 := (((Below.refl w2.heap.size w2).alloc (Nat.le_refl _) _).trans (hb3.mono (by simp)))
  have HB3 := Lib.hid (Hb02.out.trans (hw3.mono Hb02.out.size))
  obtain ⟨A1, c1, rfl, -, hA1⟩ := own_lies (row_mod Ho12.out (Mod.ofBelow hw3) (by simp))
  obtain ⟨A2, c2, rfl, -, hA2⟩ := own_lies (row_mod Ho2.out (Mod.ofBelow hw3) (by simp))
  have h5 := eqChange_any A1 c1 A2 c2 l l w3 Hlen.out Hlen.out hA1 hA2
  rw [eqB_self] at h5
  have H5 := Lib.hid h5
  clear h5 hb3 hw3 hA1 hA2
  go_wp2_with fail
  refine H5.out.mono ?_
  rintro e w4 ⟨rfl, hb4⟩
  have HB4 := Lib.hid (HB3.out.trans (hb4.mono HB3.out.size))
  clear hb4
  go_wp2
  go_ret
  exact ⟨rfl, HB4.out⟩

set_option maxRecDepth 100000 in
theorem diffBetweens_law {H : Type} {enc : TypeId × Value → H} (W : World) (base : Nat) (args : Array Value) (ds : List (DataW H)) (ps : List MemPlace)
    (hval : ∀ (j : Nat) t v, Try.f3.params[j]? = some t → args[j]? = some v → Value.okWide Try.prog W .any base t v)
    (hA : DataW.TrodAll enc Try.prog W 0 (fun _ => true) true Try.f3.params.toList args.toList ds ps) (hlt : ∀ p ∈ ps, p.block < W.heap.size)
    (hsz : ∀ (j : Nat) t d, Try.f3.params.toList[j]? = some t → ds[j]? = some d → ∀ m ∈ d.weights Try.prog t, m ≤ reachBytes) :
    Calls Try.prog 3 args W fun e W' => e = .returned (.bool true) ∧ Below W.heap.size W W' := by
  rw [Try.params3] at hA hval hsz
  obtain ⟨v0, v1, d0, d1, p0, p1, rfl, rfl, rfl, h0, h1⟩ := trodAll_two hA
  obtain ⟨A, n, c, zs, rfl, hnc, hc, hlen, -, hL⟩ := open_slice_flat Try.underlying22 intCells_Row3 (k := 11) (by kernel_rfl) (by omega) (hval 0 22 v0 rfl rfl) h0 (fun p hp => hlt p (by simp [hp]))
  obtain ⟨la, hl, rfl⟩ := unflat rwI 11 rwI_mk n zs hlen
  have hs0 := slice_size Try.underlying22 h0 (hsz 0 22 d0 rfl rfl)
  rw [show Try.prog.bytesOf 33 = 88 by kernel_rfl, reach_val] at hs0
  rw [show ints (la.flatMap rwI) = la.flatMap rwC by unfold ints rwC; rw [List.map_flatMap]; rfl] at hL
  obtain ⟨A', n', c', zs', rfl, hnc', hc', hlen', -, hL'⟩ := open_slice_flat Try.underlying22 intCells_Row3 (k := 11) (by kernel_rfl) (by omega) (hval 1 22 v1 rfl rfl) h1 (fun p hp => hlt p (by simp [hp]))
  obtain ⟨lb, hl', rfl⟩ := unflat rwI 11 rwI_mk n' zs' hlen'
  have hs1 := slice_size Try.underlying22 h1 (hsz 1 22 d1 rfl rfl)
  rw [show Try.prog.bytesOf 33 = 88 by kernel_rfl, reach_val] at hs1
  rw [show ints (lb.flatMap rwI) = lb.flatMap rwC by unfold ints rwC; rw [List.map_flatMap]; rfl] at hL'
  subst hl hl'
  exact diffBetweens_any A c la A' c' lb W (by omega) (by omega) hnc hnc' hL hL'

set_option maxRecDepth 100000 in
theorem diffBetweens_lifted (os : Os) (started : os.Started) (H : Type) (enc : TypeId × Value → H) :
    ReturnsInHanded {} Try.checked os 3 .any (Rows.diffBetweensSpec.pre6 enc Try.prog Try.f3 Rows.diffBetweensRow.domain false) (Rows.diffBetweensSpec.post enc Try.prog Try.f3 false true false false) := by
  refine law_lifted_sized (C := Try.checked) (tb := 4) started own_ laid_ (by kernel_rfl) Try.func3 ?_ rfl rfl (by kernel_rfl) (fun ds h => ?_)
    (ChangeSpec.witness6 (enc := enc) (C := Try.checked) false ⟨#[], #[.slice none 0 0, .slice none 0 0], []⟩ 8 (by kernel_rfl) (by kernel_rfl) (by kernel_rfl) (by kernel_rfl)) ?_
  · intro t ht
    have : t = 22 ∨ t = 22 := by simpa [Try.params3] using ht
    rcases this with rfl | rfl
    all_goals exact ⟨by kernel_rfl, of_decide_eq_true (by kernel_rfl)⟩
  · match ds, h with
    | [d0, d1], _ => rfl
  · intro W base args ds ps hval hA hlt hsz
    exact diffBetweens_law W base args ds ps hval hA hlt hsz

set_option maxHeartbeats 4000000 in
theorem diffBetweens_closed : joinedFacts Try.prog 3 Try.f3 Rows.diffBetweensSpec Rows.diffBetweensRow = true := by
  unfold joinedFacts
  repeat' (with_reducible refine and_intro ?_ ?_)
  · as_aux_lemma => kernel_rfl
  · exact laid_
  · exact mapsRowed_
  · as_aux_lemma => kernel_rfl
  · as_aux_lemma => kernel_rfl
  · as_aux_lemma => kernel_rfl
  · exact stops_
  · as_aux_lemma => kernel_rfl
  · exact stopKnobs_
  · as_aux_lemma => kernel_rfl
  · as_aux_lemma => kernel_rfl
  · as_aux_lemma => kernel_rfl
  · as_aux_lemma => kernel_rfl
  · as_aux_lemma => kernel_rfl
  · as_aux_lemma => kernel_rfl
  · as_aux_lemma => kernel_rfl
  · as_aux_lemma => kernel_rfl
  · as_aux_lemma => kernel_rfl
  · as_aux_lemma => kernel_rfl
  · as_aux_lemma => kernel_rfl
  · as_aux_lemma => kernel_rfl
  · as_aux_lemma => kernel_rfl
  · exact plainKeys_
  · as_aux_lemma => kernel_rfl
  · exact stopsHeard_
  · exact mayEnter_
  · exact liftsFinal_
  · exact make_
  · as_aux_lemma => kernel_rfl
  · as_aux_lemma => kernel_rfl
  · as_aux_lemma => kernel_rfl
  · as_aux_lemma => kernel_rfl

theorem diffBetweens_holds : Rows.DiffBetweensSaid :=
  OpenClaim.holds_of_wide 3 Try.f3 rfl rfl rfl rfl rfl rfl rfl ⟨rfl, rfl, rfl, rfl, rfl⟩ rfl rfl rfl rfl rfl (by as_aux_lemma => kernel_rfl) Try.func3 diffBetweens_closed
    (of_decide_eq_true (by as_aux_lemma => kernel_rfl)) (by unfold Func.isWrapper; first | (rw [if_pos (by decide +kernel)]; kernel_rfl) | (rw [if_neg (by decide +kernel)]; exact ⟨rfl, rfl⟩))
    (fun os started H enc _ => diffBetweens_lifted os started H enc)
#print axioms diffBetweens_holds
end Go.Proofs.Ytfbcdblgfhekpaa
