import Derived.Test.YtfbcdblgfhekpaaRows
import Derived.Test.YtfbcdblgfhekpaaDiffAppliesJ1
import Derived.Test.YtfbcdblgfhekpaaDiffAppliesJ7
import Derived.Test.YtfbcdblgfhekpaaDiffAppliesJ8
import Derived.Test.YtfbcdblgfhekpaaDiffAppliesJ16
import Derived.Test.YtfbcdblgfhekpaaDiffAppliesJ21
/- The law DiffApplies returns true for every input. -/
namespace Go.Proofs.Ytfbcdblgfhekpaa
open Go Go.ChangeShapes Go.WideShapes Go.ChangeAt Go.RowKit

theorem intCells_Row3 : IntCells Try.prog 33 := IntCells.struct Try.underlying33 (by kernel_rfl) (by
  intro f hf
  simp only [List.mem_toArray, List.mem_cons, List.not_mem_nil, or_false] at hf
  rcases hf with rfl | rfl
  · exact intCells_Handle
  · exact intCells_Beast)

theorem intCells_Change3 : IntCells Try.prog 36 := IntCells.struct Try.underlying36 (by kernel_rfl) (by
  intro f hf
  simp only [List.mem_toArray, List.mem_cons, List.not_mem_nil, or_false] at hf
  rcases hf with rfl | rfl | rfl
  · exact intCells_Handle
  · exact intCells_Beast
  · exact intCells_Beast)
theorem eqRow_self (l : List Rw) (A : Option Addr) (c : Nat) (A' : Option Addr) (c' : Nat) (w : World) (hl : l.length ≤ 9223372036854775807) (hA : Lies w w.heap.size A (l.flatMap rwC)) (hA' : Lies w w.heap.size A' (l.flatMap rwC)) :
    Calls Try.prog 10 #[.slice A l.length c, .slice A' l.length c'] w fun e w' => e = .returned (.bool true) ∧ Below w.heap.size w w' := by
  have := eqRow_any A c A' c' l l w hl hl hA hA'
  rw [eqB_self] at this
  exact this

attribute [local go_sem] AllFrom.cons_eq AllFrom.nil_eq putF_nil putF_cons wantedL_none wantedL_some OpGoalQ YieldsR preF_nil preF_cons

set_option maxRecDepth 100000 in
set_option maxHeartbeats 4000000 in
theorem diffApplies_any (A : Option Addr) (c : Nat) (la : List Rw) (A' : Option Addr) (c' : Nat) (lb : List Cg) (w : World) (hla : la.length ≤ 1200000000000000) (hlb : lb.length ≤ 1200000000000000) (hca : la.length ≤ c) (hcb : lb.length ≤ c') (hA : Lies w w.heap.size A (la.flatMap rwC)) (hB : Lies w w.heap.size A' (lb.flatMap cgC)) (hcr : ∀ x ∈ lb, HdR x.1) :
    Calls Try.prog 4 #[.slice A la.length c, .slice A' lb.length c'] w fun e w' => e = .returned (.bool true) ∧ Below w.heap.size w w' := by
  have H1 := Lib.hid (apply_any (w := w) A c la A' c' lb (by omega) (by omega) hA hB hcr)
  have H2 := Lib.hid (fun w' (hb : Below w.heap.size w w') => rapply_any (w := w') A c la A' c' lb (by omega) (by omega) ((hA.below hb).mono hb.size) ((hB.below hb).mono hb.size))
  have Hlen := Lib.hid (show (aplL la lb).length ≤ 9223372036854775807 by have := aplL_len la lb; omega)
  clear hla hlb hca hcb hA hB hcr
  go_enter Try.func4, Try.ntmps4
  go_wp2_with fail
  refine H1.out.mono ?_
  rintro e w1 h1
  obtain ⟨v1, rfl, ho1, hb1⟩ := h1
  have H3 := Lib.hid (H2.out _ hb1)
  have Ho1 := Lib.hid ho1; have Hb1 := Lib.hid hb1
  clear ho1 hb1
  go_wp2_with fail
  refine H3.out.mono ?_
  rintro e w2 h2
  obtain ⟨A2, c2, rfl, hA2, hb2⟩ := h2
  have ho12 := row_mod Ho1.out (Mod.ofBelow hb2) (by simp)
  have hb02 := Hb1.out.trans (hb2.mono Hb1.out.size)
  generalize aplZ la lb = z at *
  generalize aplL la lb = l at *
  have Ho12 := Lib.hid ho12; have HA2 := Lib.hid hA2; have Hb02 := Lib.hid hb02
  clear ho12 hA2 hb02
  clear hb2
  go_wp2_with fail
  refine (between_bad _ _ (heap_alloc_new _ _)).mono ?_
  rintro e w3 ⟨rfl, hb3⟩
  have hw3 : Below w2.heap.size w2 w3 := (((Below.refl w2.heap.size w2).alloc (Nat.le_refl _) _).trans (hb3.mono (by simp)))
  have HB3 := Lib.hid (Hb02.out.trans (hw3.mono Hb02.out.size))
  obtain ⟨A1, c1, rfl, -, hA1⟩ := own_lies (row_mod Ho12.out (Mod.ofBelow hw3) (by simp))
  have hA2 := (HA2.out.below hw3).mono hw3.size
  have h5 := eqRow_self l A1 c1 A2 c2 w3 Hlen.out hA1 hA2
  have H5 := Lib.hid h5
  clear h5 hb3 hw3 hA1 hA2
  go_wp2_with fail
  refine H5.out.mono ?_
  rintro e w4 ⟨rfl, hb4⟩
  have HB4 := Lib.hid (HB3.out.trans (hb4.mono HB3.out.size))
  clear hb4
  go_wp2
  go_ret
  exact ⟨rfl, HB4.out⟩

set_option maxRecDepth 100000 in
theorem diffApplies_law {H : Type} {enc : TypeId × Value → H} (W : World) (base : Nat) (args : Array Value) (ds : List (DataW H)) (ps : List MemPlace)
    (hval : ∀ (j : Nat) t v, Try.f4.params[j]? = some t → args[j]? = some v → Value.okWide Try.prog W .any base t v)
    (hA : DataW.TrodAll enc Try.prog W 0 (fun _ => true) true Try.f4.params.toList args.toList ds ps) (hlt : ∀ p ∈ ps, p.block < W.heap.size)
    (hsz : ∀ (j : Nat) t d, Try.f4.params.toList[j]? = some t → ds[j]? = some d → ∀ m ∈ d.weights Try.prog t, m ≤ reachBytes) :
    Calls Try.prog 4 args W fun e W' => e = .returned (.bool true) ∧ Below W.heap.size W W' := by
  rw [Try.params4] at hA hval hsz
  obtain ⟨v0, v1, d0, d1, p0, p1, rfl, rfl, rfl, h0, h1⟩ := trodAll_two hA
  obtain ⟨A, n, c, zs, rfl, hnc, hc, hlen, -, hL⟩ := open_slice_flat Try.underlying22 intCells_Row3 (k := 11) (by kernel_rfl) (by omega) (hval 0 22 v0 rfl rfl) h0 (fun p hp => hlt p (by simp [hp]))
  obtain ⟨la, hl, rfl⟩ := unflat rwI 11 rwI_mk n zs hlen
  have hs0 := slice_size Try.underlying22 h0 (hsz 0 22 d0 rfl rfl)
  rw [show Try.prog.bytesOf 33 = 88 by kernel_rfl, reach_val] at hs0
  rw [show ints (la.flatMap rwI) = la.flatMap rwC by unfold ints rwC; rw [List.map_flatMap]; rfl] at hL
  obtain ⟨A', n', c', zs', rfl, hnc', hc', hlen', hin, hL'⟩ := open_slice_flat Try.underlying23 intCells_Change3 (k := 20) (by kernel_rfl) (by omega) (hval 1 23 v1 rfl rfl) h1 (fun p hp => hlt p (by simp [hp]))
  obtain ⟨lb, hl', rfl⟩ := unflat cgI 20 cgI_mk n' zs' hlen'
  have hs1 := slice_size Try.underlying23 h1 (hsz 1 23 d1 rfl rfl)
  rw [show Try.prog.bytesOf 36 = 160 by kernel_rfl, reach_val] at hs1
  rw [show ints (lb.flatMap cgI) = lb.flatMap cgC by unfold ints cgC; rw [List.map_flatMap]; rfl] at hL'
  subst hl hl'
  have hR : ∀ x ∈ lb, HdR x.1 := fun x hx => by
    have hz : ∀ z ∈ cgI x, InR z := fun z hz => hin z (List.mem_flatMap.2 ⟨x, hx, hz⟩)
    obtain ⟨⟨s, g⟩, o, n⟩ := x
    exact ⟨hz s (by simp [cgI, hdI]), hz g (by simp [cgI, hdI])⟩
  exact diffApplies_any A c la A' c' lb W (by omega) (by omega) hnc hnc' hL hL' hR

set_option maxRecDepth 100000 in
theorem diffApplies_lifted (os : Os) (started : os.Started) (H : Type) (enc : TypeId × Value → H) :
    ReturnsInHanded {} Try.checked os 4 .any (Rows.diffAppliesSpec.pre6 enc Try.prog Try.f4 Rows.diffAppliesRow.domain false) (Rows.diffAppliesSpec.post enc Try.prog Try.f4 false true false false) := by
  refine law_lifted_sized (C := Try.checked) (tb := 4) started own_ laid_ (by kernel_rfl) Try.func4 ?_ rfl rfl (by kernel_rfl) (fun ds h => ?_)
    (ChangeSpec.witness6 (enc := enc) (C := Try.checked) false ⟨#[], #[.slice none 0 0, .slice none 0 0], []⟩ 8 (by kernel_rfl) (by kernel_rfl) (by kernel_rfl) (by kernel_rfl)) ?_
  · intro t ht
    have : t = 22 ∨ t = 23 := by simpa [Try.params4] using ht
    rcases this with rfl | rfl
    all_goals exact ⟨by kernel_rfl, of_decide_eq_true (by kernel_rfl)⟩
  · match ds, h with
    | [d0, d1], _ => rfl
  · intro W base args ds ps hval hA hlt hsz
    exact diffApplies_law W base args ds ps hval hA hlt hsz

set_option maxHeartbeats 4000000 in
theorem diffApplies_closed : joinedFacts Try.prog 4 Try.f4 Rows.diffAppliesSpec Rows.diffAppliesRow = true := by
  unfold joinedFacts
  repeat' (with_reducible refine and_intro ?_ ?_)
  · as_aux_lemma => kernel_rfl
  · exact laid_
  · exact mapsRowed_
  · as_aux_lemma => kernel_rfl
  · as_aux_lemma => kernel_rfl
  · as_aux_lemma => kernel_rfl
  · exact stops_
  · as_aux_lemma => kernel_rfl
  · exact stopKnobs_
  · as_aux_lemma => kernel_rfl
  · as_aux_lemma => kernel_rfl
  · as_aux_lemma => kernel_rfl
  · as_aux_lemma => kernel_rfl
  · as_aux_lemma => kernel_rfl
  · as_aux_lemma => kernel_rfl
  · as_aux_lemma => kernel_rfl
  · as_aux_lemma => kernel_rfl
  · as_aux_lemma => kernel_rfl
  · as_aux_lemma => kernel_rfl
  · as_aux_lemma => kernel_rfl
  · as_aux_lemma => kernel_rfl
  · as_aux_lemma => kernel_rfl
  · exact plainKeys_
  · as_aux_lemma => kernel_rfl
  · exact stopsHeard_
  · exact mayEnter_
  · exact liftsFinal_
  · exact make_
  · as_aux_lemma => kernel_rfl
  · as_aux_lemma => kernel_rfl
  · as_aux_lemma => kernel_rfl
  · as_aux_lemma => kernel_rfl

theorem diffApplies_holds : Rows.DiffAppliesSaid :=
  OpenClaim.holds_of_wide 4 Try.f4 rfl rfl rfl rfl rfl rfl rfl ⟨rfl, rfl, rfl, rfl, rfl⟩ rfl rfl rfl rfl rfl (by as_aux_lemma => kernel_rfl) Try.func4 diffApplies_closed
    (of_decide_eq_true (by as_aux_lemma => kernel_rfl)) (by unfold Func.isWrapper; first | (rw [if_pos (by decide +kernel)]; kernel_rfl) | (rw [if_neg (by decide +kernel)]; exact ⟨rfl, rfl⟩))
    (fun os started H enc _ => diffApplies_lifted os started H enc)
#print axioms diffApplies_holds
end Go.Proofs.Ytfbcdblgfhekpaa
