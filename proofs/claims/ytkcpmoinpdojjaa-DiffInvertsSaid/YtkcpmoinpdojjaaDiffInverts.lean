/- The law DiffInverts returns true for every input. -/
import Derived.Test.YtkcpmoinpdojjaaRows
import Derived.Test.YtkcpmoinpdojjaaClosed
import Derived.Test.YtkcpmoinpdojjaaLawZ
import Derived.Test.YtkcpmoinpdojjaaTypes
import Derived.Test.YtkcpmoinpdojjaaInv3
import Derived.Test.YtkcpmoinpdojjaaEqC
namespace Go.Proofs.Ytkcpmoinpdojjaa
open Go.ChangeShapes Go.WideShapes Go.ChangeAt Go.RowKit

theorem intCells_Row : IntCells Try.prog 51 := IntCells.struct Try.underlying51 (by kernel_rfl) (by
  intro f hf
  simp only [List.mem_toArray, List.mem_cons, List.not_mem_nil, or_false] at hf
  rcases hf with rfl | rfl
  · exact intCells_Handle
  · exact intCells_Beast)
theorem intCells_Change : IntCells Try.prog 102 := IntCells.struct Try.underlying102 (by kernel_rfl) (by
  intro f hf
  simp only [List.mem_toArray, List.mem_cons, List.not_mem_nil, or_false] at hf
  rcases hf with rfl | rfl | rfl
  · exact intCells_Handle
  · exact intCells_Beast
  · exact intCells_Beast)

/-- A piece of a record of a list that lies flat. -/
theorem Lies.piece {α : Type} {enc : α → List Value} {n : Nat} {w : World} {B : Nat} {A : Option Addr} {l : List α} (h : Lies w B A (l.flatMap enc)) (hf : ∀ x, (enc x).length = n) (hn : 0 < n) {k : Nat} (hk : k < l.length) :
    ∃ b o, A = some ⟨b, o, none⟩ ∧ b < B ∧ ∀ (d : Nat) (xs : List Value), (∀ j u, xs[j]? = some u → (enc l[k])[d + j]? = some u) → ∀ j u, xs[j]? = some u → w.cell? ((⟨b, o + k * n + d, none⟩ : Addr).add j) = some u := by
  obtain ⟨b, o, e, hb, hc⟩ := h.rec_at hf hn hk
  refine ⟨b, o, e, hb, fun d xs hx j u hu => ?_⟩
  rw [Addr.add_mid, show o + k * n + d + j = o + k * n + (d + j) by omega]
  exact hc _ u (hx j u hu)

attribute [local go_sem] AllFrom.cons_eq AllFrom.nil_eq putF_nil putF_cons wantedL_none wantedL_some OpGoalQ YieldsR preF_nil preF_cons

set_option maxRecDepth 100000 in
set_option maxHeartbeats 4000000 in
theorem diffInverts_any (A : Option Addr) (c : Nat) (l : List Cg) (w : World) (hl : l.length * 160 ≤ 140737488351232) (hA : Lies w w.heap.size A (l.flatMap cgC)) (hn : A = none → l = []) (hc : A = none → c = 0) :
    Calls Try.prog 9 #[.slice A l.length c] w fun e w' => e = .returned (.bool true) ∧ Below w.heap.size w w' := by
  have Hl := Lib.hid hl
  have HA := Lib.hid hA
  have hl2 : l.length ≤ 9223372036854775807 := by omega
  have hinv := fun w' (hb : Below w.heap.size w w') => invert_any A c l w' hl ((hA.below hb).mono hb.size) hn hc
  have HI := Lib.hid hinv
  clear hl hA hn hc hinv
  go_enter Try.func9, Try.ntmps9
  go_wp2
  go_loopw [3, 4] (fun v i wr => ∃ k : Nat, k ≤ l.length ∧ i = .int .i64 ((l.length : Int) - 1 - k) ∧ ownC wr w.heap.size v ((l.reverse.take k).map invC) ∧ Below w.heap.size w wr) (fun _ i _ => (intOf i + 1).toNat)
  case atStart => exact ⟨0, by omega, by go_num, ⟨rfl, .inl ⟨rfl, rfl⟩⟩, Below.refl _ _⟩
  case round =>
    obtain ⟨k, hk, rfl, hown, hbel⟩ := hrel
    have hsz := hbel.size
    by_cases hlt : k < l.length
    · obtain ⟨m, hm⟩ : ∃ m : Nat, l.length - 1 - k = m := ⟨_, rfl⟩
      have hmi : (l.length : Int) - 1 - k = (m : Int) := by omega
      have hmlt : m < l.length := by omega
      rw [hmi]
      obtain ⟨ab, ao, rfl, hal, hpc⟩ := HA.out.piece cgC_len (by omega) hmlt
      have hst : (l.reverse.take (k + 1)).map invC = (l.reverse.take k).map invC ++ [invC l[m]] := by
        rw [take_succ_get l.reverse k (by rw [List.length_reverse]; exact hlt), List.map_append]
        have : l.reverse[k]'(by rw [List.length_reverse]; exact hlt) = l[m] := by rw [List.getElem_reverse]; congr 1
        rw [this]; rfl
      have hlen : ((l.reverse.take k).map invC).length = k := by simp; omega
      generalize (l.reverse.take k).map invC = L at *
      generalize l[m] = x at *
      have hq1 := hpc 0 (handleC x.1) (fun j u hu => by
        rw [cg_split, List.append_assoc, Nat.zero_add, List.getElem?_append_left (by exact (List.getElem?_eq_some_iff.1 hu).1)]; exact hu)
      have hq2 := hpc 11 (btC x.2.2) (cg_now x)
      have hq3 := hpc 2 (btC x.2.1) (cg_old x)
      have hr1 := fun V (hV : Below wr.heap.size wr V) j u hu => ((hbel.trans (hV.mono hsz)).cell (p := (⟨ab, ao + m * 20 + 0, none⟩ : Addr).add j) (by rw [add_block]; exact hal)).trans (hq1 j u hu)
      have hr2 := fun V (hV : Below wr.heap.size wr V) j u hu => ((hbel.trans (hV.mono hsz)).cell (p := (⟨ab, ao + m * 20 + 11, none⟩ : Addr).add j) (by rw [add_block]; exact hal)).trans (hq2 j u hu)
      have hr3 := fun V (hV : Below wr.heap.size wr V) j u hu => ((hbel.trans (hV.mono hsz)).cell (p := (⟨ab, ao + m * 20 + 2, none⟩ : Addr).add j) (by rw [add_block]; exact hal)).trans (hq3 j u hu)
      obtain ⟨⟨h0, h1⟩, ⟨o0, o1, o2, o3, o4, o5, o6, o7, o8⟩, ⟨n0, n1, n2, n3, n4, n5, n6, n7, n8⟩⟩ := x
      have R1 := Lib.hid hr1; have R2 := Lib.hid hr2; have R3 := Lib.hid hr3
      have Hst := Lib.hid hst; have Hlen := Lib.hid hlen
      have hmlt2 : (m : Int) < (l.length : Int) := by omega
      clear hst hpc hq1 hq2 hq3 hr1 hr2 hr3 hm hlen
      have Hmi := Lib.hid hmi
      clear hmi
      go_wp2
      have Hown := Lib.hid hown; have HBe := Lib.hid hbel
      clear hown hbel
      refine wp_planF 18 [1, 2, 6, 7, 11, 12] [some 14, some 15, some 16, some 17, some 18, some 19, some 20, some 21, some 22, some 23, some 24, some 25, some 26, some 27, some 28, some 29, some 30, some 31, some 32, some 3] [[], [], [], [1, 2], [1, 2, 3], [1, 2, 3, 4], [], [], [6, 7], [6, 7, 8], [6, 7, 8, 9], [], [], [11, 12], [11, 12, 13], [11, 12, 13, 14], [1, 2, 3, 4, 5, 6, 7, 8, 9, 10, 11, 12, 13, 14, 15], [1, 2, 3, 4, 5, 6, 7, 8, 9, 10, 11, 12, 13, 14, 15, 16], [0, 1, 2, 3, 4, 5, 6, 7, 8, 9, 10, 11, 12, 13, 14, 15, 16, 17], [0, 1, 2, 3, 4, 5, 6, 7, 8, 9, 10, 11, 12, 13, 14, 15, 16, 17, 18]] [0, 1, 2, 3, 4, 5, 6, 7, 8, 9, 10, 11, 12, 13, 14, 15, 16, 17] 18 (fun vs => [isV (vs.getD 0 undef), isV (vs.getD 1 undef), isV (vs.getD 2 undef), isV (vs.getD 3 undef), isV (vs.getD 4 undef), isV (vs.getD 5 undef), isV (vs.getD 6 undef), isV (vs.getD 7 undef), isV (vs.getD 8 undef), isV (vs.getD 9 undef), isV (vs.getD 10 undef), isV (vs.getD 11 undef), isV (vs.getD 12 undef), isV (vs.getD 13 undef), isV (vs.getD 14 undef), isV (vs.getD 15 undef), isV (vs.getD 16 undef), (oneR wr.heap.size #[.int .i64 h0, .int .i64 h1, .int .i64 n0, .int .i64 n1, .int .i64 n2, .int .i64 n3, .int .i64 n4, .int .i64 n5, .int .i64 n6, .int .i64 n7, .int .i64 n8, .int .i64 o0, .int .i64 o1, .int .i64 o2, .int .i64 o3, .int .i64 o4, .int .i64 o5, .int .i64 o6, .int .i64 o7, .int .i64 o8] 102)])
        (fun _ _ W => Below wr.heap.size wr W) mixed rfl (by kernel_rfl) (by decide) (by decide) (Below.refl _ _).drew rfl ?_
      iterate 18 apply Exists.intro
      refine ⟨?_, ?_⟩
      · simp only [List.take_succ_cons, List.take_zero, AllFrom.cons_eq, AllFrom.nil_eq, OpGoalV]
        refine ⟨?_, ?_, ?_, ?_, ?_, ?_, ?_, ?_, ?_, ?_, ?_, ?_, ?_, ?_, ?_, ?_, ?_, ?_, trivial⟩
        all_goals (intro L' σ W h1 h2 h3 hI hp; clear h1 h2 h3; (try simp only [List.getD_cons_zero, List.getD_cons_succ, preF_cons, preF_nil, isV, and_true] at hp); (first | (have hq : True := hp; clear hq hp) | skip); have HI := Lib.hid hI; clear hI)
        · (go_simp; exact ⟨rfl, HI.out, KeepAll.refl⟩)
        · (go_simp; exact ⟨rfl, HI.out, KeepAll.refl⟩)
        · (go_simp; exact ⟨rfl, HI.out, KeepAll.refl⟩)
        · (go_simp; exact ⟨rfl, HI.out, KeepAll.refl⟩)
        · (go_simp; exact ⟨rfl, HI.out, KeepAll.refl⟩)
        · (simp only [wantedL_none, ↓reduceIte, List.getD_cons_zero, List.getD_cons_succ]; refine yr_load 45 (.tmp 18) (by rfl) ⟨ab, ao + m * 20 + 0, none⟩ ?_ [.int .i64 h0, .int .i64 h1] _ Try.underlying45 rfl (by kernel_rfl) (R1.out W HI.out) ?_; (· go_simp); (· exact ⟨rfl, HI.out, KeepAll.refl⟩))
        · (go_simp; exact ⟨rfl, HI.out, KeepAll.refl⟩)
        · (go_simp; exact ⟨rfl, HI.out, KeepAll.refl⟩)
        · (go_simp; exact ⟨rfl, HI.out, KeepAll.refl⟩)
        · (go_simp; exact ⟨rfl, HI.out, KeepAll.refl⟩)
        · (simp only [wantedL_none, ↓reduceIte, List.getD_cons_zero, List.getD_cons_succ]; refine yr_load 24 (.tmp 23) (by rfl) ⟨ab, ao + m * 20 + 11, none⟩ ?_ [.int .i64 n0, .int .i64 n1, .int .i64 n2, .int .i64 n3, .int .i64 n4, .int .i64 n5, .int .i64 n6, .int .i64 n7, .int .i64 n8] _ Try.underlying24 rfl (by kernel_rfl) (R2.out W HI.out) ?_; (· go_simp); (· exact ⟨rfl, HI.out, KeepAll.refl⟩))
        · (go_simp; exact ⟨rfl, HI.out, KeepAll.refl⟩)
        · (go_simp; exact ⟨rfl, HI.out, KeepAll.refl⟩)
        · (go_simp; exact ⟨rfl, HI.out, KeepAll.refl⟩)
        · (go_simp; exact ⟨rfl, HI.out, KeepAll.refl⟩)
        · (simp only [wantedL_none, ↓reduceIte, List.getD_cons_zero, List.getD_cons_succ]; refine yr_load 24 (.tmp 28) (by rfl) ⟨ab, ao + m * 20 + 2, none⟩ ?_ [.int .i64 o0, .int .i64 o1, .int .i64 o2, .int .i64 o3, .int .i64 o4, .int .i64 o5, .int .i64 o6, .int .i64 o7, .int .i64 o8] _ Try.underlying24 rfl (by kernel_rfl) (R3.out W HI.out) ?_; (· go_simp); (· exact ⟨rfl, HI.out, KeepAll.refl⟩))
        · (go_simp; exact ⟨rfl, HI.out, KeepAll.refl⟩)
        · (go_simp; exact ⟨oneR_new HI.out.size, HI.out.alloc HI.out.size _, KeepAll.ofStab (T := Grow) (grow_alloc _ _) (by repeat (first | exact allStab_nil | refine allStab_isV ?_ | refine allStab_oneR ?_))⟩)
      · intro L' σ W h1 hI hp
        clear h1
        simp only [List.getD_cons_zero, List.getD_cons_succ, preF_cons, preF_nil, isV, and_true] at hp
        obtain ⟨s0, s1, s2, s3, s4, s5, s6, s7, s8, s9, s10, s11, s12, s13, s14, s15, s16, s17⟩ := hp
        have HI := Lib.hid hI; have S17 := Lib.hid s17
        clear hI s17
        simp only [List.drop_succ_cons, List.drop_zero]
        go_simp
        clear s0 s1 s2 s3 s4 s5 s6 s7 s8 s9 s10 s11 s12 s13 s14 s15 s16
        generalize σ 17 = v17 at *
        go_wp2_with (at_builtin; refine app_oneR (enc := cgC) (n := 20) (z := .agg (Array.replicate 20 (.int .i64 0))) (bytes := 160) rfl _ _ 97 102 rfl Try.underlying97 inf_Change rfl (by omega) (by omega) cgC_one cgC_len w.heap.size _ L (invC ((h0, h1), (o0, o1, o2, o3, o4, o5, o6, o7, o8), (n0, n1, n2, n3, n4, n5, n6, n7, n8))) wr.heap.size _ 102 rfl (row_mod Hown.out (Mod.ofBelow HI.out) (by simp)) S17.out rfl (by have := Hl.out; have := Hlen.out; omega) (by have := HI.out.size; omega) ?_; intro v' w1 hown2 hg hloc; have hb1 := (HBe.out.trans (HI.out.mono hsz)).grown hg (by have := HI.out.size; omega) (own_ge Hown.out); clear hg hloc)
        refine ⟨rfl, ?_⟩
        go_wp2
        go_roundw
        case rel => exact ⟨k + 1, by omega, by rw [show (m : Int) - 1 = (l.length : Int) - 1 - ((k + 1 : Nat) : Int) by have := Hmi.out; omega], by rw [Hst.out]; exact hown2, hb1⟩
        case measure => simp [intOf] <;> omega
      all_goals exact undef
    · obtain rfl : k = l.length := by omega
      have hmi : (l.length : Int) - 1 - (l.length : Int) = -1 := by omega
      rw [hmi]
      have hrev : l.reverse.take l.length = l.reverse := List.take_of_length_le (by rw [List.length_reverse]; exact Nat.le_refl _)
      rw [hrev] at hown
      have hRl : (l.reverse.map invC).length = l.length := by rw [List.length_map, List.length_reverse]
      generalize l.reverse.map invC = R at *
      have Hown := Lib.hid hown; have HBe := Lib.hid hbel; have HRl := Lib.hid hRl
      clear hown hbel hmi hrev hRl hlt
      go_wp2_with fail
      refine (between_bad _ _ (heap_alloc_new _ _)).mono ?_
      rintro e w2 ⟨rfl, hb2⟩
      have hw2 : Below wr.heap.size wr w2 := (((Below.refl wr.heap.size wr).alloc (Nat.le_refl _) _).trans (hb2.mono (by simp)))
      have HB2 := Lib.hid (HBe.out.trans (hw2.mono hsz))
      have HO2 := Lib.hid (row_mod Hown.out (Mod.ofBelow hw2) (by simp))
      clear hb2 hw2
      go_wp2_with fail
      refine (HI.out _ HB2.out).mono ?_
      rintro e w3 ⟨v3, rfl, hown3, hb3⟩
      have HB3 := Lib.hid (HB2.out.trans (hb3.mono HB2.out.size))
      obtain ⟨A3, c3, rfl, -, hA3⟩ := own_lies hown3
      obtain ⟨A4, c4, rfl, -, hA4⟩ := own_lies (row_mod HO2.out (Mod.ofBelow hb3) (by simp))
      have h5 := eqChange_any A3 c3 A4 c4 R R w3 (by rw [HRl.out]; exact hl2) (by rw [HRl.out]; exact hl2) hA3 hA4
      rw [eqB_self] at h5
      have H5 := Lib.hid h5
      clear h5 hown3 hb3 hA3 hA4
      go_wp2_with fail
      refine H5.out.mono ?_
      rintro e w4 ⟨rfl, hb4⟩
      have HB4 := Lib.hid (HB3.out.trans (hb4.mono HB3.out.size))
      clear hb4
      go_wp2
      go_ret
      exact ⟨rfl, HB4.out⟩

set_option maxRecDepth 100000 in
theorem diffInverts_law {H : Type} {enc : TypeId × Value → H} (W : World) (base : Nat) (args : Array Value) (ds : List (DataW H)) (ps : List MemPlace)
    (hval : ∀ (j : Nat) t v, Try.f9.params[j]? = some t → args[j]? = some v → Value.okWide Try.prog W .any base t v)
    (hA : DataW.TrodAll enc Try.prog W 0 (fun _ => true) true Try.f9.params.toList args.toList ds ps) (hlt : ∀ p ∈ ps, p.block < W.heap.size)
    (hsz : ∀ (j : Nat) t d, Try.f9.params.toList[j]? = some t → ds[j]? = some d → ∀ m ∈ d.weights Try.prog t, m ≤ reachBytes) :
    Calls Try.prog 9 args W fun e W' => e = .returned (.bool true) ∧ Below W.heap.size W W' := by
  rw [Try.params9] at hA hval hsz
  obtain ⟨v0, d0, rfl, rfl, h0⟩ := trodAll_one hA
  obtain ⟨A, n, c, zs, rfl, hnc, hc, hlen, -, hL⟩ := open_slice_flat Try.underlying97 intCells_Change (k := 20) (by kernel_rfl) (by omega) (hval 0 97 _ rfl rfl) h0 hlt
  obtain ⟨l, hl, rfl⟩ := unflat cgI 20 cgI_mk n zs hlen
  have hs := slice_size Try.underlying97 h0 (hsz 0 97 d0 rfl rfl)
  rw [show Try.prog.bytesOf 102 = 160 by kernel_rfl, reach_val] at hs
  rw [show ints (l.flatMap cgI) = l.flatMap cgC by unfold ints cgC; rw [List.map_flatMap]; rfl] at hL
  subst hl
  refine diffInverts_any A c l W hs hL ?_ ?_
  · rintro rfl
    exact List.eq_nil_of_length_eq_zero (slice_none (b := base) (r := .any) Try.underlying97 h0).1
  · rintro rfl
    exact (slice_none (b := base) (r := .any) Try.underlying97 h0).2

set_option maxRecDepth 100000 in
theorem diffInverts_lifted (os : Os) (started : os.Started) (H : Type) (enc : TypeId × Value → H) :
    ReturnsInHanded {} Try.checked os 9 .any (Rows.diffInvertsSpec.pre6 enc Try.prog Try.f9 Rows.diffInvertsRow.domain false) (Rows.diffInvertsSpec.post enc Try.prog Try.f9 false true false false) := by
  refine law_lifted_sized (C := Try.checked) (tb := 4) started own_ laid_ (by kernel_rfl) Try.func9 ?_ rfl rfl (by kernel_rfl) (fun ds h => ?_)
    (ChangeSpec.witness6 (enc := enc) (C := Try.checked) false ⟨#[], #[.slice none 0 0], []⟩ 8 (by kernel_rfl) (by kernel_rfl) (by kernel_rfl) (by kernel_rfl)) ?_
  · intro t ht
    have : t = 97 := by simpa [Try.params9] using ht
    rcases this with rfl
    all_goals exact ⟨by kernel_rfl, of_decide_eq_true (by kernel_rfl)⟩
  · match ds, h with
    | [d0], _ => rfl
  · intro W base args ds ps hval hA hlt hsz
    exact diffInverts_law W base args ds ps hval hA hlt hsz

set_option maxHeartbeats 4000000 in
theorem diffInverts_closed : joinedFacts Try.prog 9 Try.f9 Rows.diffInvertsSpec Rows.diffInvertsRow = true := by
  unfold joinedFacts
  repeat' (with_reducible refine and_intro ?_ ?_)
  · as_aux_lemma => kernel_rfl
  · exact laid_
  · exact mapsRowed_
  · as_aux_lemma => kernel_rfl
  · as_aux_lemma => kernel_rfl
  · as_aux_lemma => kernel_rfl
  · exact stops_
  · as_aux_lemma => kernel_rfl
  · exact stopKnobs_
  · as_aux_lemma => kernel_rfl
  · as_aux_lemma => kernel_rfl
  · as_aux_lemma => kernel_rfl
  · as_aux_lemma => kernel_rfl
  · as_aux_lemma => kernel_rfl
  · as_aux_lemma => kernel_rfl
  · as_aux_lemma => kernel_rfl
  · as_aux_lemma => kernel_rfl
  · as_aux_lemma => kernel_rfl
  · as_aux_lemma => kernel_rfl
  · as_aux_lemma => kernel_rfl
  · as_aux_lemma => kernel_rfl
  · as_aux_lemma => kernel_rfl
  · exact plainKeys_
  · as_aux_lemma => kernel_rfl
  · exact stopsHeard_
  · exact mayEnter_
  · exact liftsFinal_
  · exact make_
  · as_aux_lemma => kernel_rfl
  · as_aux_lemma => kernel_rfl
  · as_aux_lemma => kernel_rfl
  · as_aux_lemma => kernel_rfl

theorem diffInverts_holds : Rows.DiffInvertsSaid :=
  OpenClaim.holds_of_wide 9 Try.f9 rfl rfl rfl rfl rfl rfl rfl ⟨rfl, rfl, rfl, rfl, rfl⟩ rfl rfl rfl rfl rfl (by as_aux_lemma => kernel_rfl) Try.func9 diffInverts_closed
    (of_decide_eq_true (by as_aux_lemma => kernel_rfl)) (by unfold Func.isWrapper; first | (rw [if_pos (by decide +kernel)]; kernel_rfl) | (rw [if_neg (by decide +kernel)]; exact ⟨rfl, rfl⟩))
    (fun os started H enc _ => diffInverts_lifted os started H enc)
#print axioms diffInverts_holds
end Go.Proofs.Ytkcpmoinpdojjaa
