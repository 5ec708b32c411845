import Derived.Test.YtkcpmoinpdojjaaWorldRowsJ27
import Derived.Test.YtkcpmoinpdojjaaWorldRowsJ28
import Derived.Lib.SmallJoins
import Derived.Test.YtkcpmoinpdojjaaRows
/- The law WorldRows returns true for every input. (printed by mk_wrlaw.py) -/
namespace Go.Proofs.Ytkcpmoinpdojjaa
open Go Go.RowKit Go.ChangeShapes Go.WideShapes Go.ChangeAt

attribute [local go_sem] AllFrom.cons_eq AllFrom.nil_eq putF_nil putF_cons wantedL_none wantedL_some OpGoalT OpGoalV OpGoalQ OpGoalA OpGoalK YieldsR preF_nil preF_cons

theorem eqRow_rows (l : List Rw) (v v' : Value) (w : World) {B B' : Nat} (hl : l.length ≤ 1200000000000) (h : w.ownsRow B 51 11 v l.length (l.flatMap rwC)) (h' : w.ownsRow B' 51 11 v' l.length (l.flatMap rwC)) :
    Calls Try.prog 55 #[v, v'] w fun e w' => e = .returned (.bool true) ∧ Below w.heap.size w w' := by
  obtain ⟨A, c, rfl, hc, hA⟩ := own_lies h
  obtain ⟨A', c', rfl, hc', hA'⟩ := own_lies h'
  have := eqRow_any A c A' c' l l w (by omega) (by omega) hA hA'
  rw [eqB_self] at this
  exact this
section
variable {vB : Value} {Lo : Nat} {Z : List Nat} {p q : Nat} {sl sl' : Sl} {L L' : List Rw} {w : World}
/-- What Rows leaves of both. -/
def PZRows (vB : Value) (Lo : Nat) (Z : List Nat) (p q : Nat) (sl : Sl) (L : List Rw) (sl' : Sl) (L' : List Rw) (l : List Rw) (z : Int) (w : World) (e : Ending) (w' : World) : Prop :=
  ∃ v, e = .returned (.tuple #[v, .int .i64 z]) ∧ w'.ownsRow 0 51 11 v l.length (l.flatMap rwC) ∧ Below w.heap.size w w' ∧ PZ vB Lo Z p q sl L sl' L' w' ∧ Below Lo w w' ∧ KeepZ Z w w'
theorem pz_wrows (h : PZ vB Lo Z p q sl L sl' L' w) (n t a : Int) :
    Calls Try.prog 56 #[.pointer (some ⟨p, 0, none⟩), .agg #[.int .i64 n, .int .i64 t, .int .i64 a]] w (PZRows vB Lo Z p q sl L sl' L' (if qcheck n t a = 0 then rowsM L n t a else []) (qcheck n t a) w) := by
  obtain ⟨F, G, h'⟩ := id h
  refine (wrows_any h'.a n t a).mono ?_
  rintro e w' ⟨v, rfl, ho, hb⟩
  exact ⟨v, rfl, row_base ho (fun k _ => Nat.zero_le k), hb, pz_below h hb⟩
theorem pz_zrows (h : PZ vB Lo Z p q sl L sl' L' w) (hO : WOk sl' L') (n t a : Int) (hn : InR n) :
    Calls Try.prog 57 #[.pointer (some ⟨q, 0, none⟩), .agg #[.int .i64 n, .int .i64 t, .int .i64 a]] w (PZRows vB Lo Z p q sl L sl' L' (if qcheck n t a = 0 then rowsM L' n t a else []) (qcheck n t a) w) := by
  obtain ⟨F, G, h'⟩ := id h
  refine (zrows_any h'.b hO.len n t a hn).mono ?_
  rintro e w' ⟨v, rfl, ho, hb⟩
  exact ⟨v, rfl, row_base ho (fun k _ => Nat.zero_le k), hb, pz_below h hb⟩
end

set_option maxRecDepth 100000 in
set_option maxHeartbeats 8000000 in
theorem worldRows_ok (A : Option Addr) (c : Nat) (l : List Ov) (qn qt qa : Int) (hn : InR qn) (w : World) (hl : l.length * 128 ≤ 140737488351232) (hA : Lies w w.heap.size A (l.flatMap opC)) :
    Calls Try.prog 11 #[.slice A l.length c, .agg #[.int .i64 qn, .int .i64 qt, .int .i64 qa]] w fun e w' => e = .returned (.bool true) ∧ Below w.heap.size w w' := by
  obtain ⟨w0, hw0, hb0, hz0, hs0⟩ := box1 w (.cells #[.int .i64 qn, .int .i64 qt, .int .i64 qa] 26)
  have H1 := Lib.hid (worldNew_any w0)
  have hl2 : l.length ≤ 1200000000000 := by omega
  have HB0 := Lib.hid hb0; have HZ0 := Lib.hid hz0; have HS0 := Lib.hid hs0; have HA := Lib.hid hA; have HN := Lib.hid hn
  clear hb0 hz0 hs0 hA hn
  clear hl
  go_enter Try.func11, Try.ntmps11
  go_wp2_with fail
  clear hw0
  refine H1.out.mono ?_
  rintro e w1 ⟨p, F, rfl, hW, hF, hb⟩
  obtain ⟨w2, hw2⟩ : ∃ w2, w1.alloc (.cells #[.slice none 0 0, .slice none 0 0, .slice none 0 0, .slice none 0 0] 72) = w2 := ⟨_, rfl⟩
  obtain ⟨hP, hB⟩ := pz_start hW hF hb hw2
  have HP0 := Lib.hid hP; have HBB := Lib.hid hB
  clear hP hB
  clear hW hF hb H1
  go_wp2_with fail
  clear hw2
  generalize w1.heap.size = q at *
  go_loopw [20] (fun i wr => ∃ (k : Nat) (sl : Sl) (R : List Rw), k ≤ l.length ∧ i = .int .i64 k ∧ PZ (.slice none 0 0) w0.heap.size [] p q sl R sl R wr ∧ Below w0.heap.size w0 wr) (fun i _ => l.length - (intOf i).toNat)
  case atStart => exact ⟨0, [], [], by omega, rfl, HP0.out, HBB.out⟩
  case round =>
    obtain ⟨k, sl, R, hk, rfl, hP, hB⟩ := hrel
    clear HP0 HBB
    have hsz := hB.size
    have hBw := HB0.out.trans (hB.mono HB0.out.size)
    have hzr := (Mod.ofBelow hB).keep HZ0.out (by simp)
    by_cases hlt : k < l.length
    · obtain ⟨ab, ao, rfl, hal, hc⟩ := HA.out.rec_at opC_len (by omega) hlt
      have hq : ∀ j u, (opC l[k])[j]? = some u → wr.cell? ((⟨ab, ao + k * 16, none⟩ : Addr).add j) = some u := fun j u hu => (hBw.cell (p := (⟨ab, ao + k * 16, none⟩ : Addr).add j) (by rw [add_block]; exact hal)).trans (by first | exact hc j u hu | (have := hc j u hu; rw [Addr.add_mid]; exact this))
      generalize l[k] = x at *
      obtain ⟨d, ⟨K, a0, a1, a2, a3, a4, a5, a6, a7⟩, ⟨s, g⟩, ⟨ts, tg⟩, kd, n⟩ := x
      obtain ⟨w3, hw3⟩ : ∃ w3, w3 = wr.alloc (.cells #[.int .i64 d, .int .i64 K, .int .i64 a0, .int .i64 a1, .int .i64 a2, .int .i64 a3, .int .i64 a4, .int .i64 a5, .int .i64 a6, .int .i64 a7, .int .i64 s, .int .i64 g, .int .i64 ts, .int .i64 tg, .int .i64 kd, .int .i64 n] 74) := ⟨_, rfl⟩
      have hk3 : w3.heap[wr.heap.size]? = some (.cells #[.int .i64 d, .int .i64 K, .int .i64 a0, .int .i64 a1, .int .i64 a2, .int .i64 a3, .int .i64 a4, .int .i64 a5, .int .i64 a6, .int .i64 a7, .int .i64 s, .int .i64 g, .int .i64 ts, .int .i64 tg, .int .i64 kd, .int .i64 n] 74 (0, 0)) := by rw [hw3]; exact heap_alloc_new _ _
      have hb3 : Below wr.heap.size wr w3 := by rw [hw3]; exact (Below.refl _ _).alloc (Nat.le_refl _) _
      have hP3 := Sep.below (own_W _ _ _) (own_Z _ _ _ _) hP hb3
      have hB3 := hB.trans hP3.2.1
      have HP := Lib.hid hq; have HO := Lib.hid (opC_one (d, (K, a0, a1, a2, a3, a4, a5, a6, a7), (s, g), (ts, tg), kd, n)); have HW3 := Lib.hid hw3
      have H7 := Lib.hid (did_any hP3.1 d K a0 a1 a2 a3 a4 a5 a6 a7 s g ts tg kd n)
      have hki : (k : Int) < (l.length : Int) := by omega
      have c0 := blk_cell hk3 0
      have c1 := blk_cell hk3 1
      have c2 := blk_cell hk3 2
      have c3 := blk_cell hk3 3
      have c4 := blk_cell hk3 4
      have c5 := blk_cell hk3 5
      have c6 := blk_cell hk3 6
      have c7 := blk_cell hk3 7
      have c8 := blk_cell hk3 8
      have c9 := blk_cell hk3 9
      have c10 := blk_cell hk3 10
      have c11 := blk_cell hk3 11
      have c12 := blk_cell hk3 12
      have c13 := blk_cell hk3 13
      have c14 := blk_cell hk3 14
      have c15 := blk_cell hk3 15
      simp only [List.getElem?_toArray, List.getElem?_cons_zero, List.getElem?_cons_succ] at c0 c1 c2 c3 c4 c5 c6 c7 c8 c9 c10 c11 c12 c13 c14 c15
      have cl := blk_lt hk3
      have HB3 := Lib.hid hB3
      clear hB3
      clear hq hc hw3 hP hB hP3 hb3 hk3 hBw hzr
      go_wp2_with (first | (refine wpList_load_flat rfl 74 (.tmp 22) rfl _ rfl (opC (d, (K, a0, a1, a2, a3, a4, a5, a6, a7), (s, g), (ts, tg), kd, n)) _ Try.underlying74 rfl (sz_Op _) HP.out ?_) | (refine wpList_store_new rfl 74 (.tmp 8) (.tmp 23) rfl wr (ints [0, 0, 0, 0, 0, 0, 0, 0, 0, 0, 0, 0, 0, 0, 0, 0]) (opC (d, (K, a0, a1, a2, a3, a4, a5, a6, a7), (s, g), (ts, tg), kd, n)) 74 rfl rfl rfl (sz_Op _) HO.out ?_; rw [show (opC (d, (K, a0, a1, a2, a3, a4, a5, a6, a7), (s, g), (ts, tg), kd, n)).toArray = #[.int .i64 d, .int .i64 K, .int .i64 a0, .int .i64 a1, .int .i64 a2, .int .i64 a3, .int .i64 a4, .int .i64 a5, .int .i64 a6, .int .i64 a7, .int .i64 s, .int .i64 g, .int .i64 ts, .int .i64 tg, .int .i64 kd, .int .i64 n] from rfl, ← HW3.out]; clear HW3))
      clear c0 c1 c2 c3 c4 c5 c6 c7 c8 c9 c10 c11 c12 c13 c14 c15 cl
      refine H7.out.mono ?_
      rintro e w4 ⟨rfl, ⟨sl1, R1, h4⟩, hb4, -⟩
      have hB4 := HB3.out.trans hb4
      have hz4 := (Mod.ofBelow hB4).keep HZ0.out (by simp)
      have hO4 := h4.ok
      have hl4 : (if qcheck qn qt qa = 0 then rowsM R1 qn qt qa else []).length ≤ 60 := by
        split
        · exact Nat.le_trans (List.length_filter_le _ _) hO4.len
        · simp
      have H8 := Lib.hid (pz_wrows h4 qn qt qa)
      have r0 := blk_cell hz4 0
      have r1 := blk_cell hz4 1
      have r2 := blk_cell hz4 2
      simp only [List.getElem?_toArray, List.getElem?_cons_zero, List.getElem?_cons_succ] at r0 r1 r2
      have rl := blk_lt hz4
      have HB4 := Lib.hid hB4; have HO4 := Lib.hid hO4
      clear hB4 hO4
      clear hb4 hz4 h4
      have hz9 : ∀ W, PZ (.slice none 0 0) w0.heap.size [] p q sl1 R1 sl1 R1 W → Calls Try.prog 57 #[.pointer (some ⟨q, 0, none⟩), .agg #[.int .i64 qn, .int .i64 qt, .int .i64 qa]] W (PZRows (.slice none 0 0) w0.heap.size [] p q sl1 R1 sl1 R1 (if qcheck qn qt qa = 0 then rowsM R1 qn qt qa else []) (qcheck qn qt qa) W) := fun W h => pz_zrows h HO4.out qn qt qa HN.out
      generalize (if qcheck qn qt qa = 0 then rowsM R1 qn qt qa else []) = lr at *
      generalize qcheck qn qt qa = ze at *
      have HZ9 := Lib.hid hz9
      clear hz9
      go_wp2_with fail
      refine H8.out.mono ?_
      rintro e w5 ⟨v5, rfl, ho5, hb5, h5, hB5, -⟩
      have hB5 := HB4.out.trans hB5
      have hz5 := (Mod.ofBelow hB5).keep HZ0.out (by simp)
      have H9 := Lib.hid (HZ9.out _ h5)
      clear r0 r1 r2 rl
      have r0 := blk_cell hz5 0
      have r1 := blk_cell hz5 1
      have r2 := blk_cell hz5 2
      simp only [List.getElem?_toArray, List.getElem?_cons_zero, List.getElem?_cons_succ] at r0 r1 r2
      have rl := blk_lt hz5
      have HB5 := Lib.hid hB5; have Ho5 := Lib.hid ho5
      clear hB5 ho5
      clear hb5 h5 hz5
      go_wp2_with fail
      refine H9.out.mono ?_
      rintro e w6 ⟨v6, rfl, ho6, hb6, h6, hB6, -⟩
      have hB6 := HB5.out.trans hB6
      have ho56 := row_mod Ho5.out (Mod.ofBelow hb6) (by simp)
      have H10 := Lib.hid (eqRow_rows lr v5 v6 w6 (by omega) ho56 ho6)
      have HB6 := Lib.hid hB6; have H6 := Lib.hid h6
      clear hB6 h6
      clear ho6 ho56 hb6 r0 r1 r2 rl
      go_wp2_with fail
      refine H10.out.mono ?_
      rintro e w7 ⟨rfl, hb7⟩
      have h7 := pz_below H6.out hb7
      have hB7 := HB6.out.trans h7.2.1
      have hF := h7.1
      have HF := Lib.hid hF; have HB7 := Lib.hid hB7
      clear hF hB7
      clear hb7 h7
      go_wp2
      go_roundw
      case rel => exact ⟨k + 1, sl1, R1, by omega, by go_num, HF.out, HB7.out⟩
      case measure => simp [intOf]; omega
      all_goals exact undef
    · obtain rfl : k = l.length := by omega
      have H14 := Lib.hid (pz_wkill hP (-1) 0)
      have hO := hP.ok
      have HNe := Lib.hid (killE_neg hO)
      have HBw := Lib.hid hBw; have HB := Lib.hid hB
      clear hBw hB
      clear hP hO hzr
      go_wp2_with fail
      refine H14.out.mono ?_
      rintro e w5 ⟨rfl, -, hb5, -⟩
      rw [HNe.out]
      have HB5 := Lib.hid (HB0.out.trans ((HB.out.trans hb5).mono HB0.out.size))
      clear hb5
      go_wp2
      go_ret
      exact ⟨rfl, HB5.out⟩

set_option maxRecDepth 100000 in
theorem worldRows_law {H : Type} {enc : TypeId × Value → H} (W : World) (base : Nat) (args : Array Value) (ds : List (DataW H)) (ps : List MemPlace)
    (hval : ∀ (j : Nat) t v, Try.f11.params[j]? = some t → args[j]? = some v → Value.okWide Try.prog W .any base t v)
    (hA : DataW.TrodAll enc Try.prog W 0 (fun _ => true) true Try.f11.params.toList args.toList ds ps) (hlt : ∀ p ∈ ps, p.block < W.heap.size)
    (hsz : ∀ (j : Nat) t d, Try.f11.params.toList[j]? = some t → ds[j]? = some d → ∀ m ∈ d.weights Try.prog t, m ≤ reachBytes) :
    Calls Try.prog 11 args W fun e W' => e = .returned (.bool true) ∧ Below W.heap.size W W' := by
  rw [Try.params11] at hA hval hsz
  obtain ⟨v0, v1, d0, d1, p0, p1, rfl, rfl, rfl, h0, h1⟩ := trodAll_two hA
  obtain ⟨A, n, c, zs, rfl, hnc, hc, hlen, -, hL⟩ := open_slice_flat Try.underlying63 intCells_Op (k := 16) (by kernel_rfl) (by omega) (hval 0 63 _ rfl rfl) h0 (fun p hp => hlt p (by simp [hp]))
  obtain ⟨l, hl, rfl⟩ := unflat opI 16 opI_mk n zs hlen
  have hs := slice_size Try.underlying63 h0 (hsz 0 63 d0 rfl rfl)
  rw [show Try.prog.bytesOf 74 = 128 by kernel_rfl, reach_val] at hs
  rw [show ints (l.flatMap opI) = l.flatMap opC by unfold ints opC; rw [List.map_flatMap]; rfl] at hL
  subst hl
  obtain ⟨v0, v1, v2, y0, y1, y2, n, rfl, rfl, rfl, t0, t1, t2⟩ := Joins.open_agg3 Try.underlying26 (by kernel_rfl) (by kernel_rfl) (hval 1 26 _ rfl rfl) h1
  obtain ⟨a, e0, -, hw⟩ := DataW.trod_int Try.underlying3 t0
  cases e0
  obtain ⟨b, e1, -⟩ := DataW.trod_int Try.underlying3 t1
  cases e1
  obtain ⟨c2, e2, -⟩ := DataW.trod_int Try.underlying3 t2
  cases e2
  exact worldRows_ok A c l a b c2 (inR_of_wf hw) W hs hL

set_option maxRecDepth 100000 in
theorem worldRows_lifted (os : Os) (started : os.Started) (H : Type) (enc : TypeId × Value → H) :
    ReturnsInHanded {} Try.checked os 11 .any (Rows.worldRowsSpec.pre6 enc Try.prog Try.f11 Rows.worldRowsRow.domain false) (Rows.worldRowsSpec.post enc Try.prog Try.f11 false true false false) := by
  refine law_lifted_sized (C := Try.checked) (tb := 4) started own_ laid_ (by kernel_rfl) Try.func11 ?_ rfl rfl (by kernel_rfl) (fun ds h => ?_)
    (ChangeSpec.witness6 (enc := enc) (C := Try.checked) false ⟨#[], #[.slice none 0 0, .agg #[.int .i64 0, .int .i64 0, .int .i64 0]], []⟩ 8 (by kernel_rfl) (by kernel_rfl) (by kernel_rfl) (by kernel_rfl)) ?_
  · intro t ht
    have : t = 63 ∨ t = 26 := by simpa [Try.params11] using ht
    rcases this with rfl | rfl
    all_goals exact ⟨by kernel_rfl, of_decide_eq_true (by kernel_rfl)⟩
  · match ds, h with
    | [d0, d1], _ => rfl
  · intro W base args ds ps hval hA hlt hsz
    exact worldRows_law W base args ds ps hval hA hlt hsz

set_option maxHeartbeats 4000000 in
theorem worldRows_closed : joinedFacts Try.prog 11 Try.f11 Rows.worldRowsSpec Rows.worldRowsRow = true := by
  unfold joinedFacts
  repeat' (with_reducible refine and_intro ?_ ?_)
  · as_aux_lemma => kernel_rfl
  · exact laid_
  · exact mapsRowed_
  · as_aux_lemma => kernel_rfl
  · as_aux_lemma => kernel_rfl
  · as_aux_lemma => kernel_rfl
  · exact stops_
  · as_aux_lemma => kernel_rfl
  · exact stopKnobs_
  · as_aux_lemma => kernel_rfl
  · as_aux_lemma => kernel_rfl
  · as_aux_lemma => kernel_rfl
  · as_aux_lemma => kernel_rfl
  · as_aux_lemma => kernel_rfl
  · as_aux_lemma => kernel_rfl
  · as_aux_lemma => kernel_rfl
  · as_aux_lemma => kernel_rfl
  · as_aux_lemma => kernel_rfl
  · as_aux_lemma => kernel_rfl
  · as_aux_lemma => kernel_rfl
  · as_aux_lemma => kernel_rfl
  · as_aux_lemma => kernel_rfl
  · exact plainKeys_
  · as_aux_lemma => kernel_rfl
  · exact stopsHeard_
  · exact mayEnter_
  · exact liftsFinal_
  · exact make_
  · as_aux_lemma => kernel_rfl
  · as_aux_lemma => kernel_rfl
  · as_aux_lemma => kernel_rfl
  · as_aux_lemma => kernel_rfl

theorem worldRows_holds : Rows.WorldRowsSaid :=
  OpenClaim.holds_of_wide 11 Try.f11 rfl rfl rfl rfl rfl rfl rfl ⟨rfl, rfl, rfl, rfl, rfl⟩ rfl rfl rfl rfl rfl (by as_aux_lemma => kernel_rfl) Try.func11 worldRows_closed
    (of_decide_eq_true (by as_aux_lemma => kernel_rfl)) (by unfold Func.isWrapper; first | (rw [if_pos (by decide +kernel)]; kernel_rfl) | (rw [if_neg (by decide +kernel)]; exact ⟨rfl, rfl⟩))
    (fun os started H enc _ => worldRows_lifted os started H enc)
#print axioms worldRows_holds
end Go.Proofs.Ytkcpmoinpdojjaa
