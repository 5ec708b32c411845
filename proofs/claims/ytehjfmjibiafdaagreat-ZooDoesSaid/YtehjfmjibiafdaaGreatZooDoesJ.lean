import Derived.Test.YtehjfmjibiafdaaGreatRows
import Derived.Test.YtehjfmjibiafdaaGreatZooDoesJ1
import Derived.Test.YtehjfmjibiafdaaGreatZooDoesJ54
import Derived.Lib.SmallJoins
/- The law ZooDoes returns true for every input. (printed by mk_zlaw.py) -/
namespace Go.Proofs.YtehjfmjibiafdaaGreat
open Go Go.RowKit Go.ChangeShapes Go.WideShapes Go.ChangeAt

attribute [local go_sem] AllFrom.cons_eq AllFrom.nil_eq putF_nil putF_cons wantedL_none wantedL_some OpGoalT OpGoalV OpGoalQ OpGoalA OpGoalK YieldsR preF_nil preF_cons

set_option maxRecDepth 100000 in
set_option maxHeartbeats 8000000 in
theorem zooDoes_ok (A : Option Addr) (c : Nat) (l : List Ov) (w : World) (hl : l.length * 128 ≤ 140737488351232) (hA : Lies w w.heap.size A (l.flatMap opC)) (hR : ∀ x ∈ l, HdR x.2.2.1 ∧ HdR x.2.2.2.1) :
    Calls Tryz.prog 5 #[.slice A l.length c] w fun e w' => e = .returned (.bool true) ∧ Below w.heap.size w w' := by
  have H1 := Lib.hid (zooNew_any w)
  have hl2 : l.length ≤ 1200000000000 := by omega
  have HA := Lib.hid hA; have HR := Lib.hid hR
  clear hA hR
  clear hl
  go_enter Tryz.func5, Tryz.ntmps5
  go_wp2_with fail
  refine H1.out.mono ?_
  rintro e w1 ⟨z, p, f, F, rfl, hW, hF, hb⟩
  obtain ⟨w2, hw2⟩ : ∃ w2, w1.alloc (.cells #[.slice none 0 0, .slice none 0 0, .slice none 0 0, .slice none 0 0] 47) = w2 := ⟨_, rfl⟩
  obtain ⟨hP, hB⟩ := pvq_start hW hF hb hw2
  have HP0 := Lib.hid hP; have HBB := Lib.hid hB
  clear hP hB
  clear hW hF hb H1
  go_wp2_with fail
  clear hw2
  generalize w1.heap.size = q at *
  go_loopw [20] (fun i wr => ∃ (k : Nat) (sl : Sl) (R : List Rw) (B : List Bd), k ≤ l.length ∧ i = .int .i64 k ∧ PVQ w.heap.size [] z p f q sl R B sl R B wr ∧ (∀ b ∈ B, b.1 ∈ allS sl) ∧ Below w.heap.size w wr) (fun i _ => l.length - (intOf i).toNat)
  case atStart => exact ⟨0, [], [], [], by omega, rfl, HP0.out, by simp, HBB.out⟩
  case round =>
    obtain ⟨k, sl, R, B, hk, rfl, hP, hC, hB⟩ := hrel
    clear HP0 HBB
    have hsz := hB.size
    by_cases hlt : k < l.length
    · skip
      obtain ⟨ab, ao, rfl, hal, hc⟩ := HA.out.rec_at opC_len (by omega) hlt
      have hq : ∀ j u, (opC l[k])[j]? = some u → wr.cell? ((⟨ab, ao + k * 16, none⟩ : Addr).add j) = some u := fun j u hu => (hB.cell (p := (⟨ab, ao + k * 16, none⟩ : Addr).add j) (by rw [add_block]; exact hal)).trans (by first | exact hc j u hu | (have := hc j u hu; rw [Addr.add_mid]; exact this))
      have hxr := HR.out _ (List.getElem_mem hlt)
      have hki : (k : Int) < (l.length : Int) := by omega
      generalize l[k] = x at *
      obtain ⟨d, ⟨K, a0, a1, a2, a3, a4, a5, a6, a7⟩, ⟨s, g⟩, ⟨ts, tg⟩, kd, n⟩ := x
      have hO := hP.ok hC
      obtain ⟨sl', R', B', r0, r1, e0, hD⟩ := do_any hO d K a0 a1 a2 a3 a4 a5 a6 a7 s g ts tg kd n hxr.1 hxr.2
      obtain ⟨w3, hw3, hb3, hk3, hs3⟩ := box1 wr (.cells #[.int .i64 d, .int .i64 K, .int .i64 a0, .int .i64 a1, .int .i64 a2, .int .i64 a3, .int .i64 a4, .int .i64 a5, .int .i64 a6, .int .i64 a7, .int .i64 s, .int .i64 g, .int .i64 ts, .int .i64 tg, .int .i64 kd, .int .i64 n] 52)
      have hP3 := Sep.fresh (own_V _ _ _ _ _ _) (own_Q _ _ _ _) hP hb3 wr.heap.size (Nat.le_refl _) (by omega)
      have hB3 := hB.trans (pvq_below hP hb3).2.1
      have H7 := Lib.hid (pv_do hP3 hD)
      have hC' := hD.c
      have c0 := blk_cell hk3 0
      have c1 := blk_cell hk3 1
      have c2 := blk_cell hk3 2
      have c3 := blk_cell hk3 3
      have c4 := blk_cell hk3 4
      have c5 := blk_cell hk3 5
      have c6 := blk_cell hk3 6
      have c7 := blk_cell hk3 7
      have c8 := blk_cell hk3 8
      have c9 := blk_cell hk3 9
      have c10 := blk_cell hk3 10
      have c11 := blk_cell hk3 11
      have c12 := blk_cell hk3 12
      have c13 := blk_cell hk3 13
      have c14 := blk_cell hk3 14
      have c15 := blk_cell hk3 15
      simp only [List.getElem?_toArray, List.getElem?_cons_zero, List.getElem?_cons_succ] at c0 c1 c2 c3 c4 c5 c6 c7 c8 c9 c10 c11 c12 c13 c14 c15
      have cl := blk_lt hk3
      have HQ := Lib.hid hq; have HB3 := Lib.hid hB3; have Hk3 := Lib.hid hk3; have Hw3 := Lib.hid hw3; have HD := Lib.hid hD; have Hs3 := Lib.hid hs3; have HC' := Lib.hid hC'; have Hlt := Lib.hid hlt
      clear hq hB3 hk3 hw3 hD hs3 hC' hlt
      clear hc hP hB hP3 hb3 hxr hO
      go_wp2_with (first | (refine wpList_load_flat rfl 52 (.tmp 22) rfl _ rfl (opC (d, (K, a0, a1, a2, a3, a4, a5, a6, a7), (s, g), (ts, tg), kd, n)) _ Tryz.underlying52 rfl (sz_Op _) HQ.out ?_) | (refine wpList_store_new rfl 52 (.tmp 6) (.tmp 23) rfl wr (ints [0, 0, 0, 0, 0, 0, 0, 0, 0, 0, 0, 0, 0, 0, 0, 0]) (opC (d, (K, a0, a1, a2, a3, a4, a5, a6, a7), (s, g), (ts, tg), kd, n)) 52 rfl rfl rfl (sz_Op _) (opC_one _) ?_; rw [show (opC (d, (K, a0, a1, a2, a3, a4, a5, a6, a7), (s, g), (ts, tg), kd, n)).toArray = #[.int .i64 d, .int .i64 K, .int .i64 a0, .int .i64 a1, .int .i64 a2, .int .i64 a3, .int .i64 a4, .int .i64 a5, .int .i64 a6, .int .i64 a7, .int .i64 s, .int .i64 g, .int .i64 ts, .int .i64 tg, .int .i64 kd, .int .i64 n] from rfl, Hw3.out]) | fail)
      clear c0 c1 c2 c3 c4 c5 c6 c7 c8 c9 c10 c11 c12 c13 c14 c15 cl
      refine H7.out.mono ?_
      rintro e w4 ⟨rfl, h4, hb4, hk4⟩
      obtain ⟨w5, hw5, hb5, hz5, hs5⟩ := box1 w4 (.cells #[.int .i64 r0, .int .i64 r1] 41)
      have hP5 := Sep.fresh (own_V _ _ _ _ _ _) (own_Q _ _ _ _) h4 hb5 w4.heap.size (Nat.le_refl _) (by omega)
      have hB5 := HB3.out.trans (hb4.trans (pvq_below h4 hb5).2.1)
      have hk5 := (Mod.ofBelow hb5).keep (hk4 _ (by simp) _ Hk3.out) (by simp)
      have H8 := Lib.hid (pq_do hP5 HD.out)
      have c0 := blk_cell hk5 0
      have c1 := blk_cell hk5 1
      have c2 := blk_cell hk5 2
      have c3 := blk_cell hk5 3
      have c4 := blk_cell hk5 4
      have c5 := blk_cell hk5 5
      have c6 := blk_cell hk5 6
      have c7 := blk_cell hk5 7
      have c8 := blk_cell hk5 8
      have c9 := blk_cell hk5 9
      have c10 := blk_cell hk5 10
      have c11 := blk_cell hk5 11
      have c12 := blk_cell hk5 12
      have c13 := blk_cell hk5 13
      have c14 := blk_cell hk5 14
      have c15 := blk_cell hk5 15
      simp only [List.getElem?_toArray, List.getElem?_cons_zero, List.getElem?_cons_succ] at c0 c1 c2 c3 c4 c5 c6 c7 c8 c9 c10 c11 c12 c13 c14 c15
      have cl := blk_lt hk5
      have HB5 := Lib.hid hB5; have Hz5 := Lib.hid hz5
      clear hB5 hz5
      clear h4 hb4 hk4 hb5 hP5 hk5
      go_wp2_with fail
      clear hw5
      clear c0 c1 c2 c3 c4 c5 c6 c7 c8 c9 c10 c11 c12 c13 c14 c15 cl
      refine H8.out.mono ?_
      rintro e w6 ⟨rfl, h6, hb6, hk6⟩
      obtain ⟨w7, hw7, hb7, hz7, hs7⟩ := box1 w6 (.cells #[.int .i64 r0, .int .i64 r1] 41)
      have hP7 := (pvq_below (Sep.drop (Y := []) h6 (by simp)) hb7).1
      have hB7 := HB5.out.trans (hb6.trans (pvq_below h6 hb7).2.1)
      have hy7 := (Mod.ofBelow hb7).keep (hk6 _ (by simp) _ Hz5.out) (by simp)
      have hO7 := hP7.ok HC'.out
      have H9 := Lib.hid (pv_state hP7 hO7)
      have hcmp : ∀ w, (binOp .neq 41 (.agg #[.int .i64 r0, .int .i64 r1]) (.agg #[.int .i64 r0, .int .i64 r1])).run Tryz.prog w = .ok (.bool false) w := fun w => by rw [neqHandle, eqB_self]; rfl
      have y0 := blk_cell hy7 0
      have y1 := blk_cell hy7 1
      simp only [List.getElem?_toArray, List.getElem?_cons_zero, List.getElem?_cons_succ] at y0 y1
      have yl := blk_lt hy7
      have u0 := blk_cell hz7 0
      have u1 := blk_cell hz7 1
      simp only [List.getElem?_toArray, List.getElem?_cons_zero, List.getElem?_cons_succ] at u0 u1
      have ul := blk_lt hz7
      have HB7 := Lib.hid hB7; have HP7 := Lib.hid hP7; have HO7 := Lib.hid hO7
      clear hB7 hP7 hO7
      clear h6 hb6 hk6 hb7 hy7 hz7
      go_wp2_with fail
      clear hw7 y0 y1 yl u0 u1 ul hcmp
      refine H9.out.mono ?_
      rintro e w8 ⟨v1, v2, v3, rfl, g1, g2, g3, hb8⟩
      have h8 := pvq_below HP7.out hb8
      have hB8 := HB7.out.trans h8.2.1
      have hP8 := h8.1
      have H10 := Lib.hid (pq_state hP8 HO7.out)
      have HB8 := Lib.hid hB8; have HP8 := Lib.hid hP8; have G1 := Lib.hid g1; have G2 := Lib.hid g2; have G3 := Lib.hid g3
      clear hB8 hP8 g1 g2 g3
      clear h8 hb8
      go_wp2_with fail
      refine H10.out.mono ?_
      rintro e w9 ⟨u1, u2, u3, rfl, k1, k2, k3, hb9⟩
      have h9 := pvq_below HP8.out hb9
      have hB9 := HB8.out.trans h9.2.1
      have hP9 := h9.1
      have H11 := Lib.hid (same_any HO7.out (row_mod G1.out (Mod.ofBelow hb9) (by simp)) (row_mod G2.out (Mod.ofBelow hb9) (by simp)) (row_mod G3.out (Mod.ofBelow hb9) (by simp)) k1 k2 k3)
      have HB9 := Lib.hid hB9; have HP9 := Lib.hid hP9
      clear hB9 hP9
      clear h9 hb9 k1 k2 k3
      go_wp2_with fail
      refine H11.out.mono ?_
      rintro e w10 ⟨rfl, hb10⟩
      have h10 := pvq_below HP9.out hb10
      have hB10 := HB9.out.trans h10.2.1
      have hP10 := h10.1
      have HB10 := Lib.hid hB10; have HP10 := Lib.hid hP10
      clear hB10 hP10
      clear h10 hb10
      have hlt := Hlt.out
      go_wp2
      go_roundw
      case rel => exact ⟨k + 1, sl', R', B', by omega, by go_num, HP10.out, HC'.out, HB10.out⟩
      case measure => simp [intOf]; omega
    · obtain rfl : k = l.length := by omega
      have H14 := Lib.hid (Sep.callL (own_V _ _ _ _ _ _) (own_Q _ _ _ _) hP fun _ hF => vdo_other hF 0 0 0 0 0 0 0 0 0 0 0 0 0 0 0 0 (by decide) (by decide) (by decide) (by decide) (by decide) (by decide))
      have HB := Lib.hid hB
      clear hB
      clear hP hC
      go_wp2_with fail
      refine H14.out.mono ?_
      rintro e w5 ⟨rfl, -, hb5, -⟩
      have HB5 := Lib.hid (HB.out.trans hb5)
      have HB6 := Lib.hid (fun o => ((HB5.out.alloc HB5.out.size o) : Below w.heap.size w (w5.alloc o)))
      clear hb5
      go_wp2
      go_ret
      exact ⟨rfl, HB6.out _⟩

set_option maxRecDepth 100000 in
theorem zooDoes_law {H : Type} {enc : TypeId × Value → H} (W : World) (base : Nat) (args : Array Value) (ds : List (DataW H)) (ps : List MemPlace)
    (hval : ∀ (j : Nat) t v, Tryz.f5.params[j]? = some t → args[j]? = some v → Value.okWide Tryz.prog W .any base t v)
    (hA : DataW.TrodAll enc Tryz.prog W 0 (fun _ => true) true Tryz.f5.params.toList args.toList ds ps) (hlt : ∀ p ∈ ps, p.block < W.heap.size)
    (hsz : ∀ (j : Nat) t d, Tryz.f5.params.toList[j]? = some t → ds[j]? = some d → ∀ m ∈ d.weights Tryz.prog t, m ≤ reachBytes) :
    Calls Tryz.prog 5 args W fun e W' => e = .returned (.bool true) ∧ Below W.heap.size W W' := by
  rw [Tryz.params5] at hA hval hsz
  obtain ⟨v0, d0, rfl, rfl, h0⟩ := trodAll_one hA
  obtain ⟨A, n, c, zs, rfl, hnc, hc, hlen, hin, hL⟩ := open_slice_flat Tryz.underlying37 intCells_Op (k := 16) (by kernel_rfl) (by omega) (hval 0 37 _ rfl rfl) h0 hlt
  obtain ⟨l, hl, rfl⟩ := unflat opI 16 opI_mk n zs hlen
  have hs := slice_size Tryz.underlying37 h0 (hsz 0 37 d0 rfl rfl)
  rw [show Tryz.prog.bytesOf 52 = 128 by kernel_rfl, reach_val] at hs
  rw [show ints (l.flatMap opI) = l.flatMap opC by unfold ints opC; rw [List.map_flatMap]; rfl] at hL
  subst hl
  have hR : ∀ x ∈ l, HdR x.2.2.1 ∧ HdR x.2.2.2.1 := fun x hx => by
    have hz : ∀ z ∈ opI x, InR z := fun z hz => hin z (List.mem_flatMap.2 ⟨x, hx, hz⟩)
    obtain ⟨d, ⟨K, a0, a1, a2, a3, a4, a5, a6, a7⟩, ⟨s, g⟩, ⟨ts, tg⟩, kd, n⟩ := x
    exact ⟨⟨hz s (by simp [opI, btI, hdI]), hz g (by simp [opI, btI, hdI])⟩, ⟨hz ts (by simp [opI, btI, hdI]), hz tg (by simp [opI, btI, hdI])⟩⟩
  exact zooDoes_ok A c l W hs hL hR

set_option maxRecDepth 100000 in
theorem zooDoes_lifted (os : Os) (started : os.Started) (H : Type) (enc : TypeId × Value → H) :
    ReturnsInHanded {} Tryz.checked os 5 .any (Rows.zooDoesSpec.pre6 enc Tryz.prog Tryz.f5 Rows.zooDoesRow.domain false) (Rows.zooDoesSpec.post enc Tryz.prog Tryz.f5 false true false false) := by
  refine law_lifted_sized (C := Tryz.checked) (tb := 4) started own_ laid_ (by kernel_rfl) Tryz.func5 ?_ rfl rfl (by kernel_rfl) (fun ds h => ?_)
    (ChangeSpec.witness6 (enc := enc) (C := Tryz.checked) false ⟨#[], #[.slice none 0 0], []⟩ 8 (by kernel_rfl) (by kernel_rfl) (by kernel_rfl) (by kernel_rfl)) ?_
  · intro t ht
    have : t = 37 := by simpa [Tryz.params5] using ht
    rcases this with rfl
    all_goals exact ⟨by kernel_rfl, of_decide_eq_true (by kernel_rfl)⟩
  · match ds, h with
    | [d0], _ => rfl
  · intro W base args ds ps hval hA hlt hsz
    exact zooDoes_law W base args ds ps hval hA hlt hsz

set_option maxHeartbeats 4000000 in
theorem zooDoes_closed : joinedFacts Tryz.prog 5 Tryz.f5 Rows.zooDoesSpec Rows.zooDoesRow = true := by
  unfold joinedFacts
  repeat' (with_reducible refine and_intro ?_ ?_)
  · as_aux_lemma => kernel_rfl
  · exact laid_
  · exact mapsRowed_
  · as_aux_lemma => kernel_rfl
  · as_aux_lemma => kernel_rfl
  · as_aux_lemma => kernel_rfl
  · exact stops_
  · as_aux_lemma => kernel_rfl
  · exact stopKnobs_
  · as_aux_lemma => kernel_rfl
  · as_aux_lemma => kernel_rfl
  · as_aux_lemma => kernel_rfl
  · as_aux_lemma => kernel_rfl
  · as_aux_lemma => kernel_rfl
  · as_aux_lemma => kernel_rfl
  · as_aux_lemma => kernel_rfl
  · as_aux_lemma => kernel_rfl
  · as_aux_lemma => kernel_rfl
  · as_aux_lemma => kernel_rfl
  · as_aux_lemma => kernel_rfl
  · as_aux_lemma => kernel_rfl
  · as_aux_lemma => kernel_rfl
  · exact plainKeys_
  · as_aux_lemma => kernel_rfl
  · exact stopsHeard_
  · exact mayEnter_
  · exact liftsFinal_
  · exact make_
  · as_aux_lemma => kernel_rfl
  · as_aux_lemma => kernel_rfl
  · as_aux_lemma => kernel_rfl
  · as_aux_lemma => kernel_rfl

theorem zooDoes_holds : Rows.ZooDoesSaid :=
  OpenClaim.holds_of_wide 5 Tryz.f5 rfl rfl rfl rfl rfl rfl rfl ⟨rfl, rfl, rfl, rfl, rfl⟩ rfl rfl rfl rfl rfl (by as_aux_lemma => kernel_rfl) Tryz.func5 zooDoes_closed
    (of_decide_eq_true (by as_aux_lemma => kernel_rfl)) (by unfold Func.isWrapper; first | (rw [if_pos (by decide +kernel)]; kernel_rfl) | (rw [if_neg (by decide +kernel)]; exact ⟨rfl, rfl⟩))
    (fun os started H enc _ => zooDoes_lifted os started H enc)
#print axioms zooDoes_holds
end Go.Proofs.YtehjfmjibiafdaaGreat
