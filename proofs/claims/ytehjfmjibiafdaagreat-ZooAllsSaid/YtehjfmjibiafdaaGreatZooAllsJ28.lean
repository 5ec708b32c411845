import Derived.Test.YtehjfmjibiafdaaGreatZooAllsJ0
import Derived.Test.YtehjfmjibiafdaaGreatZooAllsJ27
/- A part of the proof that the law ZooAlls returns true for every input. -/
namespace Go.Proofs.YtehjfmjibiafdaaGreat
open Go Go.RowKit Go.Shelf Go.Sort
attribute [local go_sem] AllFrom.cons_eq AllFrom.nil_eq putF_nil putF_cons wantedL_none wantedL_some OpGoalT OpGoalV OpGoalQ OpGoalA OpGoalK YieldsR preF_nil preF_cons
section
variable {sl : Sl} {L : List Rw} {tb : List (Nat × Nat)} {rw : Nat → List Rw} {pl : List Pl}
theorem ltRow_eq (x y : Rw) : ltOf (fun x y : Rw => Lib.compareInt x.1.1 y.1.1) x y = decide (x.1.1 < y.1.1) := by
 unfold ltOf Lib.compareInt
 by_cases h1 : x.1.1 < y.1.1
 ·simp [h1]
 ·by_cases h2 : y.1.1 < x.1.1 <;> simp [h1, h2]
theorem swoRow : SWO (ltOf fun x y : Rw => Lib.compareInt x.1.1 y.1.1) where
 irrefl x := by rw [ltRow_eq]; simp
 trans x y z h1 h2 := by rw [ltRow_eq] at *; simp at *; omega
 ntrans x y z h1 h2 := by rw [ltRow_eq] at *; simp at *; omega
theorem rows_sorted (hc : WCore (· ∈ L) (tb.map (·.1)) rw pl) (hO : WOk sl L) {ks : List Int} (hp : ks.Perm (tb.map fun x => (x.1 : Int))) (n t a : Int) {l' : List Rw} (h1 : l'.Perm (rowsK rw n t a ks)) (h2 : l'.Pairwise (fun x y => ltOf (fun x y : Rw => Lib.compareInt x.1.1 y.1.1) y x = false)) : l' = rowsM L n t a := by
 have hs : (rowsM L n t a).Pairwise (fun x y => x.1.1 < y.1.1) := List.Pairwise.sublist List.filter_sublist hO.sorted
 have hn : (rowsM L n t a).Nodup := hs.imp (fun h e => by rw [e] at h; omega)
 have h3 : l'.Perm (rowsM L n t a) := h1.trans ((List.perm_ext_iff_of_nodup (rowsK_nodup hc hp n t a) hn).2 (rowsK_mem hc hp n t a))
 refine List.Perm.eq_of_pairwise (le := fun x y : Rw => x.1.1 ≤ y.1.1) (fun x y hx hy e1 e2 => ?_) (h2.imp (fun h => by rw [ltRow_eq] at h; simpa using h)) (hs.imp (fun h => by omega)) h3
 have hx2 := (List.mem_filter.1 (h3.mem_iff.1 hx)).1
 have hy2 := (List.mem_filter.1 hy).1
 exact hO.one hx2 hy2 (by omega)
end
set_option maxRecDepth 20000 in
theorem compare_any (x y : Int) (w : World) : Calls Tryz.prog 64 #[.int .i64 x, .int .i64 y] w fun e w' => e = .returned (.int .i64 (Lib.compareInt x y)) ∧ w = w' := by
 unfold Lib.compareInt
 by_cases h1 : x < y
 ·rw [if_pos h1]
  go_enter Tryz.func64, Tryz.ntmps64
  go_wp2
  go_ret
  exact ⟨rfl, rfl⟩
 ·rw [if_neg h1]
  by_cases h2 : y < x
  ·rw [if_pos h2]
   go_enter Tryz.func64, Tryz.ntmps64
   go_wp2
   go_ret
   exact ⟨rfl, rfl⟩
  ·rw [if_neg h2]
   go_enter Tryz.func64, Tryz.ntmps64
   go_wp2
   go_ret
   exact ⟨rfl, rfl⟩
set_option maxRecDepth 20000 in
set_option maxHeartbeats 2000000 in
theorem cmpRow_any (x y : Rw) (W : World) : Calls Tryz.prog 63 #[.agg (rwC x).toArray, .agg (rwC y).toArray] W fun e w' => e = .returned (.int .i64 (Lib.compareInt x.1.1 y.1.1)) ∧ ∃ q os, w' = grow (W.drewN q) os := by
 obtain ⟨⟨s1, g1⟩, K1, a0, a1, a2, a3, a4, a5, a6, a7⟩ := x
 obtain ⟨⟨s2, g2⟩, K2, c0, c1, c2, c3, c4, c5, c6, c7⟩ := y
 have hcon := compare_any s1 s2
 simp only
 generalize Lib.compareInt s1 s2 = r at hcon ⊢
 show Calls Tryz.prog 63 #[.agg #[.int .i64 s1, .int .i64 g1, .int .i64 K1, .int .i64 a0, .int .i64 a1, .int .i64 a2, .int .i64 a3, .int .i64 a4, .int .i64 a5, .int .i64 a6, .int .i64 a7], .agg #[.int .i64 s2, .int .i64 g2, .int .i64 K2, .int .i64 c0, .int .i64 c1, .int .i64 c2, .int .i64 c3, .int .i64 c4, .int .i64 c5, .int .i64 c6, .int .i64 c7]] W _
 have HC := Lib.hid hcon
 clear hcon
 go_enter Tryz.func63, Tryz.ntmps63
 go_wp2_with fail
 refine (HC.out _).mono ?_
 rintro e w' ⟨rfl, rfl⟩
 go_wp2
 go_ret
 exact ⟨rfl, 0, _, by rw [alloc_eq_grow, alloc_eq_grow, grow_grow]; rfl⟩
def sortRowL_ren : Go.Shelf.Ren := ⟨fun | 6 => 62 | 15 => 115 | 14 => 114 | 28 => 154 | 29 => 155 | 20 => 146 | 21 => 147 | 22 => 148 | 23 => 149 | 24 => 150 | 25 => 151 | 26 => 152 | 27 => 153 | 46 => 173 | 47 => 174 | 48 => 175 | 49 => 176 | 50 => 177 | 57 => 182 | n => n, fun | 22 => 23 | 24 => 69 | 25 => 126 | 3 => 3 | 39 => 184 | 0 => 0 | 53 => 213 | 55 => 215 | 4 => 4 | 46 => 206 | 45 => 205 | 50 => 210 | 5 => 5 | 9 => 9 | 66 => 228 | 70 => 232 | 76 => 238 | 77 => 239 | n => n, fun | n => n⟩
theorem sortRowL : Go.Proofs.SlLaysF0.n6 Tryz.prog sortRowL_ren := {
 mixed := by kernel_rfl,
 f6 := ⟨Tryz.f62.name, by decide, Tryz.func62.trans (congrArg some (by kernel_rfl))⟩,
 f14 := ⟨Tryz.f114.name, by decide, Tryz.func114.trans (congrArg some (by kernel_rfl))⟩,
 f15 := Tryz.func115.trans (congrArg some (by kernel_rfl)),
 f20 := ⟨Tryz.f146.name, by decide, Tryz.func146.trans (congrArg some (by kernel_rfl))⟩,
 f21 := ⟨Tryz.f147.name, by decide, Tryz.func147.trans (congrArg some (by kernel_rfl))⟩,
 f22 := ⟨Tryz.f148.name, by decide, Tryz.func148.trans (congrArg some (by kernel_rfl))⟩,
 f23 := ⟨Tryz.f149.name, by decide, Tryz.func149.trans (congrArg some (by kernel_rfl))⟩,
 f24 := ⟨Tryz.f150.name, by decide, Tryz.func150.trans (congrArg some (by kernel_rfl))⟩,
 f25 := ⟨Tryz.f151.name, by decide, Tryz.func151.trans (congrArg some (by kernel_rfl))⟩,
 f26 := ⟨Tryz.f152.name, by decide, Tryz.func152.trans (congrArg some (by kernel_rfl))⟩,
 f27 := ⟨Tryz.f153.name, by decide, Tryz.func153.trans (congrArg some (by kernel_rfl))⟩,
 f28 := Tryz.func154.trans (congrArg some (by kernel_rfl)),
 f29 := Tryz.func155.trans (congrArg some (by kernel_rfl)),
 f46 := ⟨Tryz.f173.name, by decide, Tryz.func173.trans (congrArg some (by kernel_rfl))⟩,
 f47 := Tryz.func174.trans (congrArg some (by kernel_rfl)),
 f48 := Tryz.func175.trans (congrArg some (by kernel_rfl)),
 f49 := ⟨Tryz.f176.name, by decide, Tryz.func176.trans (congrArg some (by kernel_rfl))⟩,
 f50 := ⟨Tryz.f177.name, by decide, Tryz.func177.trans (congrArg some (by kernel_rfl))⟩,
 f57 := ⟨Tryz.f182.name, by decide, Tryz.func182.trans (congrArg some (by kernel_rfl))⟩,
 t0 := Tryz.underlying0,
 a0 := Tryz.isAgg0,
 z0 := Tryz.sizeOf0,
 v0 := Tryz.zeroValue0,
 t3 := Tryz.underlying3,
 a3 := Tryz.isAgg3,
 z3 := Tryz.sizeOf3,
 v3 := Tryz.zeroValue3,
 t4 := Tryz.underlying4,
 a4 := Tryz.isAgg4,
 z4 := Tryz.sizeOf4,
 v4 := Tryz.zeroValue4,
 t5 := Tryz.underlying5,
 a5 := Tryz.isAgg5,
 z5 := Tryz.sizeOf5,
 v5 := Tryz.zeroValue5,
 t9 := Tryz.underlying9,
 a9 := Tryz.isAgg9,
 z9 := Tryz.sizeOf9,
 v9 := Tryz.zeroValue9,
 t22 := Tryz.underlying23,
 a22 := Tryz.isAgg23,
 z22 := Tryz.sizeOf23,
 v22 := Tryz.zeroValue23,
 t25 := Tryz.underlying126,
 a25 := Tryz.isAgg126,
 z25 := Tryz.sizeOf126,
 v25 := Tryz.zeroValue126,
 t39 := Tryz.underlying184,
 a39 := Tryz.isAgg184,
 z39 := Tryz.sizeOf184,
 v39 := Tryz.zeroValue184,
 t45 := Tryz.underlying205,
 a45 := Tryz.isAgg205,
 z45 := Tryz.sizeOf205,
 v45 := Tryz.zeroValue205,
 t46 := Tryz.underlying206,
 a46 := Tryz.isAgg206,
 z46 := Tryz.sizeOf206,
 v46 := Tryz.zeroValue206,
 t50 := Tryz.underlying210,
 a50 := Tryz.isAgg210,
 z50 := Tryz.sizeOf210,
 v50 := Tryz.zeroValue210,
 t53 := Tryz.underlying213,
 a53 := Tryz.isAgg213,
 z53 := Tryz.sizeOf213,
 v53 := Tryz.zeroValue213,
 t55 := Tryz.underlying215,
 a55 := Tryz.isAgg215,
 z55 := Tryz.sizeOf215,
 v55 := Tryz.zeroValue215,
 t66 := Tryz.underlying228,
 a66 := Tryz.isAgg228,
 z66 := Tryz.sizeOf228,
 v66 := Tryz.zeroValue228,
 t70 := Tryz.underlying232,
 a70 := Tryz.isAgg232,
 z70 := Tryz.sizeOf232,
 v70 := Tryz.zeroValue232,
 t76 := Tryz.underlying238,
 a76 := Tryz.isAgg238,
 z76 := Tryz.sizeOf238,
 v76 := Tryz.zeroValue238,
 t77 := Tryz.underlying239,
 a77 := Tryz.isAgg239,
 z77 := Tryz.sizeOf239,
 v77 := Tryz.zeroValue239 }
theorem sortRows_any {w : World} {B : Nat} {v : Value} {l : List Rw} (hown : w.ownsRow B 69 11 v l.length (l.flatMap rwC)) (hl : l.length < 1200000000000) :
  Calls Tryz.prog 62 #[v, .func (.func 63) #[] #[]] w (SortedRow rwC 11 B 69 (ltOf fun x y : Rw => Lib.compareInt x.1.1 y.1.1) l v w) :=
 sort_own sortRowL Tryz.isAgg69 Tryz.sizeOf69 rwC_len rwC_one _ swoRow 63 (enters_of Tryz.func63 (by kernel_rfl) rfl) cmpRow_any hown (by omega)
end Go.Proofs.YtehjfmjibiafdaaGreat
namespace Go.Proofs.YtehjfmjibiafdaaGreat
open Go Go.RowKit
attribute [local go_sem] AllFrom.cons_eq AllFrom.nil_eq putF_nil putF_cons wantedL_none wantedL_some OpGoalT OpGoalV OpGoalQ OpGoalA OpGoalK YieldsR preF_nil preF_cons
set_option maxRecDepth 20000 in
set_option maxHeartbeats 4000000 in
theorem wrows_any {w : World} {p : Nat} {sl : Sl} {L : List Rw} {F : List Nat} (h : RepW w p sl L F) (n t a : Int) :
  Calls Tryz.prog 21 #[.pointer (some ⟨p, 0, none⟩), .agg #[.int .i64 n, .int .i64 t, .int .i64 a]] w (RowsPost w.heap.size L n t a w) := by
 obtain ⟨w0, hw0, hb0, hz0, hs0⟩ := box1 w (.cells #[.int .i64 n, .int .i64 t, .int .i64 a] 39)
 have H1 := Lib.hid (checkQuery_any n t a)
 have h0 := h.below hb0
 obtain ⟨r0, r1, r2, rl⟩ := cells3 hz0
 unfold RowsPost
 cases hz : qcheck n t a == 0 with
 | false =>
  have he : qcheck n t a ≠ 0 := by simpa using hz
  rw [if_neg he]
  have hq : (qcheck n t a != 0) = true := by simpa using he
  generalize qcheck n t a = z at *
  obtain ⟨Hb0, Hs0⟩ := hid2 hb0 hs0
  clear hb0 hs0
  clear hz0 h0 he h
  go_enter Tryz.func21, Tryz.ntmps21
  go_wp2_with fail
  clear hw0
  refine (H1.out _).mono ?_
  rintro e w1 ⟨rfl, hb1⟩
  have hB := Hb0.out.trans (hb1.mono Hb0.out.size)
  have HB := Lib.hid hB
  clear hB
  clear hb1
  go_wp2
  go_ret2
  exact ⟨_, rfl, ⟨rfl, .inl ⟨rfl, rfl⟩⟩, HB.out⟩
 | true =>
  have he : qcheck n t a = 0 := by simpa using hz
  rw [if_pos he]
  simp only [he] at H1
  rw [he]
  obtain ⟨ps, mt, mp, tb, rw, pl, FS, Fs, c, hW, hC, hO, -⟩ := h0
  obtain ⟨Hb0, Hs0, HW0, HC, HO, Hz0⟩ := hid6 hb0 hs0 hW hC hO hz0
  clear hb0 hs0 hW hC hO hz0
  clear h hz he
  go_enter Tryz.func21, Tryz.ntmps21
  go_wp2_with fail
  clear hw0
  refine (H1.out _).mono ?_
  rintro e w1 ⟨rfl, hb1⟩
  have hB := Hb0.out.trans (hb1.mono Hb0.out.size)
  have hz1 := (Mod.ofBelow hb1).keep Hz0.out (by simp)
  have hW1 := HW0.out.below hb1
  have e0 := blk_cell hW1.blk 1
  simp only [List.getElem?_toArray, List.getElem?_cons_zero, List.getElem?_cons_succ] at e0
  have hpl := blk_lt hW1.blk
  have H2 := Lib.hid (coll_any hW1.tm (by have := (HC.out.tabs HO.out).2; omega))
  obtain ⟨HB, Hz1, HW1⟩ := hid3 hB hz1 hW1
  clear hB hz1 hW1
  clear hb1 r0 r1 r2 rl
  go_wp2_with fail
  refine (keys_any _ _).mono ?_
  rintro e w2 ⟨rfl, rfl⟩
  go_wp2_with fail
  refine H2.out.mono ?_
  rintro e w3 ⟨vk, ss, rfl, hp, hks, hb3⟩
  have hb13 : Below w1.heap.size w1 w3 := ((Below.refl w1.heap.size w1).alloc (Nat.le_refl _) _).trans (hb3.mono (by simp))
  obtain ⟨Ak, ck, hvk, hck, hck2⟩ := row_slice hks
  subst hvk
  have hlk : ss.length ≤ 256 := by
   have h1 := hp.length_eq
   rw [List.length_map] at h1
   have := (HC.out.tabs HO.out).2
   omega
  have hz3 := (Mod.ofBelow hb13).keep Hz1.out (by simp)
  have hW3 := HW1.out.below hb13
  have hB3 := HB.out.trans (hb13.mono HB.out.size)
  obtain ⟨HP, HKS, Hz3, HW3, HB3⟩ := hid5 hp hks hz3 hW3 hB3
  clear hp hks hz3 hW3 hB3
  clear hb13 hb3 e0 hpl hck hck2
  go_wp2_with fail
  go_loopw [7, 26] (fun v i wr => ∃ m : Nat, m ≤ ss.length ∧ i = .int .i64 m ∧ wr.ownsRow w3.heap.size 69 11 v (rowsK rw n t a (ss.take m)).length ((rowsK rw n t a (ss.take m)).flatMap rwC) ∧ Below w3.heap.size w3 wr) (fun _ i _ => ss.length - (Go.RowKit.intOf i).toNat)
  case atStart => exact ⟨0, by omega, rfl, ⟨rfl, .inl ⟨rfl, rfl⟩⟩, Below.refl _ _⟩
  case round =>
   obtain ⟨m, hm, rfl, hown, hbel⟩ := hrel
   have hzr := (Mod.ofBelow hbel).keep Hz3.out (by simp)
   have hWr := HW3.out.below hbel
   have hBr := HB3.out.trans (hbel.mono HB3.out.size)
   by_cases hlt : m < ss.length
   ·have hkr := row_mod HKS.out (Mod.ofBelow hbel) (by simp)
    obtain ⟨gk, ck2, -, hv, -, -, -⟩ := row_some hkr (by omega)
    cases hv
    have hcell := row_cell hkr (i := m) (u := .int .i64 ss[m]) (by unfold ints; rw [List.getElem?_map, List.getElem?_eq_getElem hlt]; rfl)
    have hgk := row_lt hkr gk rfl
    obtain ⟨⟨kn, b⟩, hx, hxe⟩ := List.mem_map.1 (HP.out.mem_iff.1 (List.getElem_mem hlt))
    simp only at hxe
    rw [← hxe] at hcell
    have hkt : kn ∈ tb.map (·.1) := List.mem_map.2 ⟨_, hx, rfl⟩
    obtain ⟨hkn, hl60⟩ := (HC.out.tabs HO.out).1 kn hkt
    have hsn : rowsK rw n t a (ss.take (m + 1)) = rowsK rw n t a (ss.take m) ++ (if matchesB (kn : Int) n t a = true then rw kn else []) := by
     rw [take_succ_get ss m hlt, rowsK_snoc, ← hxe, Int.toNat_natCast]
    have hlen : (rowsK rw n t a (ss.take m)).length ≤ 60 * m := by
     have h1 := rowsK_len (rw := rw) (n := n) (t := t) (a := a) (ks := ss.take m) (fun k hk => by
      obtain ⟨x, hx, rfl⟩ := List.mem_map.1 (HP.out.mem_iff.1 (List.mem_of_mem_take hk))
      rw [Int.toNat_natCast]
      exact ((HC.out.tabs HO.out).1 x.1 (List.mem_map.2 ⟨x, hx, rfl⟩)).2)
     rw [List.length_take, Nat.min_eq_left hm] at h1
     exact h1
    generalize rowsK rw n t a (ss.take m) = M at *
    have hmi : (m : Int) < (ss.length : Int) := by omega
    have H8 := Lib.hid (matches_any (kn : Int) n t a)
    obtain ⟨r0, r1, r2, rl⟩ := cells3 hzr
    generalize hmz : matchesB (kn : Int) n t a = z at *
    obtain ⟨HWr, HBr, Hkr, Hown, Hbel, Hsn, Hlen, Hxe, Hx, Hkt, Hkn, Hl60, Hzr, Hmz⟩ := hid14 hWr hBr hkr hown hbel hsn hlen hxe hx hkt hkn hl60 hzr hmz
    clear hWr hBr hkr hown hbel hsn hlen hxe hx hkt hkn hl60 hzr hmz
    cases z with
    | false =>
     go_wp2_with fail
     refine (H8.out _).mono ?_
     rintro e w4 ⟨rfl, hb4⟩
     have ho4 := row_mod Hown.out (Mod.ofBelow hb4) (by simp)
     have hB4 := Hbel.out.trans (hb4.mono Hbel.out.size)
     have hsn := Hsn.out
     rw [if_neg (by simp), List.append_nil] at hsn
     obtain ⟨Ho4, HB4, Hsn2⟩ := hid3 ho4 hB4 hsn
     clear ho4 hB4 hsn
     clear hb4
     go_wp2
     go_roundw
     case rel => exact ⟨m + 1, by omega, by go_num, by rw [Hsn2.out]; exact Ho4.out, HB4.out⟩
     case measure => simp [Go.RowKit.intOf]; omega
    | true =>
     go_wp2_with fail
     refine (H8.out _).mono ?_
     rintro e w4 ⟨rfl, hb4⟩
     have ho4 := row_mod Hown.out (Mod.ofBelow hb4) (by simp)
     have hW4 := HWr.out.below hb4
     have hB4 := Hbel.out.trans (hb4.mono Hbel.out.size)
     have e0 := blk_cell hW4.blk 1
     simp only [List.getElem?_toArray, List.getElem?_cons_zero, List.getElem?_cons_succ] at e0
     have hpl := blk_lt hW4.blk
     have hlk := mi_in colPr_keys Tryz.underlying93 hW4.tm Hkn.out Hx.out false
     simp only [colPr, Bool.false_eq_true, if_false] at hlk
     have H10 := Lib.hid (rt_handles (hW4.tab _ Hx.out) (by have := Hl60.out; simp only; omega))
     have hsn := Hsn.out
     rw [if_pos (by simp)] at hsn
     obtain ⟨Ho4, HB4, Hsn2, HW4⟩ := hid4 ho4 hB4 hsn hW4
     clear ho4 hB4 hsn hW4
     clear hb4 r0 r1 r2 rl hcell hgk
     go_wp2_with fail
     refine H10.out.mono ?_
     rintro e w5 ⟨vh, rfl, hvh, hb5⟩
     obtain ⟨Ah, ch, hve, -, -⟩ := row_slice hvh
     subst hve
     have ho5 := row_mod Ho4.out (Mod.ofBelow hb5) (by simp)
     have hB5 := HB4.out.trans (hb5.mono HB4.out.size)
     have hl := Hl60.out
     obtain ⟨Ho5, HB5⟩ := hid2 ho5 hB5
     clear ho5 hB5
     clear hvh hb5 e0 hpl hlk
     go_wp2_with fail
     go_loopw [7, 43] (fun v j wu => ∃ u : Nat, u ≤ (rw kn).length ∧ j = .int .i64 u ∧ wu.ownsRow w3.heap.size 69 11 v (M ++ (rw kn).take u).length ((M ++ (rw kn).take u).flatMap rwC) ∧ Below w3.heap.size w3 wu) (fun _ j _ => (rw kn).length - (Go.RowKit.intOf j).toNat)
     case atStart => exact ⟨0, by omega, rfl, by simpa using Ho5.out, HB5.out⟩
     case round =>
      obtain ⟨u, hu, rfl, hou, hbu⟩ := hrel
      have hWu := HW3.out.below hbu
      by_cases hul : u < (rw kn).length
      ·have hxu : (rw kn)[u]? = some (rw kn)[u] := List.getElem?_eq_getElem hul
       obtain ⟨x, hxx⟩ : ∃ x, (rw kn)[u] = x := ⟨_, rfl⟩
       rw [hxx] at hxu
       obtain ⟨hxL, hxk, -⟩ := HC.out.row kn Hkt.out u x hxu
       have hgood := (beastZ_good (HO.out.be x hxL) hxk).1
       have h13 := rt_row (hWu.tab _ Hx.out) hxu hgood (by simp only; omega)
       have hst : M ++ (rw kn).take (u + 1) = (M ++ (rw kn).take u) ++ [x] := by
        rw [take_succ_get _ u hul, hxx, List.append_assoc]
       have hlm : (M ++ (rw kn).take u).length < 1200000000000 := by
        rw [List.length_append, List.length_take]; have := Hlen.out; omega
       generalize M ++ (rw kn).take u = M2 at *
       obtain ⟨⟨s1, g1⟩, K1, a0, a1, a2, a3, a4, a5, a6, a7⟩ := x
       simp only at hxk
       subst hxk
       have hui : (u : Int) < ((rw kn).length : Int) := by omega
       rw [show (rwC ((s1, g1), (kn : Int), a0, a1, a2, a3, a4, a5, a6, a7)).toArray = #[.int .i64 s1, .int .i64 g1, .int .i64 (kn : Int), .int .i64 a0, .int .i64 a1, .int .i64 a2, .int .i64 a3, .int .i64 a4, .int .i64 a5, .int .i64 a6, .int .i64 a7] from rfl] at h13
       obtain ⟨HWu, Hou, Hst, Hbu, Hlm, H13⟩ := hid6 hWu hou hst hbu hlm h13
       clear hWu hou hst hbu hlm h13
       clear hxu hxL hgood hxx
       go_wp2_with fail
       refine H13.out.mono ?_
       rintro e w6 ⟨rfl, hb6⟩
       obtain ⟨w7, hw7⟩ : ∃ w7, w6.alloc (.cells #[.int .i64 s1, .int .i64 g1, .int .i64 (kn : Int), .int .i64 a0, .int .i64 a1, .int .i64 a2, .int .i64 a3, .int .i64 a4, .int .i64 a5, .int .i64 a6, .int .i64 a7] 69) = w7 := ⟨_, rfl⟩
       have hb7 : Below w6.heap.size w6 w7 := by rw [← hw7]; exact (Below.refl _ _).alloc (Nat.le_refl _) _
       have hz7 : w7.heap[w6.heap.size]? = some (.cells #[.int .i64 s1, .int .i64 g1, .int .i64 (kn : Int), .int .i64 a0, .int .i64 a1, .int .i64 a2, .int .i64 a3, .int .i64 a4, .int .i64 a5, .int .i64 a6, .int .i64 a7] 69 (0, 0)) := by rw [← hw7]; exact heap_alloc_new w6 _
       have hb67 := hb6.trans (hb7.mono hb6.size)
       have hou7 := row_mod Hou.out (Mod.ofBelow hb67) (by simp)
       have hbu7 := Hbu.out.trans (hb67.mono Hbu.out.size)
       obtain ⟨x0, x1, x2, x3, x4, x5, x6, x7, x8, x9, x10, xl⟩ := cells11 hz7
       obtain ⟨Hou7, Hbu7⟩ := hid2 hou7 hbu7
       clear hou7 hbu7
       clear hb6 hb7 hz7 hb67
       go_wp2_with (at_builtin; (refine app_row rfl _ _ rfl w3.heap.size _ M2 ((s1, g1), (kn : Int), a0, a1, a2, a3, a4, a5, a6, a7) ⟨w7.heap.size, 0, none⟩ 1 rfl (Hou7.out.alloc _) rfl (new_rec (by simp) rfl) Hlm.out (by have := Hbu7.out.size; simp; omega) ?_); intro v' w8 hown8 hb8)
       go_roundw
       case rel => exact ⟨u + 1, by omega, by go_num, by rw [Hst.out]; exact hown8, (Hbu7.out.alloc Hbu7.out.size _).trans hb8⟩
       case measure => simp [Go.RowKit.intOf]; omega
      ·obtain rfl : u = (rw kn).length := by omega
       rw [List.take_length] at hou
       obtain ⟨Hou, HBu⟩ := hid2 hou hbu
       clear hou hbu
       clear hWu
       go_wp2
       go_roundw
       case rel => exact ⟨m + 1, by omega, by go_num, by rw [Hsn2.out]; exact Hou.out, HBu.out⟩
       case measure => simp [Go.RowKit.intOf]; omega
   ·obtain rfl : m = ss.length := by omega
    rw [List.take_length] at hown
    have hlen : (rowsK rw n t a ss).length ≤ 60 * ss.length := rowsK_len (fun k hk => by
      obtain ⟨x, hx, rfl⟩ := List.mem_map.1 (HP.out.mem_iff.1 hk)
      rw [Int.toNat_natCast]
      exact ((HC.out.tabs HO.out).1 x.1 (List.mem_map.2 ⟨x, hx, rfl⟩)).2)
    have H17 := Lib.hid (sortRows_any hown (by omega))
    obtain ⟨HBr, Hown⟩ := hid2 hBr hown
    clear hBr hown
    clear hzr hWr hbel hlen
    go_wp2_with fail
    refine H17.out.mono ?_
    rintro e w9 ⟨rfl, l', hl1, hl2, hown9, hm9⟩
    have hl' := rows_sorted HC.out HO.out HP.out n t a hl1 hl2
    subst hl'
    have hB9 : Below w.heap.size w w9 := HBr.out.trans (hm9.toBelow (fun y hy => Nat.le_trans HB3.out.size (Hown.out.lt y (by simpa using hy)).1) HBr.out.size)
    have hown9 := row_base hown9 (B' := w.heap.size) (fun k hk => Nat.le_trans HB3.out.size (hown9.lt k hk).1)
    obtain ⟨Hown9, HB9⟩ := hid2 hown9 hB9
    clear hown9 hB9
    clear hl1 hl2 hm9
    go_wp2
    go_ret2
    exact ⟨_, rfl, Hown9.out, HB9.out⟩
end Go.Proofs.YtehjfmjibiafdaaGreat
namespace Go.Proofs.YtehjfmjibiafdaaGreat
open Go Go.RowKit
def RepV (z p f : Nat) (sl : Sl) (L : List Rw) (B : List Bd) (w : World) (F : List Nat) : Prop :=
 w.heap[z]? = some (.cells #[.pointer (some ⟨p, 0, none⟩), .pointer (some ⟨f, 0, none⟩)] 62 (0, 0)) ∧
  ∃ FW FF, RepW w p sl L FW ∧ RepF w f B FF ∧ F = z :: (FW ++ FF) ∧ z ∉ FW ∧ z ∉ FF ∧ ∀ y ∈ FW, y ∉ FF
section
variable {z p f : Nat} {sl sl' : Sl} {L L' : List Rw} {B B' : List Bd} {w w' : World} {F G : List Nat}
theorem RepV.mod (h : RepV z p f sl L B w F) (hm : Mod G w w') (hd : ∀ y ∈ F, y ∉ G) : RepV z p f sl L B w' F := by
 obtain ⟨h1, FW, FF, h2, h3, rfl, h4, h5, h6⟩ := h
 exact ⟨hm.keep h1 (hd z (by simp)), FW, FF, h2.mod hm (fun y hy => hd y (by simp [hy])), h3.mod hm (fun y hy => hd y (by simp [hy])), rfl, h4, h5, h6⟩
theorem RepV.below (h : RepV z p f sl L B w F) (hb : Below w.heap.size w w') : RepV z p f sl L B w' F := h.mod (Mod.ofBelow hb) (by simp)
theorem RepV.lt (h : RepV z p f sl L B w F) : ∀ y ∈ F, y < w.heap.size := by
 obtain ⟨h1, FW, FF, h2, h3, rfl, -⟩ := h
 intro y hy
 rcases List.mem_cons.1 hy with rfl | hy
 ·exact blk_lt h1
 ·rcases List.mem_append.1 hy with hy | hy
  ·exact h2.lt y hy
  ·exact h3.lt y hy
theorem own_V (z p f : Nat) (sl : Sl) (L : List Rw) (B : List Bd) : Own (RepV z p f sl L B) := ⟨fun h hm hd => h.mod hm hd, fun h => h.lt⟩
theorem RepV.okW (h : RepV z p f sl L B w F) : WOk sl L := by obtain ⟨-, FW, FF, h2, -⟩ := h; exact h2.ok
theorem RepV.okF (h : RepV z p f sl L B w F) : FamOk B := by obtain ⟨-, FW, FF, -, h3, -⟩ := h; exact h3.ok
theorem RepV.w_ (h : RepV z p f sl L B w F) : ∃ FW, RepW w p sl L FW := by obtain ⟨-, FW, FF, h2, -⟩ := h; exact ⟨FW, h2⟩
theorem RepV.f_ (h : RepV z p f sl L B w F) : ∃ FF, RepF w f B FF := by obtain ⟨-, FW, FF, -, h3, -⟩ := h; exact ⟨FF, h3⟩
theorem RepV.slots (h : RepV z p f sl L B w F) : ∃ ps FS, w.cell? ⟨p, 0, none⟩ = some (.pointer (some ⟨ps, 0, none⟩)) ∧ p < w.heap.size ∧ RepS w ps sl FS := by
 obtain ⟨FW, h2⟩ := h.w_
 obtain ⟨ps, mt, mp, tb, rw_, pl, FS, Fs, c, h3, -, -, -⟩ := h2
 have e := blk_cell h3.blk 0
 simp only [List.getElem?_toArray, List.getElem?_cons_zero] at e
 exact ⟨ps, FS, e, blk_lt h3.blk, h3.sl⟩
theorem RepV.cells (h : RepV z p f sl L B w F) : w.cell? ⟨z, 0, none⟩ = some (.pointer (some ⟨p, 0, none⟩)) ∧ w.cell? ⟨z, 1, none⟩ = some (.pointer (some ⟨f, 0, none⟩)) ∧ z < w.heap.size := by
 refine ⟨?_, ?_, blk_lt h.1⟩
 ·rw [blk_cell h.1]; rfl
 ·rw [blk_cell h.1]; rfl
def VRet (z p f : Nat) (sl : Sl) (L : List Rw) (B : List Bd) (F : List Nat) (w : World) (r : Value) (e : Ending) (w' : World) : Prop := e = .returned r ∧ OwnPost (RepV z p f sl L B) F w w'
theorem RepV.turnW (h : RepV z p f sl L B w F) : ∃ FW, RepW w p sl L FW ∧ ∀ w' sl' L' F', RepW w' p sl' L' F' → Turns w FW F' w' → OwnPost (RepV z p f sl' L' B) F w w' := by
 have hlt := h.lt
 obtain ⟨h1, FW, FF, h2, h3, rfl, h4, h5, h6⟩ := h
 refine ⟨FW, h2, fun w' sl' L' F' a b => ⟨z :: (F' ++ FF), ⟨b.mod.keep h1 h4, F', FF, a, h3.mod b.mod (fun y hy e => h6 y e hy), rfl, ?_, h5, ?_⟩, b.mod.mono (by intro y hy; simp [hy]), ?_⟩⟩
 ·intro e
  rcases b.new z e with e | e
  ·exact h4 e
  ·have := hlt z (by simp); omega
 ·intro y hy e
  rcases b.new y hy with e2 | e2
  ·exact h6 y e2 e
  ·have := hlt y (by simp [e]); omega
 ·intro y hy
  rcases List.mem_cons.1 hy with rfl | hy
  ·exact .inl (by simp)
  ·rcases List.mem_append.1 hy with hy | hy
   ·rcases b.new y hy with e2 | e2
    ·exact .inl (by simp [e2])
    ·exact .inr e2
   ·exact .inl (by simp [hy])
theorem RepV.turnF (h : RepV z p f sl L B w F) : ∃ FF, RepF w f B FF ∧ ∀ w' B' F', RepF w' f B' F' → Turns w FF F' w' → OwnPost (RepV z p f sl L B') F w w' := by
 have hlt := h.lt
 obtain ⟨h1, FW, FF, h2, h3, rfl, h4, h5, h6⟩ := h
 refine ⟨FF, h3, fun w' B' F' a b => ⟨z :: (FW ++ F'), ⟨b.mod.keep h1 h5, FW, F', h2.mod b.mod (fun y hy => h6 y hy), a, rfl, h4, ?_, ?_⟩, b.mod.mono (by intro y hy; simp [hy]), ?_⟩⟩
 ·intro e
  rcases b.new z e with e | e
  ·exact h5 e
  ·have := hlt z (by simp); omega
 ·intro y hy e
  rcases b.new y e with e2 | e2
  ·exact h6 y hy e2
  ·have := hlt y (by simp [hy]); omega
 ·intro y hy
  rcases List.mem_cons.1 hy with rfl | hy
  ·exact .inl (by simp)
  ·rcases List.mem_append.1 hy with hy | hy
   ·exact .inl (by simp [hy])
   ·rcases b.new y hy with e2 | e2
    ·exact .inl (by simp [e2])
    ·exact .inr e2
theorem OwnPost.ofBelow {A : World → List Nat → Prop} (hA : Own A) {F : List Nat} {w w' : World} (h : A w F) (hb : Below w.heap.size w w') : OwnPost A F w w' := ⟨F, hA.mod h (Mod.ofBelow hb) (by simp), Turns.ofBelow hb⟩
theorem OwnPost.after {A : World → List Nat → Prop} {F : List Nat} {w w' w'' : World} (hb : Below w.heap.size w w') (h : OwnPost A F w' w'') : OwnPost A F w w'' := by
 obtain ⟨F', h1, h2⟩ := h
 exact ⟨F', h1, Turns.after hb h2⟩
theorem OwnPost.mod {A : World → List Nat → Prop} {F : List Nat} {w w' : World} (h : OwnPost A F w w') : Mod F w w' := by obtain ⟨F', -, h2⟩ := h; exact h2.mod
theorem v_spawn (h : RepV z p f sl L B w F) (K a0 a1 a2 a3 a4 a5 a6 a7 : Int) :
  Calls Tryz.prog 43 #[.pointer (some ⟨p, 0, none⟩), .agg #[.int .i64 K, .int .i64 a0, .int .i64 a1, .int .i64 a2, .int .i64 a3, .int .i64 a4, .int .i64 a5, .int .i64 a6, .int .i64 a7]] w
   (VRet z p f (spawnS sl (K, a0, a1, a2, a3, a4, a5, a6, a7)) (spawnL sl L (K, a0, a1, a2, a3, a4, a5, a6, a7)) B F w (.tuple #[.agg #[.int .i64 (spawnH sl (K, a0, a1, a2, a3, a4, a5, a6, a7)).1, .int .i64 (spawnH sl (K, a0, a1, a2, a3, a4, a5, a6, a7)).2], .int .i64 (spawnE sl (K, a0, a1, a2, a3, a4, a5, a6, a7))])) := by
 obtain ⟨FW, h1, h2⟩ := h.turnW
 exact (spawn_any h1 K a0 a1 a2 a3 a4 a5 a6 a7).mono fun e w' ⟨he, F', a, b⟩ => ⟨he, h2 _ _ _ _ a b⟩
theorem v_kill (h : RepV z p f sl L B w F) (s g : Int) :
  Calls Tryz.prog 95 #[.pointer (some ⟨p, 0, none⟩), .agg #[.int .i64 s, .int .i64 g]] w (VRet z p f (freeL sl s g) (killL L (s, g)) B F w (.int .i64 (killE L (s, g)))) := by
 obtain ⟨FW, h1, h2⟩ := h.turnW
 exact (wkill_any h1 s g).mono fun e w' ⟨he, F', a, b⟩ => ⟨he, h2 _ _ _ _ a b⟩
theorem v_put (h : RepV z p f sl L B w F) (s g k n : Int) :
  Calls Tryz.prog 45 #[.pointer (some ⟨p, 0, none⟩), .agg #[.int .i64 s, .int .i64 g], .int .i64 k, .int .i64 n] w (VRet z p f sl (putW L (s, g) k n) B F w (.int .i64 (putE L (s, g) k n))) := by
 obtain ⟨FW, h1, h2⟩ := h.turnW
 exact (wput_any h1 s g k n).mono fun e w' ⟨he, F', a, b⟩ => ⟨he, h2 _ _ _ _ a b⟩
theorem v_drop (h : RepV z p f sl L B w F) (s g k : Int) :
  Calls Tryz.prog 46 #[.pointer (some ⟨p, 0, none⟩), .agg #[.int .i64 s, .int .i64 g], .int .i64 k] w (VRet z p f sl (dropL L (s, g) k) B F w (.int .i64 (dropE L (s, g) k))) := by
 obtain ⟨FW, h1, h2⟩ := h.turnW
 exact (wdrop_any h1 s g k).mono fun e w' ⟨he, F', a, b⟩ => ⟨he, h2 _ _ _ _ a b⟩
theorem v_adopt (h : RepV z p f sl L B w F) (s g t u : Int) (hc : HdR (s, g)) (hp : HdR (t, u)) :
  Calls Tryz.prog 31 #[.pointer (some ⟨f, 0, none⟩), .agg #[.int .i64 s, .int .i64 g], .agg #[.int .i64 t, .int .i64 u]] w (VRet z p f sl L (adoB B (s, g) (t, u)) F w (.int .i64 (adoE B (s, g) (t, u)))) := by
 obtain ⟨FF, h1, h2⟩ := h.turnF
 exact (adopt_any h1 s g t u hc hp).mono fun e w' ⟨he, a, b⟩ => ⟨he, h2 _ _ _ a ⟨b, fun _ h => .inl h⟩⟩
theorem v_loosen (h : RepV z p f sl L B w F) (s g : Int) (hc : HdR (s, g)) :
  Calls Tryz.prog 47 #[.pointer (some ⟨f, 0, none⟩), .agg #[.int .i64 s, .int .i64 g]] w (VRet z p f sl L (outB B (s, g)) F w (.int .i64 (looE (parB B (s, g))))) := by
 obtain ⟨FF, h1, h2⟩ := h.turnF
 exact (loosen_any h1 s g hc).mono fun e w' ⟨he, a, b⟩ => ⟨he, h2 _ _ _ a ⟨b, fun _ h => .inl h⟩⟩
theorem v_gone (h : RepV z p f sl L B w F) (s g : Int) :
  Calls Tryz.prog 96 #[.pointer (some ⟨f, 0, none⟩), .agg #[.int .i64 s, .int .i64 g]] w (VRet z p f sl L (goneB B (s, g)) F w (.tuple #[])) := by
 obtain ⟨FF, h1, h2⟩ := h.turnF
 exact (gone_any h1 s g).mono fun e w' ⟨he, a, b⟩ => ⟨he, h2 _ _ _ a ⟨b, fun _ h => .inl h⟩⟩
theorem v_under (h : RepV z p f sl L B w F) (hl : B.length ≤ 60) (s g : Int) :
  Calls Tryz.prog 93 #[.pointer (some ⟨f, 0, none⟩), .agg #[.int .i64 s, .int .i64 g]] w (MadeRecs 41 2 handleC (underB B (s, g)) w) := by
 obtain ⟨FF, h1⟩ := h.f_
 exact funder_any (by omega) (lowN B) s g w (lowN_spec h.okF.ac _) h1
end
def RepQ (q : Nat) (sl : Sl) (L : List Rw) (B : List Bd) (w : World) (F : List Nat) : Prop :=
 ∃ vB FZ, RepZ vB w q sl L FZ ∧ w.ownsRow 0 84 4 vB B.length (B.flatMap bdC) ∧ F = FZ ++ vB.ownBlock.toList ∧ ∀ y ∈ FZ, y ∉ vB.ownBlock.toList
section
variable {q : Nat} {sl sl' : Sl} {L L' : List Rw} {B B' : List Bd} {w w' : World} {F G : List Nat}
theorem RepQ.mod (h : RepQ q sl L B w F) (hm : Mod G w w') (hd : ∀ y ∈ F, y ∉ G) : RepQ q sl L B w' F := by
 obtain ⟨vB, FZ, h1, h2, rfl, h3⟩ := h
 exact ⟨vB, FZ, h1.mod hm (fun y hy => hd y (by simp [hy])), row_mod h2 hm (fun k hk => hd k (by simp [hk])), rfl, h3⟩
theorem RepQ.lt (h : RepQ q sl L B w F) : ∀ y ∈ F, y < w.heap.size := by
 obtain ⟨vB, FZ, h1, h2, rfl, h3⟩ := h
 intro y hy
 rcases List.mem_append.1 hy with hy | hy
 ·exact h1.lt y hy
 ·exact row_lt h2 y (by simpa using hy)
theorem RepQ.below (h : RepQ q sl L B w F) (hb : Below w.heap.size w w') : RepQ q sl L B w' F := h.mod (Mod.ofBelow hb) (by simp)
theorem own_Q (q : Nat) (sl : Sl) (L : List Rw) (B : List Bd) : Own (RepQ q sl L B) := ⟨fun h hm hd => h.mod hm hd, fun h => h.lt⟩
def QRet (q : Nat) (sl : Sl) (L : List Rw) (B : List Bd) (F : List Nat) (w : World) (r : Value) (e : Ending) (w' : World) : Prop := e = .returned r ∧ OwnPost (RepQ q sl L B) F w w'
theorem RepQ.turnZ (h : RepQ q sl L B w F) : ∃ vB FZ, RepZ vB w q sl L FZ ∧ ∀ w' sl' L' F', RepZ vB w' q sl' L' F' → Turns w FZ F' w' → OwnPost (RepQ q sl' L' B) F w w' := by
 have hlt := h.lt
 obtain ⟨vB, FZ, h1, h2, rfl, h3⟩ := h
 refine ⟨vB, FZ, h1, fun w' sl' L' F' a b => ⟨F' ++ vB.ownBlock.toList, ⟨vB, F', a, row_mod h2 b.mod (fun k hk e => h3 k e (by simp [hk])), rfl, ?_⟩, b.mod.mono (by intro y hy; simp [hy]), ?_⟩⟩
 ·intro y hy e
  rcases b.new y hy with e2 | e2
  ·exact h3 y e2 e
  ·have := hlt y (List.mem_append.2 (.inr e)); omega
 ·intro y hy
  rcases List.mem_append.1 hy with hy | hy
  ·rcases b.new y hy with e2 | e2
   ·exact .inl (List.mem_append.2 (.inl e2))
   ·exact .inr e2
  ·exact .inl (List.mem_append.2 (.inr hy))
theorem RepQ.turnB (h : RepQ q sl L B w F) : ∃ vg vl vr FB, RepB vg vl vr w q B FB ∧ ∀ w' B' F', RepB vg vl vr w' q B' F' → Turns w FB F' w' → OwnPost (RepQ q sl L B') F w w' := by
 have hlt := h.lt
 obtain ⟨vB, FZ, ⟨vL, FS, ⟨vg, vl, g1, g2, g3, rfl, g4⟩, g5, rfl, g6⟩, h2, rfl, h3⟩ := h
 have hq : q ∉ vB.ownBlock.toList := h3 q (by simp)
 refine ⟨vg, vl, vL, q :: vB.ownBlock.toList, ⟨vB, g1, h2, rfl, hq⟩, fun w' B' F' a b => ?_⟩
 obtain ⟨vB', k1, k2, rfl, k4⟩ := a
 have hn : ∀ y, y ≠ q → (y ∈ (q :: (vg.ownBlock.toList ++ vl.ownBlock.toList)) ++ vL.ownBlock.toList) → y ∉ q :: vB.ownBlock.toList := fun y hy hm e => by
  rcases List.mem_cons.1 e with e | e
  ·exact hy e
  ·exact h3 y hm e
 have hnd := List.nodup_append.1 g6
 have hqg : q ∉ vg.ownBlock.toList ++ vl.ownBlock.toList := (List.nodup_cons.1 g4).1
 refine ⟨((q :: (vg.ownBlock.toList ++ vl.ownBlock.toList)) ++ vL.ownBlock.toList) ++ vB'.ownBlock.toList, ⟨vB', _, ⟨vL, _, ⟨vg, vl, k1, row_mod g2 b.mod (fun k hk => ?_), row_mod g3 b.mod (fun k hk => ?_), rfl, g4⟩, row_mod g5 b.mod (fun k hk => ?_), rfl, g6⟩, k2, rfl, ?_⟩, b.mod.mono (by
  intro y hy
  rcases List.mem_cons.1 hy with rfl | hy
  ·exact .inl (by simp)
  ·exact .inl (List.mem_append.2 (.inr hy))), ?_⟩
 ·refine hn k ?_ (by simp [hk])
  rintro rfl
  exact hqg (by simp [hk])
 ·refine hn k ?_ (by simp [hk])
  rintro rfl
  exact hqg (by simp [hk])
 ·refine hn k ?_ (by simp [hk])
  rintro rfl
  exact (hnd.2.2 k (by simp) k (by simp [hk])) rfl
 ·intro y hy e
  by_cases ey : y = q
  ·subst ey; exact k4 e
  ·rcases b.new y (List.mem_cons_of_mem _ e) with e2 | e2
   ·exact hn y ey hy e2
   ·have := hlt y (List.mem_append.2 (.inl hy)); omega
 ·intro y hy
  rcases List.mem_append.1 hy with hy | hy
  ·exact .inl (List.mem_append.2 (.inl hy))
  ·rcases b.new y (List.mem_cons_of_mem _ hy) with e2 | e2
   ·rcases List.mem_cons.1 e2 with rfl | e2
    ·exact .inl (by simp)
    ·exact .inl (List.mem_append.2 (.inr e2))
   ·exact .inr e2
theorem RepQ.z_ (h : RepQ q sl L B w F) : ∃ vB FZ, RepZ vB w q sl L FZ := by obtain ⟨vB, FZ, h1, -⟩ := h; exact ⟨vB, FZ, h1⟩
theorem RepQ.b_ (h : RepQ q sl L B w F) : ∃ vg vl vr FB, RepB vg vl vr w q B FB := by obtain ⟨vg, vl, vr, FB, h1, -⟩ := h.turnB; exact ⟨vg, vl, vr, FB, h1⟩
theorem q_spawn (h : RepQ q sl L B w F) (hO : WOk sl L) (K a0 a1 a2 a3 a4 a5 a6 a7 : Int) :
  Calls Tryz.prog 48 #[.pointer (some ⟨q, 0, none⟩), .agg #[.int .i64 K, .int .i64 a0, .int .i64 a1, .int .i64 a2, .int .i64 a3, .int .i64 a4, .int .i64 a5, .int .i64 a6, .int .i64 a7]] w
   (QRet q (spawnS sl (K, a0, a1, a2, a3, a4, a5, a6, a7)) (spawnL sl L (K, a0, a1, a2, a3, a4, a5, a6, a7)) B F w (.tuple #[.agg #[.int .i64 (spawnH sl (K, a0, a1, a2, a3, a4, a5, a6, a7)).1, .int .i64 (spawnH sl (K, a0, a1, a2, a3, a4, a5, a6, a7)).2], .int .i64 (spawnE sl (K, a0, a1, a2, a3, a4, a5, a6, a7))])) := by
 obtain ⟨vB, FZ, h1, h2⟩ := h.turnZ
 exact (zspawn_any h1 hO K a0 a1 a2 a3 a4 a5 a6 a7).mono fun e w' ⟨he, F', a, b⟩ => ⟨he, h2 _ _ _ _ a b⟩
theorem q_kill (h : RepQ q sl L B w F) (hO : WOk sl L) (s g : Int) :
  Calls Tryz.prog 53 #[.pointer (some ⟨q, 0, none⟩), .agg #[.int .i64 s, .int .i64 g]] w (QRet q (freeL sl s g) (killL L (s, g)) B F w (.int .i64 (killE L (s, g)))) := by
 obtain ⟨vB, FZ, h1, h2⟩ := h.turnZ
 exact (zkill_any h1 hO s g).mono fun e w' ⟨he, F', a, b⟩ => ⟨he, h2 _ _ _ _ a b⟩
theorem q_put (h : RepQ q sl L B w F) (hO : WOk sl L) (s g k n : Int) :
  Calls Tryz.prog 49 #[.pointer (some ⟨q, 0, none⟩), .agg #[.int .i64 s, .int .i64 g], .int .i64 k, .int .i64 n] w (QRet q sl (putW L (s, g) k n) B F w (.int .i64 (putE L (s, g) k n))) := by
 obtain ⟨vB, FZ, h1, h2⟩ := h.turnZ
 exact (zput_any h1 hO s g k n).mono fun e w' ⟨he, F', a, b⟩ => ⟨he, h2 _ _ _ _ a b⟩
theorem q_drop (h : RepQ q sl L B w F) (hO : WOk sl L) (s g k : Int) :
  Calls Tryz.prog 50 #[.pointer (some ⟨q, 0, none⟩), .agg #[.int .i64 s, .int .i64 g], .int .i64 k] w (QRet q sl (dropL L (s, g) k) B F w (.int .i64 (dropE L (s, g) k))) := by
 obtain ⟨vB, FZ, h1, h2⟩ := h.turnZ
 exact (zdrop_any h1 hO s g k).mono fun e w' ⟨he, F', a, b⟩ => ⟨he, h2 _ _ _ _ a b⟩
theorem q_adopt (h : RepQ q sl L B w F) (hO : FamOk B) (hl : B.length ≤ 60) (s g t u : Int) :
  Calls Tryz.prog 34 #[.pointer (some ⟨q, 0, none⟩), .agg #[.int .i64 s, .int .i64 g], .agg #[.int .i64 t, .int .i64 u]] w (QRet q sl L (adoB B (s, g) (t, u)) F w (.int .i64 (adoE B (s, g) (t, u)))) := by
 obtain ⟨vg, vl, vr, FB, h1, h2⟩ := h.turnB
 exact (radopt_any hO (by omega) h1 s g t u).mono fun e w' ⟨he, F', a, b⟩ => ⟨he, h2 _ _ _ a b⟩
theorem q_loosen (h : RepQ q sl L B w F) (hl : B.length ≤ 60) (s g : Int) :
  Calls Tryz.prog 51 #[.pointer (some ⟨q, 0, none⟩), .agg #[.int .i64 s, .int .i64 g]] w (QRet q sl L (outB B (s, g)) F w (.int .i64 (looE (parB B (s, g))))) := by
 obtain ⟨vg, vl, vr, FB, h1, h2⟩ := h.turnB
 exact (rloosen_any h1 (by omega) s g).mono fun e w' ⟨he, F', a, b⟩ => ⟨he, h2 _ _ _ a b⟩
theorem q_gone (h : RepQ q sl L B w F) (hl : B.length ≤ 60) (s g : Int) :
  Calls Tryz.prog 54 #[.pointer (some ⟨q, 0, none⟩), .agg #[.int .i64 s, .int .i64 g]] w (QRet q sl L (goneB B (s, g)) F w (.tuple #[])) := by
 obtain ⟨vg, vl, vr, FB, h1, h2⟩ := h.turnB
 exact (rgone_any h1 (by omega) s g).mono fun e w' ⟨he, F', a, b⟩ => ⟨he, h2 _ _ _ a b⟩
theorem q_under (h : RepQ q sl L B w F) (hO : FamOk B) (hl : B.length ≤ 60) (s g : Int) :
  Calls Tryz.prog 52 #[.pointer (some ⟨q, 0, none⟩), .agg #[.int .i64 s, .int .i64 g]] w (MadeRecs 41 2 handleC (underB B (s, g)) w) := by
 obtain ⟨vg, vl, vr, FB, h1⟩ := h.b_
 exact runder_any hO (by omega) (lowN B) s g w (lowN_spec hO.ac _) h1
theorem q_at (h : RepQ q sl L B w F) (hO : WOk sl L) (s g : Int) :
  Calls Tryz.prog 33 #[.pointer (some ⟨q, 0, none⟩), .agg #[.int .i64 s, .int .i64 g]] w (fun e w' => e = .returned (.int .i64 (atI L (s, g))) ∧ Below w.heap.size w w') := by
 obtain ⟨vB, FZ, h1⟩ := h.z_
 exact at_any h1 hO.len s g
end
def revK {α : Type} (l : List α) (k : Nat) : List α := l.mapIdx fun i x => if i < k ∨ l.length - k ≤ i then l.getD (l.length - 1 - i) x else x
theorem revK_length {α : Type} (l : List α) (k : Nat) : (revK l k).length = l.length := by simp [revK]
theorem revK_zero {α : Type} (l : List α) : revK l 0 = l := by
 unfold revK
 apply List.ext_getElem (by simp)
 intro i h1 h2
 simp only [List.getElem_mapIdx]
 rw [if_neg (by simp at h1 ⊢; omega)]
theorem revK_get {α : Type} (l : List α) (k i : Nat) (h : i < l.length) : (revK l k)[i]'(by rw [revK_length]; exact h) = if i < k ∨ l.length - k ≤ i then l[l.length - 1 - i] else l[i] := by
 unfold revK
 simp only [List.getElem_mapIdx]
 split
 ·rw [List.getD_eq_getElem?_getD, List.getElem?_eq_getElem (by omega)]; rfl
 ·rfl
theorem revK_end {α : Type} (l : List α) (k : Nat) (h : l.length ≤ 2 * k + 1) (hk : k ≤ l.length) : revK l k = l.reverse := by
 apply List.ext_getElem (by rw [revK_length, List.length_reverse])
 intro i h1 h2
 rw [revK_length] at h1
 rw [revK_get l k i h1, List.getElem_reverse]
 split
 ·rfl
 ·congr 1; omega
theorem revK_step {α : Type} (l : List α) (k : Nat) (h : 2 * k + 1 < l.length) : ((revK l k).set k (l[l.length - 1 - k])).set (l.length - 1 - k) l[k] = revK l (k + 1) := by
 apply List.ext_getElem (by simp [revK_length])
 intro i h1 h2
 rw [revK_length] at h2
 rw [revK_get l (k + 1) i h2]
 by_cases e : i = l.length - 1 - k
 ·subst e
  rw [List.getElem_set_self, if_pos (by omega)]
  congr 1; omega
 ·rw [List.getElem_set_ne (Ne.symm e)]
  by_cases e2 : i = k
  ·subst e2
   rw [List.getElem_set_self, if_pos (by omega)]
  ·rw [List.getElem_set_ne (Ne.symm e2), revK_get l k i h2]
   by_cases h3 : i < k ∨ l.length - k ≤ i
   ·rw [if_pos h3, if_pos (by omega)]
   ·rw [if_neg h3, if_neg (by omega)]
theorem revK_at {α : Type} (l : List α) (k m : Nat) (h : k + m + 1 = l.length) (hkm : k < m) : ((revK l k).set k (l[m])).set m (l[k]) = revK l (k + 1) := by
 have := revK_step l k (by omega)
 have e : l.length - 1 - k = m := by omega
 simpa only [e] using this
attribute [local go_sem] AllFrom.cons_eq AllFrom.nil_eq putF_nil putF_cons wantedL_none wantedL_some OpGoalQ YieldsR preF_nil preF_cons
end Go.Proofs.YtehjfmjibiafdaaGreat
