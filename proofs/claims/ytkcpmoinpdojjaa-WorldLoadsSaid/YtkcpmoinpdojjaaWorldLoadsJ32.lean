import Derived.Test.YtkcpmoinpdojjaaWorldLoadsJ31
import Derived.Test.YtkcpmoinpdojjaaWorldLoadsJ7
import Derived.Test.YtkcpmoinpdojjaaWorldLoadsJ27
import Derived.Lib.SmallJoins
import Derived.Test.YtkcpmoinpdojjaaRows
/- Worlds: Rows, walked. (printed by mk_wrows2.py) -/
namespace Go.Proofs.Ytkcpmoinpdojjaa
open Go Go.RowKit

attribute [local go_sem] AllFrom.cons_eq AllFrom.nil_eq putF_nil putF_cons wantedL_none wantedL_some OpGoalT OpGoalV OpGoalQ OpGoalA OpGoalK YieldsR preF_nil preF_cons

set_option maxRecDepth 20000 in
set_option maxHeartbeats 4000000 in
theorem wrows_any {w : World} {p : Nat} {sl : Sl} {L : List Rw} {F : List Nat} (h : RepW w p sl L F) (n t a : Int) :
    Calls Try.prog 56 #[.pointer (some ⟨p, 0, none⟩), .agg #[.int .i64 n, .int .i64 t, .int .i64 a]] w (RowsPost w.heap.size L n t a w) := by
  obtain ⟨w0, hw0, hb0, hz0, hs0⟩ := box1 w (.cells #[.int .i64 n, .int .i64 t, .int .i64 a] 26)
  have H1 := Lib.hid (checkQuery_any n t a)
  have h0 := h.below hb0
  have r0 := blk_cell hz0 0
  have r1 := blk_cell hz0 1
  have r2 := blk_cell hz0 2
  simp only [List.getElem?_toArray, List.getElem?_cons_zero, List.getElem?_cons_succ] at r0 r1 r2
  have rl := blk_lt hz0
  unfold RowsPost
  cases hz : qcheck n t a == 0 with
  | false =>
    have he : qcheck n t a ≠ 0 := by simpa using hz
    rw [if_neg he]
    have hq : (qcheck n t a != 0) = true := by simpa using he
    generalize qcheck n t a = z at *
    have Hb0 := Lib.hid hb0; have Hs0 := Lib.hid hs0
    clear hb0 hs0
    clear hz0 h0 he h
    go_enter Try.func56, Try.ntmps56
    go_wp2_with fail
    clear hw0
    refine (H1.out _).mono ?_
    rintro e w1 ⟨rfl, hb1⟩
    have hB := Hb0.out.trans (hb1.mono Hb0.out.size)
    have HB := Lib.hid hB
    clear hB
    clear hb1
    go_wp2
    go_ret2
    exact ⟨_, rfl, ⟨rfl, .inl ⟨rfl, rfl⟩⟩, HB.out⟩
  | true =>
    have he : qcheck n t a = 0 := by simpa using hz
    rw [if_pos he]
    simp only [he] at H1
    rw [he]
    obtain ⟨ps, mt, mp, tb, rw, pl, FS, Fs, c, hW, hC, hO, -⟩ := h0
    have Hb0 := Lib.hid hb0; have Hs0 := Lib.hid hs0; have HW0 := Lib.hid hW; have HC := Lib.hid hC; have HO := Lib.hid hO; have Hz0 := Lib.hid hz0
    clear hb0 hs0 hW hC hO hz0
    clear h hz he
    go_enter Try.func56, Try.ntmps56
    go_wp2_with fail
    clear hw0
    refine (H1.out _).mono ?_
    rintro e w1 ⟨rfl, hb1⟩
    have hB := Hb0.out.trans (hb1.mono Hb0.out.size)
    have hz1 := (Mod.ofBelow hb1).keep Hz0.out (by simp)
    have hW1 := HW0.out.below hb1
    have e0 := blk_cell hW1.blk 1
    simp only [List.getElem?_toArray, List.getElem?_cons_zero, List.getElem?_cons_succ] at e0
    have hpl := blk_lt hW1.blk
    have H2 := Lib.hid (coll_any hW1.tm (by have := (HC.out.tabs HO.out).2; omega))
    have HB := Lib.hid hB; have Hz1 := Lib.hid hz1; have HW1 := Lib.hid hW1
    clear hB hz1 hW1
    clear hb1 r0 r1 r2 rl
    go_wp2_with fail
    refine (keys_any _ _).mono ?_
    rintro e w2 ⟨rfl, rfl⟩
    go_wp2_with fail
    refine H2.out.mono ?_
    rintro e w3 ⟨vk, ss, rfl, hp, hks, hb3⟩
    have hb13 : Below w1.heap.size w1 w3 := ((Below.refl w1.heap.size w1).alloc (Nat.le_refl _) _).trans (hb3.mono (by simp))
    obtain ⟨Ak, ck, hvk, hck, hck2⟩ := row_slice hks
    subst hvk
    have hlk : ss.length ≤ 256 := by
      have h1 := hp.length_eq
      rw [List.length_map] at h1
      have := (HC.out.tabs HO.out).2
      omega
    have hz3 := (Mod.ofBelow hb13).keep Hz1.out (by simp)
    have hW3 := HW1.out.below hb13
    have hB3 := HB.out.trans (hb13.mono HB.out.size)
    have HP := Lib.hid hp; have HKS := Lib.hid hks; have Hz3 := Lib.hid hz3; have HW3 := Lib.hid hW3; have HB3 := Lib.hid hB3
    clear hp hks hz3 hW3 hB3
    clear hb13 hb3 e0 hpl hck hck2
    go_wp2_with fail
    go_loopw [7, 26] (fun v i wr => ∃ m : Nat, m ≤ ss.length ∧ i = .int .i64 m ∧ wr.ownsRow w3.heap.size 51 11 v (rowsK rw n t a (ss.take m)).length ((rowsK rw n t a (ss.take m)).flatMap rwC) ∧ Below w3.heap.size w3 wr) (fun _ i _ => ss.length - (intOf i).toNat)
    case atStart => exact ⟨0, by omega, rfl, ⟨rfl, .inl ⟨rfl, rfl⟩⟩, Below.refl _ _⟩
    case round =>
      obtain ⟨m, hm, rfl, hown, hbel⟩ := hrel
      have hzr := (Mod.ofBelow hbel).keep Hz3.out (by simp)
      have hWr := HW3.out.below hbel
      have hBr := HB3.out.trans (hbel.mono HB3.out.size)
      by_cases hlt : m < ss.length
      · have hkr := row_mod HKS.out (Mod.ofBelow hbel) (by simp)
        obtain ⟨gk, ck2, -, hv, -, -, -⟩ := row_some hkr (by omega)
        cases hv
        have hcell := row_cell hkr (i := m) (u := .int .i64 ss[m]) (by unfold ints; rw [List.getElem?_map, List.getElem?_eq_getElem hlt]; rfl)
        have hgk := row_lt hkr gk rfl
        obtain ⟨⟨kn, b⟩, hx, hxe⟩ := List.mem_map.1 (HP.out.mem_iff.1 (List.getElem_mem hlt))
        simp only at hxe
        rw [← hxe] at hcell
        have hkt : kn ∈ tb.map (·.1) := List.mem_map.2 ⟨_, hx, rfl⟩
        obtain ⟨hkn, hl60⟩ := (HC.out.tabs HO.out).1 kn hkt
        have hsn : rowsK rw n t a (ss.take (m + 1)) = rowsK rw n t a (ss.take m) ++ (if matchesB (kn : Int) n t a = true then rw kn else []) := by
          rw [take_succ_get ss m hlt, rowsK_snoc, ← hxe, Int.toNat_natCast]
        have hlen : (rowsK rw n t a (ss.take m)).length ≤ 60 * m := by
          have h1 := rowsK_len (rw := rw) (n := n) (t := t) (a := a) (ks := ss.take m) (fun k hk => by
            obtain ⟨x, hx, rfl⟩ := List.mem_map.1 (HP.out.mem_iff.1 (List.mem_of_mem_take hk))
            rw [Int.toNat_natCast]
            exact ((HC.out.tabs HO.out).1 x.1 (List.mem_map.2 ⟨x, hx, rfl⟩)).2)
          rw [List.length_take, Nat.min_eq_left hm] at h1
          exact h1
        generalize rowsK rw n t a (ss.take m) = M at *
        have hmi : (m : Int) < (ss.length : Int) := by omega
        have H8 := Lib.hid (matches_any (kn : Int) n t a)
        have r0 := blk_cell hzr 0
        have r1 := blk_cell hzr 1
        have r2 := blk_cell hzr 2
        simp only [List.getElem?_toArray, List.getElem?_cons_zero, List.getElem?_cons_succ] at r0 r1 r2
        have rl := blk_lt hzr
        generalize hmz : matchesB (kn : Int) n t a = z at *
        have HWr := Lib.hid hWr; have HBr := Lib.hid hBr; have Hkr := Lib.hid hkr; have Hown := Lib.hid hown; have Hbel := Lib.hid hbel; have Hsn := Lib.hid hsn; have Hlen := Lib.hid hlen; have Hxe := Lib.hid hxe; have Hx := Lib.hid hx; have Hkt := Lib.hid hkt; have Hkn := Lib.hid hkn; have Hl60 := Lib.hid hl60; have Hzr := Lib.hid hzr; have Hmz := Lib.hid hmz
        clear hWr hBr hkr hown hbel hsn hlen hxe hx hkt hkn hl60 hzr hmz
        cases z with
        | false =>
          go_wp2_with fail
          refine (H8.out _).mono ?_
          rintro e w4 ⟨rfl, hb4⟩
          have ho4 := row_mod Hown.out (Mod.ofBelow hb4) (by simp)
          have hB4 := Hbel.out.trans (hb4.mono Hbel.out.size)
          have hsn := Hsn.out
          rw [if_neg (by simp), List.append_nil] at hsn
          have Ho4 := Lib.hid ho4; have HB4 := Lib.hid hB4; have Hsn2 := Lib.hid hsn
          clear ho4 hB4 hsn
          clear hb4
          go_wp2
          go_roundw
          case rel => exact ⟨m + 1, by omega, by go_num, by rw [Hsn2.out]; exact Ho4.out, HB4.out⟩
          case measure => simp [intOf]; omega
        | true =>
          go_wp2_with fail
          refine (H8.out _).mono ?_
          rintro e w4 ⟨rfl, hb4⟩
          have ho4 := row_mod Hown.out (Mod.ofBelow hb4) (by simp)
          have hW4 := HWr.out.below hb4
          have hB4 := Hbel.out.trans (hb4.mono Hbel.out.size)
          have e0 := blk_cell hW4.blk 1
          simp only [List.getElem?_toArray, List.getElem?_cons_zero, List.getElem?_cons_succ] at e0
          have hpl := blk_lt hW4.blk
          have hlk := mi_in colPr_keys Try.underlying78 hW4.tm Hkn.out Hx.out false
          simp only [colPr, Bool.false_eq_true, if_false] at hlk
          have H10 := Lib.hid (rt_handles (hW4.tab _ Hx.out) (by have := Hl60.out; simp only; omega))
          have hsn := Hsn.out
          rw [if_pos (by simp)] at hsn
          have Ho4 := Lib.hid ho4; have HB4 := Lib.hid hB4; have Hsn2 := Lib.hid hsn; have HW4 := Lib.hid hW4
          clear ho4 hB4 hsn hW4
          clear hb4 r0 r1 r2 rl hcell hgk
          go_wp2_with fail
          refine H10.out.mono ?_
          rintro e w5 ⟨vh, rfl, hvh, hb5⟩
          obtain ⟨Ah, ch, hve, -, -⟩ := row_slice hvh
          subst hve
          have ho5 := row_mod Ho4.out (Mod.ofBelow hb5) (by simp)
          have hB5 := HB4.out.trans (hb5.mono HB4.out.size)
          have hl := Hl60.out
          have Ho5 := Lib.hid ho5; have HB5 := Lib.hid hB5
          clear ho5 hB5
          clear hvh hb5 e0 hpl hlk
          go_wp2_with fail
          go_loopw [7, 43] (fun v j wu => ∃ u : Nat, u ≤ (rw kn).length ∧ j = .int .i64 u ∧ wu.ownsRow w3.heap.size 51 11 v (M ++ (rw kn).take u).length ((M ++ (rw kn).take u).flatMap rwC) ∧ Below w3.heap.size w3 wu) (fun _ j _ => (rw kn).length - (intOf j).toNat)
          case atStart => exact ⟨0, by omega, rfl, by simpa using Ho5.out, HB5.out⟩
          case round =>
            obtain ⟨u, hu, rfl, hou, hbu⟩ := hrel
            have hWu := HW3.out.below hbu
            by_cases hul : u < (rw kn).length
            · have hxu : (rw kn)[u]? = some (rw kn)[u] := List.getElem?_eq_getElem hul
              obtain ⟨x, hxx⟩ : ∃ x, (rw kn)[u] = x := ⟨_, rfl⟩
              rw [hxx] at hxu
              obtain ⟨hxL, hxk, -⟩ := HC.out.row kn Hkt.out u x hxu
              have hgood := (beastZ_good (HO.out.be x hxL) hxk).1
              have h13 := rt_row (hWu.tab _ Hx.out) hxu hgood (by simp only; omega)
              have hst : M ++ (rw kn).take (u + 1) = (M ++ (rw kn).take u) ++ [x] := by
                rw [take_succ_get _ u hul, hxx, List.append_assoc]
              have hlm : (M ++ (rw kn).take u).length < 1200000000000 := by
                rw [List.length_append, List.length_take]; have := Hlen.out; omega
              generalize M ++ (rw kn).take u = M2 at *
              obtain ⟨⟨s1, g1⟩, K1, a0, a1, a2, a3, a4, a5, a6, a7⟩ := x
              simp only at hxk
              subst hxk
              have hui : (u : Int) < ((rw kn).length : Int) := by omega
              rw [show (rwC ((s1, g1), (kn : Int), a0, a1, a2, a3, a4, a5, a6, a7)).toArray = #[.int .i64 s1, .int .i64 g1, .int .i64 (kn : Int), .int .i64 a0, .int .i64 a1, .int .i64 a2, .int .i64 a3, .int .i64 a4, .int .i64 a5, .int .i64 a6, .int .i64 a7] from rfl] at h13
              have HWu := Lib.hid hWu; have Hou := Lib.hid hou; have Hst := Lib.hid hst; have Hbu := Lib.hid hbu; have Hlm := Lib.hid hlm; have H13 := Lib.hid h13
              clear hWu hou hst hbu hlm h13
              clear hxu hxL hgood hxx
              go_wp2_with fail
              refine H13.out.mono ?_
              rintro e w6 ⟨rfl, hb6⟩
              obtain ⟨w7, hw7⟩ : ∃ w7, w6.alloc (.cells #[.int .i64 s1, .int .i64 g1, .int .i64 (kn : Int), .int .i64 a0, .int .i64 a1, .int .i64 a2, .int .i64 a3, .int .i64 a4, .int .i64 a5, .int .i64 a6, .int .i64 a7] 51) = w7 := ⟨_, rfl⟩
              have hb7 : Below w6.heap.size w6 w7 := by rw [← hw7]; exact (Below.refl _ _).alloc (Nat.le_refl _) _
              have hz7 : w7.heap[w6.heap.size]? = some (.cells #[.int .i64 s1, .int .i64 g1, .int .i64 (kn : Int), .int .i64 a0, .int .i64 a1, .int .i64 a2, .int .i64 a3, .int .i64 a4, .int .i64 a5, .int .i64 a6, .int .i64 a7] 51 (0, 0)) := by rw [← hw7]; exact heap_alloc_new w6 _
              have hb67 := hb6.trans (hb7.mono hb6.size)
              have hou7 := row_mod Hou.out (Mod.ofBelow hb67) (by simp)
              have hbu7 := Hbu.out.trans (hb67.mono Hbu.out.size)
              have x0 := blk_cell hz7 0
              have x1 := blk_cell hz7 1
              have x2 := blk_cell hz7 2
              have x3 := blk_cell hz7 3
              have x4 := blk_cell hz7 4
              have x5 := blk_cell hz7 5
              have x6 := blk_cell hz7 6
              have x7 := blk_cell hz7 7
              have x8 := blk_cell hz7 8
              have x9 := blk_cell hz7 9
              have x10 := blk_cell hz7 10
              simp only [List.getElem?_toArray, List.getElem?_cons_zero, List.getElem?_cons_succ] at x0 x1 x2 x3 x4 x5 x6 x7 x8 x9 x10
              have xl := blk_lt hz7
              have Hou7 := Lib.hid hou7; have Hbu7 := Lib.hid hbu7
              clear hou7 hbu7
              clear hb6 hb7 hz7 hb67
              go_wp2_with (at_builtin; (refine app_row rfl _ _ rfl w3.heap.size _ M2 ((s1, g1), (kn : Int), a0, a1, a2, a3, a4, a5, a6, a7) ⟨w7.heap.size, 0, none⟩ 1 rfl (Hou7.out.alloc _) rfl (new_rec (by simp) rfl) Hlm.out (by have := Hbu7.out.size; simp; omega) ?_); intro v' w8 hown8 hb8)
              go_roundw
              case rel => exact ⟨u + 1, by omega, by go_num, by rw [Hst.out]; exact hown8, (Hbu7.out.alloc Hbu7.out.size _).trans hb8⟩
              case measure => simp [intOf]; omega
            · obtain rfl : u = (rw kn).length := by omega
              rw [List.take_length] at hou
              have Hou := Lib.hid hou; have HBu := Lib.hid hbu
              clear hou hbu
              clear hWu
              go_wp2
              go_roundw
              case rel => exact ⟨m + 1, by omega, by go_num, by rw [Hsn2.out]; exact Hou.out, HBu.out⟩
              case measure => simp [intOf]; omega
      · obtain rfl : m = ss.length := by omega
        rw [List.take_length] at hown
        have hlen : (rowsK rw n t a ss).length ≤ 60 * ss.length := rowsK_len (fun k hk => by
            obtain ⟨x, hx, rfl⟩ := List.mem_map.1 (HP.out.mem_iff.1 hk)
            rw [Int.toNat_natCast]
            exact ((HC.out.tabs HO.out).1 x.1 (List.mem_map.2 ⟨x, hx, rfl⟩)).2)
        have H17 := Lib.hid (sortRows_any hown (by omega))
        have HBr := Lib.hid hBr; have Hown := Lib.hid hown
        clear hBr hown
        clear hzr hWr hbel hlen
        go_wp2_with fail
        refine H17.out.mono ?_
        rintro e w9 ⟨rfl, l', hl1, hl2, hown9, hm9⟩
        have hl' := rows_sorted HC.out HO.out HP.out n t a hl1 hl2
        subst hl'
        have hB9 : Below w.heap.size w w9 := HBr.out.trans (hm9.toBelow (fun y hy => Nat.le_trans HB3.out.size (Hown.out.lt y (by simpa using hy)).1) HBr.out.size)
        have hown9 := row_base hown9 (B' := w.heap.size) (fun k hk => Nat.le_trans HB3.out.size (hown9.lt k hk).1)
        have Hown9 := Lib.hid hown9; have HB9 := Lib.hid hB9
        clear hown9 hB9
        clear hl1 hl2 hm9
        go_wp2
        go_ret2
        exact ⟨_, rfl, Hown9.out, HB9.out⟩
end Go.Proofs.Ytkcpmoinpdojjaa

/- The contract of Eq at lists of rows. -/
namespace Go.Proofs.Ytkcpmoinpdojjaa
open Go Go.RowKit

attribute [local go_sem] AllFrom.cons_eq AllFrom.nil_eq putF_nil putF_cons wantedL_none wantedL_some OpGoalQ YieldsR preF_nil preF_cons

set_option maxRecDepth 20000 in
set_option maxHeartbeats 1000000 in
theorem eqRow_any (A : Option Addr) (c : Nat) (A' : Option Addr) (c' : Nat) (l l' : List Rw) (w : World) (hl : l.length ≤ 9223372036854775807) (hl' : l'.length ≤ 9223372036854775807)
    (hA : Lies w w.heap.size A (l.flatMap rwC)) (hA' : Lies w w.heap.size A' (l'.flatMap rwC)) :
    Calls Try.prog 55 #[.slice A l.length c, .slice A' l'.length c'] w fun e w' => e = .returned (.bool (eqB l l')) ∧ Below w.heap.size w w' := by
  by_cases hlen : l.length = l'.length
  · have hb : ((l.length : Int) != (l'.length : Int)) = false := by simp [hlen]
    have Hlen := Lib.hid hlen
    clear hlen
    go_enter Try.func55, Try.ntmps55
    go_wp2
    go_loopw [14] (fun i wr => ∃ k : Nat, k ≤ l.length ∧ i = .int .i64 k ∧ l.take k = l'.take k ∧ Below w.heap.size w wr) (fun i _ => l.length - (intOf i).toNat)
    case atStart => exact ⟨0, by omega, rfl, rfl, Below.refl _ _⟩
    case round =>
      obtain ⟨k, hk, rfl, heq, hbel⟩ := hrel
      have Heq := Lib.hid heq
      clear heq hb
      have hsz := hbel.size
      by_cases hlt : k < l.length
      · have hlt' : k < l'.length := by rw [← Hlen.out]; exact hlt
        obtain ⟨ab, ao, rfl, hal, hc⟩ := hA.rec_at rwC_len (by omega) hlt
        obtain ⟨bb, bo, rfl, hbl, hc'⟩ := hA'.rec_at rwC_len (by omega) hlt'
        have hs := take_succ_get l k hlt
        have hs' := take_succ_get l' k hlt'
        have hne : l[k] ≠ l'[k] → l ≠ l' := by
          intro h e; subst e; exact h rfl
        have hc1 : ∀ j u, (rwC l[k])[j]? = some u → wr.cell? ((⟨ab, ao + k * 11, none⟩ : Addr).add j) = some u := fun j u hu => by
          have := (hbel.cell (p := ⟨ab, ao + k * 11 + j, none⟩) hal).trans (hc j u hu)
          rw [Addr.add_mid]; exact this
        have hc2 : ∀ j u, (rwC l'[k])[j]? = some u → wr.cell? ((⟨bb, bo + k * 11, none⟩ : Addr).add j) = some u := fun j u hu => by
          have := (hbel.cell (p := ⟨bb, bo + k * 11 + j, none⟩) hbl).trans (hc' j u hu)
          rw [Addr.add_mid]; exact this
        have hal2 : ab < wr.heap.size := by omega
        have hbl2 : bb < wr.heap.size := by omega
        have hin : (k : Int) < (l'.length : Int) := by omega
        generalize l[k] = x at *
        generalize l'[k] = y at *
        have Hs := Lib.hid hs; have Hs' := Lib.hid hs'; have Hne := Lib.hid hne; have Hc1 := Lib.hid hc1; have Hc2 := Lib.hid hc2; have Hbel := Lib.hid hbel
        have he := fun w => neqRow w x y
        clear hs hs' hne hc hc' hA hA' hc1 hc2 hbel
        generalize hr : eqB x y = r at *
        have Hr := Lib.hid hr
        clear hr
        have hDa : ∀ u ∈ rwC x, u.oneCell' = true := rwC_one x
        have HDa := Lib.hid hDa
        clear hDa
        go_wp2_with (first | (refine wpList_load_flat rfl 51 (.tmp 17) rfl _ rfl (rwC x) _ Try.underlying51 rfl (sz_Row _) Hc1.out ?_) | (refine wpList_store_new rfl 51 (.tmp 6) (.tmp 18) rfl wr (ints [0, 0, 0, 0, 0, 0, 0, 0, 0, 0, 0]) (rwC x) 51 rfl rfl rfl (sz_Row _) HDa.out ?_))
        have hnew : ∀ j u, (rwC x)[j]? = some u → (wr.alloc (.cells (rwC x).toArray 51)).drew.cell? ((⟨wr.heap.size, 0, none⟩ : Addr).add j) = some u := fun j u hu => new_rec rfl (by simp) j u hu
        have hold : ∀ j u, (rwC y)[j]? = some u → (wr.alloc (.cells (rwC x).toArray 51)).drew.cell? ((⟨bb, bo + k * 11, none⟩ : Addr).add j) = some u := fun j u hu => by
          have := Hc2.out j u hu
          rw [Addr.add_mid] at this ⊢
          exact (((Below.refl wr.heap.size wr).alloc (Nat.le_refl _) _).cell (p := ⟨bb, bo + k * 11 + j, none⟩) hbl2).trans this
        have Hnew := Lib.hid hnew; have Hold := Lib.hid hold
        clear hnew hold
        refine wp_planR 6 [1, 2] [some 19, some 20, some 21, some 22, some 23, some 24] [[], [], [], [1, 2], [1, 2, 3], [0, 1, 2, 3, 4]] [0, 1, 2, 3, 4, 5] mixed rfl (by kernel_rfl) (by decide) (by decide) rfl ?_
        iterate 6 apply Exists.intro
        refine ⟨rfl, ?_, ?_⟩
        · simp only [List.take_succ_cons, List.take_zero, AllFrom.cons_eq, AllFrom.nil_eq, OpGoalQ]
          refine ⟨?_, ?_, ?_, ?_, ?_, ?_, trivial⟩
          all_goals (intro σ hp; (try simp only [List.getD_cons_zero, List.getD_cons_succ, List.map_cons, List.map_nil, preF_cons, preF_nil, isV, and_true] at hp); (first | (have hq : True := hp; clear hq hp) | skip))
          · (simp only [wantedL_none, ↓reduceIte, List.getD_cons_zero, List.getD_cons_succ]; refine yr_load 51 (.tmp 6) (by rfl) ⟨wr.heap.size, 0, none⟩ ?_ (rwC x) _ Try.underlying51 rfl (sz_Row _) Hnew.out ?_; (· go_simp); (· exact ⟨rfl, rfl⟩))
          · (go_simp; exact ⟨rfl, rfl⟩)
          · (go_simp; exact ⟨rfl, rfl⟩)
          · (go_simp; exact ⟨rfl, rfl⟩)
          · (simp only [wantedL_none, ↓reduceIte, List.getD_cons_zero, List.getD_cons_succ]; refine yr_load 51 (.tmp 22) (by rfl) ⟨bb, bo + k * 11, none⟩ ?_ (rwC y) _ Try.underlying51 rfl (sz_Row _) Hold.out ?_; (· go_simp); (· exact ⟨rfl, rfl⟩))
          · (go_simp; exact ⟨rfl, rfl⟩)
        intro σ hp
        simp only [List.getD_cons_zero, List.getD_cons_succ, List.map_cons, List.map_nil, preF_cons, preF_nil, isV, and_true] at hp
        simp only [List.drop_succ_cons, List.drop_zero]
        go_simp
        clear hp
        cases r with
        | true =>
          have hxy : x = y := by simpa [eqB] using Hr.out
          have Hxy := Lib.hid hxy
          clear hxy
          go_simp
          refine ⟨rfl, ?_⟩
          go_wp2
          go_roundw
          case rel => exact ⟨k + 1, by omega, by go_num, by rw [Hs.out, Hs'.out, Heq.out, Hxy.out], (Hbel.out.alloc hsz _).drew⟩
          case measure => simp [intOf]; omega
        | false =>
          have hxy : x ≠ y := by intro e; have := Hr.out; rw [e, eqB_self] at this; cases this
          have Hf := Lib.hid (eqB_ne (Hne.out hxy))
          clear hxy
          go_simp
          refine ⟨rfl, ?_⟩
          go_wp2
          go_ret
          exact ⟨by rw [Hf.out]; rfl, (Hbel.out.alloc hsz _).drew⟩
      · have he : l = l' := by
          have := Heq.out
          rwa [List.take_of_length_le (by omega), List.take_of_length_le (by have := Hlen.out; omega)] at this
        have Hf : Hid (eqB l l' = true) := by rw [he]; exact eqB_self _
        clear he
        go_wp2
        go_ret
        exact ⟨by rw [Hf.out]; rfl, hbel⟩
  · have hb : ((l.length : Int) != (l'.length : Int)) = true := by simp; omega
    have Hf := Lib.hid (eqB_ne (fun e : l = l' => hlen (congrArg List.length e)))
    clear hlen
    go_enter Try.func55, Try.ntmps55
    go_wp2
    go_ret
    exact ⟨by rw [Hf.out]; rfl, Below.refl _ _⟩
end Go.Proofs.Ytkcpmoinpdojjaa

/- The law WorldRows returns true for every input. (printed by mk_wrlaw.py) -/
namespace Go.Proofs.Ytkcpmoinpdojjaa
open Go Go.RowKit Go.ChangeShapes Go.WideShapes Go.ChangeAt

attribute [local go_sem] AllFrom.cons_eq AllFrom.nil_eq putF_nil putF_cons wantedL_none wantedL_some OpGoalT OpGoalV OpGoalQ OpGoalA OpGoalK YieldsR preF_nil preF_cons

theorem eqRow_rows (l : List Rw) (v v' : Value) (w : World) {B B' : Nat} (hl : l.length ≤ 1200000000000) (h : w.ownsRow B 51 11 v l.length (l.flatMap rwC)) (h' : w.ownsRow B' 51 11 v' l.length (l.flatMap rwC)) :
    Calls Try.prog 55 #[v, v'] w fun e w' => e = .returned (.bool true) ∧ Below w.heap.size w w' := by
  obtain ⟨A, c, rfl, hc, hA⟩ := own_lies h
  obtain ⟨A', c', rfl, hc', hA'⟩ := own_lies h'
  have := eqRow_any A c A' c' l l w (by omega) (by omega) hA hA'
  rw [eqB_self] at this
  exact this
section
variable {vB : Value} {Lo : Nat} {Z : List Nat} {p q : Nat} {sl sl' : Sl} {L L' : List Rw} {w : World}
/-- What Rows leaves of both. -/
def PZRows (vB : Value) (Lo : Nat) (Z : List Nat) (p q : Nat) (sl : Sl) (L : List Rw) (sl' : Sl) (L' : List Rw) (l : List Rw) (z : Int) (w : World) (e : Ending) (w' : World) : Prop :=
  ∃ v, e = .returned (.tuple #[v, .int .i64 z]) ∧ w'.ownsRow 0 51 11 v l.length (l.flatMap rwC) ∧ Below w.heap.size w w' ∧ PZ vB Lo Z p q sl L sl' L' w' ∧ Below Lo w w' ∧ KeepZ Z w w'
theorem pz_wrows (h : PZ vB Lo Z p q sl L sl' L' w) (n t a : Int) :
    Calls Try.prog 56 #[.pointer (some ⟨p, 0, none⟩), .agg #[.int .i64 n, .int .i64 t, .int .i64 a]] w (PZRows vB Lo Z p q sl L sl' L' (if qcheck n t a = 0 then rowsM L n t a else []) (qcheck n t a) w) := by
  obtain ⟨F, G, h'⟩ := id h
  refine (wrows_any h'.a n t a).mono ?_
  rintro e w' ⟨v, rfl, ho, hb⟩
  exact ⟨v, rfl, row_base ho (fun k _ => Nat.zero_le k), hb, pz_below h hb⟩
theorem pz_zrows (h : PZ vB Lo Z p q sl L sl' L' w) (hO : WOk sl' L') (n t a : Int) (hn : InR n) :
    Calls Try.prog 57 #[.pointer (some ⟨q, 0, none⟩), .agg #[.int .i64 n, .int .i64 t, .int .i64 a]] w (PZRows vB Lo Z p q sl L sl' L' (if qcheck n t a = 0 then rowsM L' n t a else []) (qcheck n t a) w) := by
  obtain ⟨F, G, h'⟩ := id h
  refine (zrows_any h'.b hO.len n t a hn).mono ?_
  rintro e w' ⟨v, rfl, ho, hb⟩
  exact ⟨v, rfl, row_base ho (fun k _ => Nat.zero_le k), hb, pz_below h hb⟩
end

set_option maxRecDepth 100000 in
set_option maxHeartbeats 8000000 in
theorem worldRows_ok (A : Option Addr) (c : Nat) (l : List Ov) (qn qt qa : Int) (hn : InR qn) (w : World) (hl : l.length * 128 ≤ 140737488351232) (hA : Lies w w.heap.size A (l.flatMap opC)) :
    Calls Try.prog 11 #[.slice A l.length c, .agg #[.int .i64 qn, .int .i64 qt, .int .i64 qa]] w fun e w' => e = .returned (.bool true) ∧ Below w.heap.size w w' := by
  obtain ⟨w0, hw0, hb0, hz0, hs0⟩ := box1 w (.cells #[.int .i64 qn, .int .i64 qt, .int .i64 qa] 26)
  have H1 := Lib.hid (worldNew_any w0)
  have hl2 : l.length ≤ 1200000000000 := by omega
  have HB0 := Lib.hid hb0; have HZ0 := Lib.hid hz0; have HS0 := Lib.hid hs0; have HA := Lib.hid hA; have HN := Lib.hid hn
  clear hb0 hz0 hs0 hA hn
  clear hl
  go_enter Try.func11, Try.ntmps11
  go_wp2_with fail
  clear hw0
  refine H1.out.mono ?_
  rintro e w1 ⟨p, F, rfl, hW, hF, hb⟩
  obtain ⟨w2, hw2⟩ : ∃ w2, w1.alloc (.cells #[.slice none 0 0, .slice none 0 0, .slice none 0 0, .slice none 0 0] 72) = w2 := ⟨_, rfl⟩
  obtain ⟨hP, hB⟩ := pz_start hW hF hb hw2
  have HP0 := Lib.hid hP; have HBB := Lib.hid hB
  clear hP hB
  clear hW hF hb H1
  go_wp2_with fail
  clear hw2
  generalize w1.heap.size = q at *
  go_loopw [20] (fun i wr => ∃ (k : Nat) (sl : Sl) (R : List Rw), k ≤ l.length ∧ i = .int .i64 k ∧ PZ (.slice none 0 0) w0.heap.size [] p q sl R sl R wr ∧ Below w0.heap.size w0 wr) (fun i _ => l.length - (intOf i).toNat)
  case atStart => exact ⟨0, [], [], by omega, rfl, HP0.out, HBB.out⟩
  case round =>
    obtain ⟨k, sl, R, hk, rfl, hP, hB⟩ := hrel
    clear HP0 HBB
    have hsz := hB.size
    have hBw := HB0.out.trans (hB.mono HB0.out.size)
    have hzr := (Mod.ofBelow hB).keep HZ0.out (by simp)
    by_cases hlt : k < l.length
    · obtain ⟨ab, ao, rfl, hal, hc⟩ := HA.out.rec_at opC_len (by omega) hlt
      have hq : ∀ j u, (opC l[k])[j]? = some u → wr.cell? ((⟨ab, ao + k * 16, none⟩ : Addr).add j) = some u := fun j u hu => (hBw.cell (p := (⟨ab, ao + k * 16, none⟩ : Addr).add j) (by rw [add_block]; exact hal)).trans (by first | exact hc j u hu | (have := hc j u hu; rw [Addr.add_mid]; exact this))
      generalize l[k] = x at *
      obtain ⟨d, ⟨K, a0, a1, a2, a3, a4, a5, a6, a7⟩, ⟨s, g⟩, ⟨ts, tg⟩, kd, n⟩ := x
      obtain ⟨w3, hw3⟩ : ∃ w3, w3 = wr.alloc (.cells #[.int .i64 d, .int .i64 K, .int .i64 a0, .int .i64 a1, .int .i64 a2, .int .i64 a3, .int .i64 a4, .int .i64 a5, .int .i64 a6, .int .i64 a7, .int .i64 s, .int .i64 g, .int .i64 ts, .int .i64 tg, .int .i64 kd, .int .i64 n] 74) := ⟨_, rfl⟩
      have hk3 : w3.heap[wr.heap.size]? = some (.cells #[.int .i64 d, .int .i64 K, .int .i64 a0, .int .i64 a1, .int .i64 a2, .int .i64 a3, .int .i64 a4, .int .i64 a5, .int .i64 a6, .int .i64 a7, .int .i64 s, .int .i64 g, .int .i64 ts, .int .i64 tg, .int .i64 kd, .int .i64 n] 74 (0, 0)) := by rw [hw3]; exact heap_alloc_new _ _
      have hb3 : Below wr.heap.size wr w3 := by rw [hw3]; exact (Below.refl _ _).alloc (Nat.le_refl _) _
      have hP3 := Sep.below (own_W _ _ _) (own_Z _ _ _ _) hP hb3
      have hB3 := hB.trans hP3.2.1
      have HP := Lib.hid hq; have HO := Lib.hid (opC_one (d, (K, a0, a1, a2, a3, a4, a5, a6, a7), (s, g), (ts, tg), kd, n)); have HW3 := Lib.hid hw3
      have H7 := Lib.hid (did_any hP3.1 d K a0 a1 a2 a3 a4 a5 a6 a7 s g ts tg kd n)
      have hki : (k : Int) < (l.length : Int) := by omega
      have c0 := blk_cell hk3 0
      have c1 := blk_cell hk3 1
      have c2 := blk_cell hk3 2
      have c3 := blk_cell hk3 3
      have c4 := blk_cell hk3 4
      have c5 := blk_cell hk3 5
      have c6 := blk_cell hk3 6
      have c7 := blk_cell hk3 7
      have c8 := blk_cell hk3 8
      have c9 := blk_cell hk3 9
      have c10 := blk_cell hk3 10
      have c11 := blk_cell hk3 11
      have c12 := blk_cell hk3 12
      have c13 := blk_cell hk3 13
      have c14 := blk_cell hk3 14
      have c15 := blk_cell hk3 15
      simp only [List.getElem?_toArray, List.getElem?_cons_zero, List.getElem?_cons_succ] at c0 c1 c2 c3 c4 c5 c6 c7 c8 c9 c10 c11 c12 c13 c14 c15
      have cl := blk_lt hk3
      have HB3 := Lib.hid hB3
      clear hB3
      clear hq hc hw3 hP hB hP3 hb3 hk3 hBw hzr
      go_wp2_with (first | (refine wpList_load_flat rfl 74 (.tmp 22) rfl _ rfl (opC (d, (K, a0, a1, a2, a3, a4, a5, a6, a7), (s, g), (ts, tg), kd, n)) _ Try.underlying74 rfl (sz_Op _) HP.out ?_) | (refine wpList_store_new rfl 74 (.tmp 8) (.tmp 23) rfl wr (ints [0, 0, 0, 0, 0, 0, 0, 0, 0, 0, 0, 0, 0, 0, 0, 0]) (opC (d, (K, a0, a1, a2, a3, a4, a5, a6, a7), (s, g), (ts, tg), kd, n)) 74 rfl rfl rfl (sz_Op _) HO.out ?_; rw [show (opC (d, (K, a0, a1, a2, a3, a4, a5, a6, a7), (s, g), (ts, tg), kd, n)).toArray = #[.int .i64 d, .int .i64 K, .int .i64 a0, .int .i64 a1, .int .i64 a2, .int .i64 a3, .int .i64 a4, .int .i64 a5, .int .i64 a6, .int .i64 a7, .int .i64 s, .int .i64 g, .int .i64 ts, .int .i64 tg, .int .i64 kd, .int .i64 n] from rfl, ← HW3.out]; clear HW3))
      clear c0 c1 c2 c3 c4 c5 c6 c7 c8 c9 c10 c11 c12 c13 c14 c15 cl
      refine H7.out.mono ?_
      rintro e w4 ⟨rfl, ⟨sl1, R1, h4⟩, hb4, -⟩
      have hB4 := HB3.out.trans hb4
      have hz4 := (Mod.ofBelow hB4).keep HZ0.out (by simp)
      have hO4 := h4.ok
      have hl4 : (if qcheck qn qt qa = 0 then rowsM R1 qn qt qa else []).length ≤ 60 := by
        split
        · exact Nat.le_trans (List.length_filter_le _ _) hO4.len
        · simp
      have H8 := Lib.hid (pz_wrows h4 qn qt qa)
      have r0 := blk_cell hz4 0
      have r1 := blk_cell hz4 1
      have r2 := blk_cell hz4 2
      simp only [List.getElem?_toArray, List.getElem?_cons_zero, List.getElem?_cons_succ] at r0 r1 r2
      have rl := blk_lt hz4
      have HB4 := Lib.hid hB4; have HO4 := Lib.hid hO4
      clear hB4 hO4
      clear hb4 hz4 h4
      have hz9 : ∀ W, PZ (.slice none 0 0) w0.heap.size [] p q sl1 R1 sl1 R1 W → Calls Try.prog 57 #[.pointer (some ⟨q, 0, none⟩), .agg #[.int .i64 qn, .int .i64 qt, .int .i64 qa]] W (PZRows (.slice none 0 0) w0.heap.size [] p q sl1 R1 sl1 R1 (if qcheck qn qt qa = 0 then rowsM R1 qn qt qa else []) (qcheck qn qt qa) W) := fun W h => pz_zrows h HO4.out qn qt qa HN.out
      generalize (if qcheck qn qt qa = 0 then rowsM R1 qn qt qa else []) = lr at *
      generalize qcheck qn qt qa = ze at *
      have HZ9 := Lib.hid hz9
      clear hz9
      go_wp2_with fail
      refine H8.out.mono ?_
      rintro e w5 ⟨v5, rfl, ho5, hb5, h5, hB5, -⟩
      have hB5 := HB4.out.trans hB5
      have hz5 := (Mod.ofBelow hB5).keep HZ0.out (by simp)
      have H9 := Lib.hid (HZ9.out _ h5)
      clear r0 r1 r2 rl
      have r0 := blk_cell hz5 0
      have r1 := blk_cell hz5 1
      have r2 := blk_cell hz5 2
      simp only [List.getElem?_toArray, List.getElem?_cons_zero, List.getElem?_cons_succ] at r0 r1 r2
      have rl := blk_lt hz5
      have HB5 := Lib.hid hB5; have Ho5 := Lib.hid ho5
      clear hB5 ho5
      clear hb5 h5 hz5
      go_wp2_with fail
      refine H9.out.mono ?_
      rintro e w6 ⟨v6, rfl, ho6, hb6, h6, hB6, -⟩
      have hB6 := HB5.out.trans hB6
      have ho56 := row_mod Ho5.out (Mod.ofBelow hb6) (by simp)
      have H10 := Lib.hid (eqRow_rows lr v5 v6 w6 (by omega) ho56 ho6)
      have HB6 := Lib.hid hB6; have H6 := Lib.hid h6
      clear hB6 h6
      clear ho6 ho56 hb6 r0 r1 r2 rl
      go_wp2_with fail
      refine H10.out.mono ?_
      rintro e w7 ⟨rfl, hb7⟩
      have h7 := pz_below H6.out hb7
      have hB7 := HB6.out.trans h7.2.1
      have hF := h7.1
      have HF := Lib.hid hF; have HB7 := Lib.hid hB7
      clear hF hB7
      clear hb7 h7
      go_wp2
      go_roundw
      case rel => exact ⟨k + 1, sl1, R1, by omega, by go_num, HF.out, HB7.out⟩
      case measure => simp [intOf]; omega
      all_goals exact undef
    · obtain rfl : k = l.length := by omega
      have H14 := Lib.hid (pz_wkill hP (-1) 0)
      have hO := hP.ok
      have HNe := Lib.hid (killE_neg hO)
      have HBw := Lib.hid hBw; have HB := Lib.hid hB
      clear hBw hB
      clear hP hO hzr
      go_wp2_with fail
      refine H14.out.mono ?_
      rintro e w5 ⟨rfl, -, hb5, -⟩
      rw [HNe.out]
      have HB5 := Lib.hid (HB0.out.trans ((HB.out.trans hb5).mono HB0.out.size))
      clear hb5
      go_wp2
      go_ret
      exact ⟨rfl, HB5.out⟩

set_option maxRecDepth 100000 in
theorem worldRows_law {H : Type} {enc : TypeId × Value → H} (W : World) (base : Nat) (args : Array Value) (ds : List (DataW H)) (ps : List MemPlace)
    (hval : ∀ (j : Nat) t v, Try.f11.params[j]? = some t → args[j]? = some v → Value.okWide Try.prog W .any base t v)
    (hA : DataW.TrodAll enc Try.prog W 0 (fun _ => true) true Try.f11.params.toList args.toList ds ps) (hlt : ∀ p ∈ ps, p.block < W.heap.size)
    (hsz : ∀ (j : Nat) t d, Try.f11.params.toList[j]? = some t → ds[j]? = some d → ∀ m ∈ d.weights Try.prog t, m ≤ reachBytes) :
    Calls Try.prog 11 args W fun e W' => e = .returned (.bool true) ∧ Below W.heap.size W W' := by
  rw [Try.params11] at hA hval hsz
  obtain ⟨v0, v1, d0, d1, p0, p1, rfl, rfl, rfl, h0, h1⟩ := trodAll_two hA
  obtain ⟨A, n, c, zs, rfl, hnc, hc, hlen, -, hL⟩ := open_slice_flat Try.underlying63 intCells_Op (k := 16) (by kernel_rfl) (by omega) (hval 0 63 _ rfl rfl) h0 (fun p hp => hlt p (by simp [hp]))
  obtain ⟨l, hl, rfl⟩ := unflat opI 16 opI_mk n zs hlen
  have hs := slice_size Try.underlying63 h0 (hsz 0 63 d0 rfl rfl)
  rw [show Try.prog.bytesOf 74 = 128 by kernel_rfl, reach_val] at hs
  rw [show ints (l.flatMap opI) = l.flatMap opC by unfold ints opC; rw [List.map_flatMap]; rfl] at hL
  subst hl
  obtain ⟨v0, v1, v2, y0, y1, y2, n, rfl, rfl, rfl, t0, t1, t2⟩ := Joins.open_agg3 Try.underlying26 (by kernel_rfl) (by kernel_rfl) (hval 1 26 _ rfl rfl) h1
  obtain ⟨a, e0, -, hw⟩ := DataW.trod_int Try.underlying3 t0
  cases e0
  obtain ⟨b, e1, -⟩ := DataW.trod_int Try.underlying3 t1
  cases e1
  obtain ⟨c2, e2, -⟩ := DataW.trod_int Try.underlying3 t2
  cases e2
  exact worldRows_ok A c l a b c2 (inR_of_wf hw) W hs hL

set_option maxRecDepth 100000 in
theorem worldRows_lifted (os : Os) (started : os.Started) (H : Type) (enc : TypeId × Value → H) :
    ReturnsInHanded {} Try.checked os 11 .any (Rows.worldRowsSpec.pre6 enc Try.prog Try.f11 Rows.worldRowsRow.domain false) (Rows.worldRowsSpec.post enc Try.prog Try.f11 false true false false) := by
  refine law_lifted_sized (C := Try.checked) (tb := 4) started own_ laid_ (by kernel_rfl) Try.func11 ?_ rfl rfl (by kernel_rfl) (fun ds h => ?_)
    (ChangeSpec.witness6 (enc := enc) (C := Try.checked) false ⟨#[], #[.slice none 0 0, .agg #[.int .i64 0, .int .i64 0, .int .i64 0]], []⟩ 8 (by kernel_rfl) (by kernel_rfl) (by kernel_rfl) (by kernel_rfl)) ?_
  · intro t ht
    have : t = 63 ∨ t = 26 := by simpa [Try.params11] using ht
    rcases this with rfl | rfl
    all_goals exact ⟨by kernel_rfl, of_decide_eq_true (by kernel_rfl)⟩
  · match ds, h with
    | [d0, d1], _ => rfl
  · intro W base args ds ps hval hA hlt hsz
    exact worldRows_law W base args ds ps hval hA hlt hsz

set_option maxHeartbeats 4000000 in
theorem worldRows_closed : joinedFacts Try.prog 11 Try.f11 Rows.worldRowsSpec Rows.worldRowsRow = true := by
  unfold joinedFacts
  repeat' (with_reducible refine and_intro ?_ ?_)
  · as_aux_lemma => kernel_rfl
  · exact laid_
  · exact mapsRowed_
  · as_aux_lemma => kernel_rfl
  · as_aux_lemma => kernel_rfl
  · as_aux_lemma => kernel_rfl
  · exact stops_
  · as_aux_lemma => kernel_rfl
  · exact stopKnobs_
  · as_aux_lemma => kernel_rfl
  · as_aux_lemma => kernel_rfl
  · as_aux_lemma => kernel_rfl
  · as_aux_lemma => kernel_rfl
  · as_aux_lemma => kernel_rfl
  · as_aux_lemma => kernel_rfl
  · as_aux_lemma => kernel_rfl
  · as_aux_lemma => kernel_rfl
  · as_aux_lemma => kernel_rfl
  · as_aux_lemma => kernel_rfl
  · as_aux_lemma => kernel_rfl
  · as_aux_lemma => kernel_rfl
  · as_aux_lemma => kernel_rfl
  · exact plainKeys_
  · as_aux_lemma => kernel_rfl
  · exact stopsHeard_
  · exact mayEnter_
  · exact liftsFinal_
  · exact make_
  · as_aux_lemma => kernel_rfl
  · as_aux_lemma => kernel_rfl
  · as_aux_lemma => kernel_rfl
  · as_aux_lemma => kernel_rfl

theorem worldRows_holds : Rows.WorldRowsSaid :=
  OpenClaim.holds_of_wide 11 Try.f11 rfl rfl rfl rfl rfl rfl rfl ⟨rfl, rfl, rfl, rfl, rfl⟩ rfl rfl rfl rfl rfl (by as_aux_lemma => kernel_rfl) Try.func11 worldRows_closed
    (of_decide_eq_true (by as_aux_lemma => kernel_rfl)) (by unfold Func.isWrapper; first | (rw [if_pos (by decide +kernel)]; kernel_rfl) | (rw [if_neg (by decide +kernel)]; exact ⟨rfl, rfl⟩))
    (fun os started H enc _ => worldRows_lifted os started H enc)
#print axioms worldRows_holds
end Go.Proofs.Ytkcpmoinpdojjaa
