import Derived.Test.YtfbcdblgfhekpaaDiffAppliesJ11
import Derived.Shelf.SlMaps.Clone
import Derived.RangeFuncNested
import Derived.RangeFuncBound
import Derived.RangeFuncCalls
import Derived.Test.YtfbcdblgfhekpaaDiffAppliesJ3
import Derived.RangeFuncLeaves
import Derived.Shelf.Abstract
import Derived.Shelf.RegionOpen
import Derived.OwnWalkIn
import Derived.TacticsInMore
import Derived.LoopNIn
import Derived.LoopIn
import Derived.RangeFuncGives
import Derived.Maps.AppendAt
/- Maps of rows: of, get, None, Clone, Copy. (printed by mk_df3.py) -/
namespace Go.Proofs.Ytfbcdblgfhekpaa
open Go Go.RowKit Go.Maps
attribute [local go_sem] AllFrom.cons_eq AllFrom.nil_eq putF_nil putF_cons wantedL_none wantedL_some OpGoalT OpGoalV OpGoalQ OpGoalA OpGoalK YieldsR preF_nil preF_cons

def beV (b : Bt) : Value := .agg (btC b).toArray
def rwPr (r : Rw) : Value × Value := (hdV r.1, beV r.2)
theorem rwPr_keys : HdKeys (β := Bt) rwPr := ⟨fun _ => rfl⟩
/-- Block m is a map of the rows l. -/
abbrev MapR (w : World) (m : Nat) (l : List Rw) : Prop := MapAt Try.prog 28 w m (l.map rwPr)
def noneB : Bt := (-1, 0, 0, 0, 0, 0, 0, 0, 0)
def getM (l : List Rw) (h : Hd) : Bt := ((l.find? (fun r => decide (r.1 = h))).map (·.2)).getD noneB

theorem diffNone_any (w : World) : Calls Try.prog 22 #[] w fun e w' => e = .returned (beV noneB) ∧ Below w.heap.size w w' := by
  have HB := Lib.hid (show Below w.heap.size w (w.alloc (.cells #[.int .i64 (-1), .int .i64 0, .int .i64 0, .int .i64 0, .int .i64 0, .int .i64 0, .int .i64 0, .int .i64 0, .int .i64 0] 31)) from (Below.refl _ _).alloc (Nat.le_refl _) _)
  go_enter Try.func22, Try.ntmps22
  go_wp2
  refine bodyPost_ret (v := .agg #[.int .i64 (-1), .int .i64 0, .int .i64 0, .int .i64 0, .int .i64 0, .int .i64 0, .int .i64 0, .int .i64 0, .int .i64 0]) (by unfold results; try go_simp) rfl ?_
  exact ⟨rfl, HB.out⟩

theorem getM_in {l : List Rw} {h : Hd} {b : Bt} (hp : l.Pairwise (fun x y => x.1 ≠ y.1)) (hm : (h, b) ∈ l) : getM l h = b := by
  unfold getM
  cases hf : l.find? (fun r => decide (r.1 = h)) with
  | none =>
    rw [List.find?_eq_none] at hf
    have := hf _ hm
    simp at this
  | some r =>
    have h1 := List.find?_some hf
    have h2 := List.mem_of_find?_eq_some hf
    simp only [decide_eq_true_eq] at h1
    have : r = (h, b) := by
      rcases List.pairwise_iff_getElem.1 hp with hpp
      obtain ⟨i, hi, ei⟩ := List.mem_iff_getElem.1 h2
      obtain ⟨j, hj, ej⟩ := List.mem_iff_getElem.1 hm
      rcases Nat.lt_trichotomy i j with q | q | q
      · have := hpp i j hi hj q; rw [ei, ej] at this; exact absurd h1 this
      · subst q; rw [← ei, ej]
      · have := hpp j i hj hi q; rw [ei, ej] at this; exact absurd h1.symm this
    rw [this]; rfl
theorem getM_out {l : List Rw} {h : Hd} (hm : ∀ r ∈ l, r.1 ≠ h) : getM l h = noneB := by
  unfold getM
  rw [List.find?_eq_none.2 (fun r hr => by simpa using hm r hr)]
  rfl
theorem getM_perm {l l' : List Rw} (hp : l.Pairwise (fun x y => x.1 ≠ y.1)) (h : l'.Perm l) (k : Hd) : getM l' k = getM l k := by
  have hp' : l'.Pairwise (fun x y => x.1 ≠ y.1) := (List.Perm.pairwise_iff (fun h => Ne.symm h) h).2 hp
  by_cases e : ∃ b, (k, b) ∈ l
  · obtain ⟨b, hb⟩ := e
    rw [getM_in hp hb, getM_in hp' (h.mem_iff.2 hb)]
  · have hn : ∀ r ∈ l, r.1 ≠ k := fun r hr e2 => e ⟨r.2, by rw [← e2]; exact hr⟩
    rw [getM_out hn, getM_out (fun r hr => hn r (h.mem_iff.1 hr))]

section
variable {w : World} {m : Nat} {l : List Rw}
def GetPost (b : Bt) (w : World) (e : Ending) (w' : World) : Prop := e = .returned (beV b) ∧ Below w.heap.size w w'
set_option maxRecDepth 20000 in
set_option maxHeartbeats 4000000 in
theorem get_any (h : MapR w m l) (s g : Int) (hr : HdR (s, g)) : Calls Try.prog 18 #[.map (some m), .agg #[.int .i64 s, .int .i64 g]] w (GetPost (getM l (s, g)) w) := by
  obtain ⟨w0, hw0, hb0, hz0, hs0⟩ := box1 w (.cells #[.int .i64 s, .int .i64 g] 28)
  obtain ⟨w1, hw1, hb1, hz1, hs1⟩ := box1 w0 (.cells #[.int .i64 0, .int .i64 0, .int .i64 0, .int .i64 0, .int .i64 0, .int .i64 0, .int .i64 0, .int .i64 0, .int .i64 0] 31)
  have hz01 := (Mod.ofBelow hb1).keep hz0 (by simp)
  have hB1 := hb0.trans (hb1.mono hb0.size)
  have hM1 : MapR w1 m l := h.mod (Mod.ofBelow hB1) (by simp)
  have hap := mh_apart rwPr_keys h
  have hlt1 := blk_lt hz1
  have q0 := blk_cell hz01 0
  have q1 := blk_cell hz01 1
  simp only [List.getElem?_toArray, List.getElem?_cons_zero, List.getElem?_cons_succ] at q0 q1
  have ql := blk_lt hz01
  by_cases e : ∃ b, ((s, g), b) ∈ l
  · obtain ⟨b, hb⟩ := e
    rw [getM_in hap hb]
    have hlk := mh_in rwPr_keys Try.underlying43 hM1 hr hb true
    obtain ⟨K, a0, a1, a2, a3, a4, a5, a6, a7⟩ := b
    have hlk' : (Instr.lookup 43 (.map (some m)) (.agg #[.int .i64 s, .int .i64 g]) true).run Try.prog w1 = .ok (.tuple #[.agg #[.int .i64 K, .int .i64 a0, .int .i64 a1, .int .i64 a2, .int .i64 a3, .int .i64 a4, .int .i64 a5, .int .i64 a6, .int .i64 a7], .bool true]) w1 := hlk
    obtain ⟨w2, hw2, hb2, hz2, hs2⟩ := box1 w1 (.cells #[.int .i64 K, .int .i64 a0, .int .i64 a1, .int .i64 a2, .int .i64 a3, .int .i64 a4, .int .i64 a5, .int .i64 a6, .int .i64 a7] 31)
    have hz12 := (Mod.ofBelow hb2).keep hz1 (by simp)
    have hne1 : w0.heap.size ≠ w1.heap.size := by omega
    have hne2 : w1.heap.size ≠ w0.heap.size := by omega
    have hle : w.heap.size ≤ w0.heap.size := hb0.size
    have hBf : Below w.heap.size w w2 := hB1.trans (hb2.mono hB1.size)
    have v0 := blk_cell hz2 0
    have v1 := blk_cell hz2 1
    have v2 := blk_cell hz2 2
    have v3 := blk_cell hz2 3
    have v4 := blk_cell hz2 4
    have v5 := blk_cell hz2 5
    have v6 := blk_cell hz2 6
    have v7 := blk_cell hz2 7
    have v8 := blk_cell hz2 8
    simp only [List.getElem?_toArray, List.getElem?_cons_zero, List.getElem?_cons_succ] at v0 v1 v2 v3 v4 v5 v6 v7 v8
    have vl := blk_lt hz2
    have u0 := blk_cell hz12 0
    have u1 := blk_cell hz12 1
    have u2 := blk_cell hz12 2
    have u3 := blk_cell hz12 3
    have u4 := blk_cell hz12 4
    have u5 := blk_cell hz12 5
    have u6 := blk_cell hz12 6
    have u7 := blk_cell hz12 7
    have u8 := blk_cell hz12 8
    simp only [List.getElem?_toArray, List.getElem?_cons_zero, List.getElem?_cons_succ] at u0 u1 u2 u3 u4 u5 u6 u7 u8
    have ul := blk_lt hz12
    have f0 := blk_free hz12 0
    have f1 := blk_free hz12 1
    have f2 := blk_free hz12 2
    have f3 := blk_free hz12 3
    have f4 := blk_free hz12 4
    have f5 := blk_free hz12 5
    have f6 := blk_free hz12 6
    have f7 := blk_free hz12 7
    have f8 := blk_free hz12 8
    have HBf := Lib.hid hBf; have HS0 := Lib.hid hs0; have HS1 := Lib.hid hs1; have HS2 := Lib.hid hs2; have HLe := Lib.hid hle
    clear hBf hs0 hs1 hs2 hle
    clear hlk h hap hM1 hz0 hz1 hz2 hz12 hb0 hb1 hb2 hz01 hB1 hb
    go_enter Try.func18, Try.ntmps18
    go_wp2_with fail
    clear hw0 hw1 hw2
    refine bodyPost_ret (v := .agg #[.int .i64 K, .int .i64 a0, .int .i64 a1, .int .i64 a2, .int .i64 a3, .int .i64 a4, .int .i64 a5, .int .i64 a6, .int .i64 a7]) (by unfold results; try go_simp) rfl ?_
    refine ⟨rfl, ?_⟩
    repeat (refine Below.setCell ?_ HLe.out _)
    exact HBf.out
  · have hn : ∀ r ∈ l, r.1 ≠ (s, g) := fun r hr e2 => e ⟨r.2, by rw [← e2]; exact hr⟩
    rw [getM_out hn]
    have hlk := mh_out rwPr_keys Try.underlying43 (Try.zeroValue31 _) hM1 hr hn true
    have hlk' : (Instr.lookup 43 (.map (some m)) (.agg #[.int .i64 s, .int .i64 g]) true).run Try.prog w1 = .ok (.tuple #[.agg #[.int .i64 0, .int .i64 0, .int .i64 0, .int .i64 0, .int .i64 0, .int .i64 0, .int .i64 0, .int .i64 0, .int .i64 0], .bool false]) w1 := hlk
    obtain ⟨w2, hw2, hb2, hz2, hs2⟩ := box1 w1 (.cells #[.int .i64 0, .int .i64 0, .int .i64 0, .int .i64 0, .int .i64 0, .int .i64 0, .int .i64 0, .int .i64 0, .int .i64 0] 31)
    have hB2 : Below w.heap.size w w2 := hB1.trans (hb2.mono hB1.size)
    have hz12 := (Mod.ofBelow hb2).keep hz1 (by simp)
    have H3 := Lib.hid (diffNone_any w2)
    have HB2 := Lib.hid hB2; have Hz12 := Lib.hid hz12; have HS0 := Lib.hid hs0; have HS1 := Lib.hid hs1; have HS2 := Lib.hid hs2; have HW2 := Lib.hid hw2
    clear hB2 hz12 hs0 hs1 hs2 hw2
    clear hlk h hap hM1 hz0 hz1 hz2 hb1 hb2 hz01 hB1 hn e
    go_enter Try.func18, Try.ntmps18
    go_wp2_with fail
    clear hw0 hw1
    rw [HW2.out]
    refine H3.out.mono ?_
    rintro e w3 ⟨rfl, hb3⟩
    have hz3 := (Mod.ofBelow hb3).keep Hz12.out (by simp)
    have hle : w.heap.size ≤ w0.heap.size := hb0.size
    have hBf : Below w.heap.size w w3 := HB2.out.trans (hb3.mono HB2.out.size)
    rw [show beV noneB = .agg #[.int .i64 (-1), .int .i64 0, .int .i64 0, .int .i64 0, .int .i64 0, .int .i64 0, .int .i64 0, .int .i64 0, .int .i64 0] from rfl]
    have u0 := blk_cell hz3 0
    have u1 := blk_cell hz3 1
    have u2 := blk_cell hz3 2
    have u3 := blk_cell hz3 3
    have u4 := blk_cell hz3 4
    have u5 := blk_cell hz3 5
    have u6 := blk_cell hz3 6
    have u7 := blk_cell hz3 7
    have u8 := blk_cell hz3 8
    simp only [List.getElem?_toArray, List.getElem?_cons_zero, List.getElem?_cons_succ] at u0 u1 u2 u3 u4 u5 u6 u7 u8
    have ul := blk_lt hz3
    have f0 := blk_free hz3 0
    have f1 := blk_free hz3 1
    have f2 := blk_free hz3 2
    have f3 := blk_free hz3 3
    have f4 := blk_free hz3 4
    have f5 := blk_free hz3 5
    have f6 := blk_free hz3 6
    have f7 := blk_free hz3 7
    have f8 := blk_free hz3 8
    have HBf := Lib.hid hBf; have HLe := Lib.hid hle
    clear hBf hle
    clear hb0 hb3 hz3
    go_wp2
    refine bodyPost_ret (v := .agg #[.int .i64 (-1), .int .i64 0, .int .i64 0, .int .i64 0, .int .i64 0, .int .i64 0, .int .i64 0, .int .i64 0, .int .i64 0]) (by unfold results; try go_simp) rfl ?_
    refine ⟨rfl, ?_⟩
    repeat (refine Below.setCell ?_ HLe.out _)
    exact HBf.out

end
end Go.Proofs.Ytfbcdblgfhekpaa

/- Maps of rows: of, Copy. (printed by mk_df4.py) -/
namespace Go.Proofs.Ytfbcdblgfhekpaa
open Go Go.RowKit Go.Maps
attribute [local go_sem] AllFrom.cons_eq AllFrom.nil_eq putF_nil putF_cons wantedL_none wantedL_some OpGoalT OpGoalV OpGoalQ OpGoalA OpGoalK YieldsR preF_nil preF_cons

def OfRPost (l : List Rw) (w : World) (e : Ending) (w' : World) : Prop := ∃ m l', e = .returned (.map (some m)) ∧ MapR w' m l' ∧ l'.Perm l ∧ w.heap.size ≤ m ∧ Below w.heap.size w w'
set_option maxRecDepth 20000 in
set_option maxHeartbeats 4000000 in
theorem of_any {w : World} (A : Option Addr) (c : Nat) (l : List Rw) (hl : l.length ≤ 9223372036854775807) (hA : Lies w w.heap.size A (l.flatMap rwC)) (hd : l.Pairwise (fun x y => x.1 ≠ y.1)) (hR : ∀ r ∈ l, HdR r.1) :
    Calls Try.prog 12 #[.slice A l.length c] w (OfRPost l w) := by
  have hmm := @run_makeMap Try.prog
  obtain ⟨w1, hw1, hb1, hz1, hs1⟩ := box1 w (.map #[] 0)
  have hM1 : MapR w1 w.heap.size [] := ⟨#[], 0, hz1, ⟨Go.MapKept.stamped_empty 0, by simp, rfl⟩⟩
  have HA := Lib.hid hA; have HD := Lib.hid hd; have HR := Lib.hid hR; have HB1 := Lib.hid hb1; have HM1 := Lib.hid hM1; have HS1 := Lib.hid hs1
  clear hA hd hR hb1 hM1 hs1
  clear hz1
  go_enter Try.func12, Try.ntmps12
  go_wp2_with fail
  clear hmm hw1
  go_loopw [9] (fun i wr => ∃ (n : Nat) (l' : List Rw), n ≤ l.length ∧ i = .int .i64 n ∧ MapR wr w.heap.size l' ∧ l'.Perm (l.take n) ∧ Below w.heap.size w wr) (fun i _ => l.length - (intOf i).toNat)
  case atStart => exact ⟨0, [], by omega, rfl, HM1.out, .refl _, HB1.out⟩
  case round =>
    obtain ⟨n, l', hn, rfl, hM, hp, hB⟩ := hrel
    have hsz := hB.size
    by_cases hlt : n < l.length
    · obtain ⟨ab, ao, rfl, hal, hc⟩ := HA.out.rec_at rwC_len (by omega) hlt
      have hq : ∀ j u, (rwC l[n])[j]? = some u → wr.cell? ((⟨ab, ao + n * 11, none⟩ : Addr).add j) = some u := fun j u hu => (hB.cell (p := (⟨ab, ao + n * 11, none⟩ : Addr).add j) (by rw [add_block]; exact hal)).trans (by first | exact hc j u hu | (have := hc j u hu; rw [Addr.add_mid]; exact this))
      have hni : (n : Int) < (l.length : Int) := by omega
      have hts := take_succ_get l n hlt
      have hr := HR.out _ (List.getElem_mem hlt)
      have hnew : ∀ x ∈ l', x.1 ≠ l[n].1 := by
        intro x hx
        have hx2 := hp.mem_iff.1 hx
        have h1 := HD.out
        obtain ⟨i, hi, ei⟩ := List.mem_iff_getElem.1 hx2
        rw [List.length_take] at hi
        rw [List.getElem_take] at ei
        have := List.pairwise_iff_getElem.1 h1 i n (by omega) hlt (by omega)
        rw [ei] at this; exact this
      generalize l[n] = x at *
      obtain ⟨⟨s, g⟩, K, a0, a1, a2, a3, a4, a5, a6, a7⟩ := x
      obtain ⟨w3, hw3, hb3, hz3, hs3⟩ := box1 wr (.cells #[.int .i64 s, .int .i64 g, .int .i64 K, .int .i64 a0, .int .i64 a1, .int .i64 a2, .int .i64 a3, .int .i64 a4, .int .i64 a5, .int .i64 a6, .int .i64 a7] 33)
      have hM3 : MapR w3 w.heap.size l' := hM.mod (Mod.ofBelow hb3) (by simp)
      obtain ⟨w4, l4, hrun, hM4, hp4, hm4, -⟩ := mh_upd rwPr_keys Try.underlying43 hM3 hr (K, a0, a1, a2, a3, a4, a5, a6, a7)
      have hrun' : (Instr.mapUpdate 43 (.map (some w.heap.size)) (.agg #[.int .i64 s, .int .i64 g]) (.agg #[.int .i64 K, .int .i64 a0, .int .i64 a1, .int .i64 a2, .int .i64 a3, .int .i64 a4, .int .i64 a5, .int .i64 a6, .int .i64 a7])).run Try.prog w3 = .ok () w4 := hrun
      have hp5 : l4.Perm (l.take (n + 1)) := by
        rw [hts]
        rw [List.filter_eq_self.2 (fun x hx => by simpa using hnew x hx)] at hp4
        exact hp4.trans ((hp.cons _).trans (List.perm_append_singleton _ _).symm)
      have hB4 : Below w.heap.size w w4 := (hB.trans (hb3.mono hsz)).trans (hm4.toBelow (by simp) (by have := hb3.size; omega))
      have HO := Lib.hid (rwC_one ((s, g), K, a0, a1, a2, a3, a4, a5, a6, a7))
      have r0 := blk_cell hz3 0
      have r1 := blk_cell hz3 1
      have r2 := blk_cell hz3 2
      have r3 := blk_cell hz3 3
      have r4 := blk_cell hz3 4
      have r5 := blk_cell hz3 5
      have r6 := blk_cell hz3 6
      have r7 := blk_cell hz3 7
      have r8 := blk_cell hz3 8
      have r9 := blk_cell hz3 9
      have r10 := blk_cell hz3 10
      simp only [List.getElem?_toArray, List.getElem?_cons_zero, List.getElem?_cons_succ] at r0 r1 r2 r3 r4 r5 r6 r7 r8 r9 r10
      have rl := blk_lt hz3
      have HP := Lib.hid hq; have Hw3 := Lib.hid hw3; have HM4 := Lib.hid hM4; have Hp5 := Lib.hid hp5; have HB4 := Lib.hid hB4; have HS3 := Lib.hid hs3
      clear hq hw3 hM4 hp5 hB4 hs3
      clear hc hM hp hB hts hr hnew hb3 hz3 hM3 hrun hp4 hm4
      go_wp2_with (first | (refine wpList_load_flat rfl 33 (.tmp 11) rfl _ rfl [.int .i64 s, .int .i64 g, .int .i64 K, .int .i64 a0, .int .i64 a1, .int .i64 a2, .int .i64 a3, .int .i64 a4, .int .i64 a5, .int .i64 a6, .int .i64 a7] _ Try.underlying33 rfl (by kernel_rfl) HP.out ?_) | (refine wpList_store_new rfl 33 (.tmp 5) (.tmp 12) rfl wr (ints [0, 0, 0, 0, 0, 0, 0, 0, 0, 0, 0]) [.int .i64 s, .int .i64 g, .int .i64 K, .int .i64 a0, .int .i64 a1, .int .i64 a2, .int .i64 a3, .int .i64 a4, .int .i64 a5, .int .i64 a6, .int .i64 a7] 33 rfl rfl rfl (sz_Row ((s, g), K, a0, a1, a2, a3, a4, a5, a6, a7)) HO.out ?_; rw [show ([.int .i64 s, .int .i64 g, .int .i64 K, .int .i64 a0, .int .i64 a1, .int .i64 a2, .int .i64 a3, .int .i64 a4, .int .i64 a5, .int .i64 a6, .int .i64 a7] : List Value).toArray = #[.int .i64 s, .int .i64 g, .int .i64 K, .int .i64 a0, .int .i64 a1, .int .i64 a2, .int .i64 a3, .int .i64 a4, .int .i64 a5, .int .i64 a6, .int .i64 a7] from rfl, Hw3.out]; clear HO))
      go_roundw
      case rel => exact ⟨n + 1, l4, by omega, by go_num, HM4.out, Hp5.out, HB4.out⟩
      case measure => simp [intOf]; omega
    · obtain rfl : n = l.length := by omega
      rw [List.take_length] at hp
      have HM := Lib.hid hM; have Hp := Lib.hid hp; have HB := Lib.hid hB
      clear hM hp hB
      go_wp2
      refine bodyPost_ret (v := .map (some w.heap.size)) (by unfold results; try go_simp) rfl ?_
      exact ⟨_, l', rfl, HM.out, Hp.out, Nat.le_refl _, HB.out⟩

/-- Which handles a list of rows has. -/
def hasH (l : List Rw) (h : Hd) : Prop := ∃ b, (h, b) ∈ l
end Go.Proofs.Ytfbcdblgfhekpaa

/- 'for x := range seq { .. }' where the iterator keeps cells of its own: a law of one's own. -/
namespace Go.Proofs.Ytfbcdblgfhekpaa
open Go Go.RowKit

theorem Mod.putObj {F : List Nat} {a w : World} (h : Mod F a w) {l : Nat} (hl : l ∈ F ∨ a.heap.size ≤ l) (o : Obj) : Mod F a (w.putObj l o) :=
  h.trans (G := [l]) ⟨rfl, rfl, rfl, by simp, fun k _ hk => World.putObj_heap_other (by simpa using hk)⟩ (by simpa using hl)
/-- Ax speaks of cells alone. -/
def ClC {α : Type} (Ax : α → Act → World → Prop) : Prop := ∀ x a' (A B : World), Ax x a' A → A.heap.size ≤ B.heap.size → (∀ (k : Nat) (o : Obj), A.heap[k]? = some o → o.isCells = true → B.heap[k]? = some o) → Ax x a' B

variable {F : Fence} {n : Nat} {P : Program}
end Go.Proofs.Ytfbcdblgfhekpaa

/- Families: above, Adopt. (printed by mk_fam4.py) -/
namespace Go.Proofs.Ytfbcdblgfhekpaa
open Go Go.RowKit Go.Maps Go.Shelf
attribute [local go_sem] AllFrom.cons_eq AllFrom.nil_eq putF_nil putF_cons wantedL_none wantedL_some OpGoalT OpGoalV OpGoalQ OpGoalA OpGoalK YieldsR preF_nil preF_cons
attribute [local go_sem] Oper.semAt_some

/-- All that a handle is under, the nearest first. -/
inductive Chain (B : List Bd) : Hd → List Hd → Prop
  | nil {h : Hd} : parB B h = none → Chain B h []
  | cons {h p : Hd} {xs : List Hd} : parB B h = some p → Chain B p xs → Chain B h (p :: xs)
theorem Chain.mem {B : List Bd} (hs : SortB B) {x : Hd} {xs : List Hd} (h : Chain B x xs) (a : Hd) : (x = a ∨ a ∈ xs) ↔ Up B x a := by
  induction h with
  | nil hp => rw [up_none hp]; simp
  | cons hp _ ih => rw [up_some hs hp, ← ih, List.mem_cons]; constructor <;> (rintro (h | h) <;> simp_all) <;> (rcases h with h | h <;> simp_all)

theorem Chain.fn {B : List Bd} {x : Hd} {xs ys : List Hd} (h : Chain B x xs) (k : Chain B x ys) : xs = ys := by
  induction h generalizing ys with
  | nil hp => cases k with
    | nil => rfl
    | cons hq _ => rw [hp] at hq; cases hq
  | cons hp _ ih => cases k with
    | nil hq => rw [hp] at hq; cases hq
    | cons hq k => rw [hp] at hq; cases hq; rw [ih k]
/-- A region that stores (operation m) into one block g that was made ahead of it. -/
structure IOne (m g : Nat) (w2 : World) (zs row : Array Value) (T : TypeId) (L : Nat → Bool) (V : World) : Prop where
  b : Below w2.heap.size w2 V
  ge : w2.heap.size ≤ g
  blk : V.heap[g]? = some (.cells (if L m = true then row else zs) T (0, 0))
theorem IOne.read {m g : Nat} {w2 : World} {zs row : Array Value} {T : TypeId} {L : Nat → Bool} {V : World} (h : IOne m g w2 zs row T L V) {i : Nat} (h1 : m ≠ i) : IOne m g w2 zs row T (upd L i) V := by
  have e : upd L i m = L m := by unfold upd; simp [h1]
  exact ⟨h.b, h.ge, by rw [e]; exact h.blk⟩
section
variable {w : World} {f : Nat} {B : List Bd} {F : List Nat}
end
end Go.Proofs.Ytfbcdblgfhekpaa

/- Maps of rows: Keys. (printed by mk_df5.py) -/
namespace Go.Proofs.Ytfbcdblgfhekpaa
open Go Go.RowKit Go.Maps Go.Shelf
attribute [local go_sem] AllFrom.cons_eq AllFrom.nil_eq putF_nil putF_cons wantedL_none wantedL_some OpGoalT OpGoalV OpGoalQ OpGoalA OpGoalK YieldsR preF_nil preF_cons
attribute [local go_sem] Oper.semAt_some

theorem RangeAt.walks {P : Program} {kt : TypeId} {w w' : World} {b r : Nat} {l todo : List (Value × Value)} (h : RangeAt P kt w b r l todo) (k : KeepsWalks w w') : RangeAt P kt w' b r l todo := by
  obtain ⟨es, clock, since, seen, c0, h1, h2, h3, h4, h5, h7, h6⟩ := h
  exact ⟨es, clock, since, seen, c0, k.same _ _ h1 rfl, h2, k.same _ _ h3 rfl, h4, h5, h7, h6⟩
theorem RangeAt.walkObj {P : Program} {kt : TypeId} {w : World} {b r : Nat} {l todo : List (Value × Value)} (h : RangeAt P kt w b r l todo) : ∃ o : Obj, w.heap[r]? = some o ∧ o.isWalk = true := by
  obtain ⟨es, clock, since, seen, c0, h1, h2, h3, h4, h5, h7, h6⟩ := h
  exact ⟨_, h3, rfl⟩
theorem Mod.grown1 {a w : World} {r : Nat} (h : Mod [r] a w) : a.grownBy w (some r) := ⟨h.os, h.tape, h.output, h.size, fun k h1 h2 => h.block k h1 (fun e => h2 (by simp at e; rw [e]))⟩
theorem below_grown0 {a w : World} (h : Below a.heap.size a w) : a.grownBy w none := ⟨h.os, h.tape, h.output, h.size, fun k h1 _ => h.block k h1⟩
theorem keepsWalks_below {a w : World} (h : Below a.heap.size a w) : KeepsWalks a w := ⟨h.size, fun k o hk _ => (h.block k (Array.getElem?_eq_some_iff.1 hk).1).trans hk⟩

section
variable {w : World} {m : Nat} {l : List Rw}
set_option maxRecDepth 20000 in
theorem keys_any (m : Nat) (w : World) : Calls Try.prog 16 #[.map (some m)] w fun e w' => e = .returned (.func (.func 32) #[] #[.pointer (some ⟨w.heap.size, 0, none⟩)]) ∧ w' = w.alloc (.cells #[.map (some m)] 43) := by
  go_enter Try.func16, Try.ntmps16
  go_wp2
  go_ret
  exact ⟨rfl, rfl⟩

set_option maxRecDepth 20000 in
set_option maxHeartbeats 4000000 in
theorem keys_seq (n : Nat) (h : MapR w m l) (bm : Nat) (hm : w.heap[bm]? = some (.cells #[.map (some m)] 43 (0, 0))) :
    SeqGives Fence.wide n Try.prog 32 #[.pointer (some ⟨bm, 0, none⟩)] hdV (fun xs => xs.Perm (l.map (·.1))) l.length w := by
  intro yl J W hW hJ hY h0
  refine callsIn_of_wp Try.func32 rfl trivial (wpIn_wide.2 ?_) rfl
  simp only [Try.ntmps32, List.size_toArray, List.length_cons, List.length_nil, Nat.reduceAdd, Nat.reduceSub, Array.replicate_succ, Array.replicate_zero, List.push_toArray, List.append_toArray, List.nil_append, List.cons_append]
  have hMW := h.mod (Mod.ofBelow hW) (by simp)
  obtain ⟨o, hrun, hR2⟩ := hMW.range Try.underlying43
  obtain ⟨w1, hw1, hb1, -, hs1⟩ := box1 W o
  rw [hw1] at hR2
  have hmW := (Mod.ofBelow hW).keep hm (by simp)
  have h01 := hJ [] W w1 none h0 (below_grown0 hb1) (fun r e => by cases e)
  have q0 := blk_cell hmW 0
  simp only [List.getElem?_toArray, List.getElem?_cons_zero, List.getElem?_cons_succ] at q0
  have ql := blk_lt hmW
  have HR2 := Lib.hid hR2; have HS1 := Lib.hid hs1; have HJ := Lib.hid hJ; have HY := Lib.hid hY; have H01 := Lib.hid h01
  clear hR2 hs1 hJ hY h01
  clear h hMW hb1 hmW hW hm h0
  go_wp2_with fail
  clear hrun hw1
  generalize hrr : W.heap.size = r at *
  go_loopw [3] (fun _ wr => ∃ (pre : List Hd) (ts : List Rw), RangeAt Try.prog 28 wr m r (l.map rwPr) (ts.map rwPr) ∧ (pre ++ ts.map (·.1)).Perm (l.map (·.1)) ∧ J pre wr) (fun _ wr => wr.rangeLeft m r)
  case atStart => exact ⟨[], l, HR2.out, .refl _, H01.out⟩
  case round =>
    obtain ⟨pre, ts, hRg, hp, hJp⟩ := hrel
    by_cases hts : ts = []
    · subst hts
      have hov := fun ty => RangeAt.over (P := Try.prog) (by simpa using hRg) ty
      rw [List.map_nil, List.append_nil] at hp
      have hfin : (∃ v : Value, Ending.returned (.tuple #[]) = .returned v) ∧ (∃ xs : List Hd, xs.Perm (l.map (·.1)) ∧ J xs wr) := ⟨⟨_, rfl⟩, pre, hp, hJp⟩
      have Hfin := Lib.hid hfin
      clear hfin
      clear hRg hp hJp
      go_wp2
      refine bodyPost_end (v := .tuple #[]) ?_ rfl Hfin.out
      unfold results; try go_simp
    · obtain ⟨t1, x, t2, w2, rfl, hn, hen, hx, hRg2, hm2, hs2⟩ := hRg.nextE hts
      have hmeas := hRg.left_eq
      have hJ2 := HJ.out pre wr w2 (some r) hJp hm2.grown1 (fun q e => by cases e; exact ⟨Nat.le_refl _, hRg.walkObj⟩)
      obtain ⟨w3, hw3, hb3, hz3, hs3⟩ := box1 w2 (.cells #[.int .i64 x.1.1, .int .i64 x.1.2] 28)
      have hJ3 := HJ.out pre w2 w3 none hJ2 (below_grown0 hb3) (fun q e => by cases e)
      have hRg3 := hRg2.walks (keepsWalks_below hb3)
      have hll : pre.length < l.length := by
        have := hp.length_eq
        simp at this
        omega
      obtain ⟨fn, tmps, assign, body, hy, hR⟩ := HY.out pre x.1 w3 hJ3 hll
      have hp2 : ((pre ++ [x.1]) ++ (t1 ++ t2).map (·.1)).Perm (l.map (·.1)) := by
        refine List.Perm.trans ?_ hp
        have := (mid_perm pre (t1.map (·.1)) (t2.map (·.1)) x.1).symm
        simpa using this
      obtain ⟨⟨s, g⟩, K, a0, a1, a2, a3, a4, a5, a6, a7⟩ := x
      simp only [hdV, handleC] at hy
      simp only [rwPr, hdV, handleC, beV] at hn hen
      have u0 := blk_cell hz3 0
      have u1 := blk_cell hz3 1
      simp only [List.getElem?_toArray, List.getElem?_cons_zero, List.getElem?_cons_succ] at u0 u1
      have ul := blk_lt hz3
      have Hmeas := Lib.hid hmeas; have HRg3 := Lib.hid hRg3; have HR := Lib.hid hR; have Hp2 := Lib.hid hp2; have HS2 := Lib.hid hs2; have HS3 := Lib.hid hs3
      clear hmeas hRg3 hR hp2 hs2 hs3
      clear hRg hJp hx hRg2 hm2 hJ2 hJ3 hll hp hb3 hz3
      refine (wpIn_wide (n := n)).1 ?_
      gi_wp2_with fail
      refine ⟨fun h => (by simp [Fence.wide] at h), HR.out.mono ?_⟩
      rintro e W3 ⟨rfl, hJ4, hk4⟩
      have hRg4 := HRg3.out.walks hk4
      have HJ4 := Lib.hid hJ4; have HRg4 := Lib.hid hRg4
      clear hJ4 hRg4
      clear hk4
      gi_wp2_with fail
      go_roundw
      case rel => exact ⟨pre ++ [(s, g)], t1 ++ t2, HRg4.out, Hp2.out, HJ4.out⟩
      case measure => rw [HRg4.out.left_eq, Hmeas.out]; simp
end
end Go.Proofs.Ytfbcdblgfhekpaa
