import Derived.Test.YtfbcdblgfhekpaaDiffBetweensJ18
import Derived.Shelf.SlMaps.Clone
/- Maps of rows: of, get, None, Clone, Copy. (printed by mk_df3.py) -/
namespace Go.Proofs.Ytfbcdblgfhekpaa
open Go Go.RowKit Go.Maps
attribute [local go_sem] AllFrom.cons_eq AllFrom.nil_eq putF_nil putF_cons wantedL_none wantedL_some OpGoalT OpGoalV OpGoalQ OpGoalA OpGoalK YieldsR preF_nil preF_cons

def beV (b : Bt) : Value := .agg (btC b).toArray
def rwPr (r : Rw) : Value × Value := (hdV r.1, beV r.2)
theorem rwPr_keys : HdKeys (β := Bt) rwPr := ⟨fun _ => rfl⟩
/-- Block m is a map of the rows l. -/
abbrev MapR (w : World) (m : Nat) (l : List Rw) : Prop := MapAt Try.prog 28 w m (l.map rwPr)
def noneB : Bt := (-1, 0, 0, 0, 0, 0, 0, 0, 0)
def getM (l : List Rw) (h : Hd) : Bt := ((l.find? (fun r => decide (r.1 = h))).map (·.2)).getD noneB

theorem diffNone_any (w : World) : Calls Try.prog 22 #[] w fun e w' => e = .returned (beV noneB) ∧ Below w.heap.size w w' := by
  have HB := Lib.hid (show Below w.heap.size w (w.alloc (.cells #[.int .i64 (-1), .int .i64 0, .int .i64 0, .int .i64 0, .int .i64 0, .int .i64 0, .int .i64 0, .int .i64 0, .int .i64 0] 31)) from (Below.refl _ _).alloc (Nat.le_refl _) _)
  go_enter Try.func22, Try.ntmps22
  go_wp2
  refine bodyPost_ret (v := .agg #[.int .i64 (-1), .int .i64 0, .int .i64 0, .int .i64 0, .int .i64 0, .int .i64 0, .int .i64 0, .int .i64 0, .int .i64 0]) (by unfold results; try go_simp) rfl ?_
  exact ⟨rfl, HB.out⟩

theorem getM_in {l : List Rw} {h : Hd} {b : Bt} (hp : l.Pairwise (fun x y => x.1 ≠ y.1)) (hm : (h, b) ∈ l) : getM l h = b := by
  unfold getM
  cases hf : l.find? (fun r => decide (r.1 = h)) with
  | none =>
    rw [List.find?_eq_none] at hf
    have := hf _ hm
    simp at this
  | some r =>
    have h1 := List.find?_some hf
    have h2 := List.mem_of_find?_eq_some hf
    simp only [decide_eq_true_eq] at h1
    have : r = (h, b) := by
      rcases List.pairwise_iff_getElem.1 hp with hpp
      obtain ⟨i, hi, ei⟩ := List.mem_iff_getElem.1 h2
      obtain ⟨j, hj, ej⟩ := List.mem_iff_getElem.1 hm
      rcases Nat.lt_trichotomy i j with q | q | q
      · have := hpp i j hi hj q; rw [ei, ej] at this; exact absurd h1 this
      · subst q; rw [← ei, ej]
      · have := hpp j i hj hi q; rw [ei, ej] at this; exact absurd h1.symm this
    rw [this]; rfl
theorem getM_out {l : List Rw} {h : Hd} (hm : ∀ r ∈ l, r.1 ≠ h) : getM l h = noneB := by
  unfold getM
  rw [List.find?_eq_none.2 (fun r hr => by simpa using hm r hr)]
  rfl
theorem getM_perm {l l' : List Rw} (hp : l.Pairwise (fun x y => x.1 ≠ y.1)) (h : l'.Perm l) (k : Hd) : getM l' k = getM l k := by
  have hp' : l'.Pairwise (fun x y => x.1 ≠ y.1) := (List.Perm.pairwise_iff (fun h => Ne.symm h) h).2 hp
  by_cases e : ∃ b, (k, b) ∈ l
  · obtain ⟨b, hb⟩ := e
    rw [getM_in hp hb, getM_in hp' (h.mem_iff.2 hb)]
  · have hn : ∀ r ∈ l, r.1 ≠ k := fun r hr e2 => e ⟨r.2, by rw [← e2]; exact hr⟩
    rw [getM_out hn, getM_out (fun r hr => hn r (h.mem_iff.1 hr))]

section
variable {w : World} {m : Nat} {l : List Rw}
def GetPost (b : Bt) (w : World) (e : Ending) (w' : World) : Prop := e = .returned (beV b) ∧ Below w.heap.size w w'
set_option maxRecDepth 20000 in
set_option maxHeartbeats 4000000 in
theorem get_any (h : MapR w m l) (s g : Int) (hr : HdR (s, g)) : Calls Try.prog 18 #[.map (some m), .agg #[.int .i64 s, .int .i64 g]] w (GetPost (getM l (s, g)) w) := by
  obtain ⟨w0, hw0, hb0, hz0, hs0⟩ := box1 w (.cells #[.int .i64 s, .int .i64 g] 28)
  obtain ⟨w1, hw1, hb1, hz1, hs1⟩ := box1 w0 (.cells #[.int .i64 0, .int .i64 0, .int .i64 0, .int .i64 0, .int .i64 0, .int .i64 0, .int .i64 0, .int .i64 0, .int .i64 0] 31)
  have hz01 := (Mod.ofBelow hb1).keep hz0 (by simp)
  have hB1 := hb0.trans (hb1.mono hb0.size)
  have hM1 : MapR w1 m l := h.mod (Mod.ofBelow hB1) (by simp)
  have hap := mh_apart rwPr_keys h
  have hlt1 := blk_lt hz1
  have q0 := blk_cell hz01 0
  have q1 := blk_cell hz01 1
  simp only [List.getElem?_toArray, List.getElem?_cons_zero, List.getElem?_cons_succ] at q0 q1
  have ql := blk_lt hz01
  by_cases e : ∃ b, ((s, g), b) ∈ l
  · obtain ⟨b, hb⟩ := e
    rw [getM_in hap hb]
    have hlk := mh_in rwPr_keys Try.underlying43 hM1 hr hb true
    obtain ⟨K, a0, a1, a2, a3, a4, a5, a6, a7⟩ := b
    have hlk' : (Instr.lookup 43 (.map (some m)) (.agg #[.int .i64 s, .int .i64 g]) true).run Try.prog w1 = .ok (.tuple #[.agg #[.int .i64 K, .int .i64 a0, .int .i64 a1, .int .i64 a2, .int .i64 a3, .int .i64 a4, .int .i64 a5, .int .i64 a6, .int .i64 a7], .bool true]) w1 := hlk
    obtain ⟨w2, hw2, hb2, hz2, hs2⟩ := box1 w1 (.cells #[.int .i64 K, .int .i64 a0, .int .i64 a1, .int .i64 a2, .int .i64 a3, .int .i64 a4, .int .i64 a5, .int .i64 a6, .int .i64 a7] 31)
    have hz12 := (Mod.ofBelow hb2).keep hz1 (by simp)
    have hne1 : w0.heap.size ≠ w1.heap.size := by omega
    have hne2 : w1.heap.size ≠ w0.heap.size := by omega
    have hle : w.heap.size ≤ w0.heap.size := hb0.size
    have hBf : Below w.heap.size w w2 := hB1.trans (hb2.mono hB1.size)
    have v0 := blk_cell hz2 0
    have v1 := blk_cell hz2 1
    have v2 := blk_cell hz2 2
    have v3 := blk_cell hz2 3
    have v4 := blk_cell hz2 4
    have v5 := blk_cell hz2 5
    have v6 := blk_cell hz2 6
    have v7 := blk_cell hz2 7
    have v8 := blk_cell hz2 8
    simp only [List.getElem?_toArray, List.getElem?_cons_zero, List.getElem?_cons_succ] at v0 v1 v2 v3 v4 v5 v6 v7 v8
    have vl := blk_lt hz2
    have u0 := blk_cell hz12 0
    have u1 := blk_cell hz12 1
    have u2 := blk_cell hz12 2
    have u3 := blk_cell hz12 3
    have u4 := blk_cell hz12 4
    have u5 := blk_cell hz12 5
    have u6 := blk_cell hz12 6
    have u7 := blk_cell hz12 7
    have u8 := blk_cell hz12 8
    simp only [List.getElem?_toArray, List.getElem?_cons_zero, List.getElem?_cons_succ] at u0 u1 u2 u3 u4 u5 u6 u7 u8
    have ul := blk_lt hz12
    have f0 := blk_free hz12 0
    have f1 := blk_free hz12 1
    have f2 := blk_free hz12 2
    have f3 := blk_free hz12 3
    have f4 := blk_free hz12 4
    have f5 := blk_free hz12 5
    have f6 := blk_free hz12 6
    have f7 := blk_free hz12 7
    have f8 := blk_free hz12 8
    have HBf := Lib.hid hBf; have HS0 := Lib.hid hs0; have HS1 := Lib.hid hs1; have HS2 := Lib.hid hs2; have HLe := Lib.hid hle
    clear hBf hs0 hs1 hs2 hle
    clear hlk h hap hM1 hz0 hz1 hz2 hz12 hb0 hb1 hb2 hz01 hB1 hb
    go_enter Try.func18, Try.ntmps18
    go_wp2_with fail
    clear hw0 hw1 hw2
    refine bodyPost_ret (v := .agg #[.int .i64 K, .int .i64 a0, .int .i64 a1, .int .i64 a2, .int .i64 a3, .int .i64 a4, .int .i64 a5, .int .i64 a6, .int .i64 a7]) (by unfold results; try go_simp) rfl ?_
    refine ⟨rfl, ?_⟩
    repeat (refine Below.setCell ?_ HLe.out _)
    exact HBf.out
  · have hn : ∀ r ∈ l, r.1 ≠ (s, g) := fun r hr e2 => e ⟨r.2, by rw [← e2]; exact hr⟩
    rw [getM_out hn]
    have hlk := mh_out rwPr_keys Try.underlying43 (Try.zeroValue31 _) hM1 hr hn true
    have hlk' : (Instr.lookup 43 (.map (some m)) (.agg #[.int .i64 s, .int .i64 g]) true).run Try.prog w1 = .ok (.tuple #[.agg #[.int .i64 0, .int .i64 0, .int .i64 0, .int .i64 0, .int .i64 0, .int .i64 0, .int .i64 0, .int .i64 0, .int .i64 0], .bool false]) w1 := hlk
    obtain ⟨w2, hw2, hb2, hz2, hs2⟩ := box1 w1 (.cells #[.int .i64 0, .int .i64 0, .int .i64 0, .int .i64 0, .int .i64 0, .int .i64 0, .int .i64 0, .int .i64 0, .int .i64 0] 31)
    have hB2 : Below w.heap.size w w2 := hB1.trans (hb2.mono hB1.size)
    have hz12 := (Mod.ofBelow hb2).keep hz1 (by simp)
    have H3 := Lib.hid (diffNone_any w2)
    have HB2 := Lib.hid hB2; have Hz12 := Lib.hid hz12; have HS0 := Lib.hid hs0; have HS1 := Lib.hid hs1; have HS2 := Lib.hid hs2; have HW2 := Lib.hid hw2
    clear hB2 hz12 hs0 hs1 hs2 hw2
    clear hlk h hap hM1 hz0 hz1 hz2 hb1 hb2 hz01 hB1 hn e
    go_enter Try.func18, Try.ntmps18
    go_wp2_with fail
    clear hw0 hw1
    rw [HW2.out]
    refine H3.out.mono ?_
    rintro e w3 ⟨rfl, hb3⟩
    have hz3 := (Mod.ofBelow hb3).keep Hz12.out (by simp)
    have hle : w.heap.size ≤ w0.heap.size := hb0.size
    have hBf : Below w.heap.size w w3 := HB2.out.trans (hb3.mono HB2.out.size)
    rw [show beV noneB = .agg #[.int .i64 (-1), .int .i64 0, .int .i64 0, .int .i64 0, .int .i64 0, .int .i64 0, .int .i64 0, .int .i64 0, .int .i64 0] from rfl]
    have u0 := blk_cell hz3 0
    have u1 := blk_cell hz3 1
    have u2 := blk_cell hz3 2
    have u3 := blk_cell hz3 3
    have u4 := blk_cell hz3 4
    have u5 := blk_cell hz3 5
    have u6 := blk_cell hz3 6
    have u7 := blk_cell hz3 7
    have u8 := blk_cell hz3 8
    simp only [List.getElem?_toArray, List.getElem?_cons_zero, List.getElem?_cons_succ] at u0 u1 u2 u3 u4 u5 u6 u7 u8
    have ul := blk_lt hz3
    have f0 := blk_free hz3 0
    have f1 := blk_free hz3 1
    have f2 := blk_free hz3 2
    have f3 := blk_free hz3 3
    have f4 := blk_free hz3 4
    have f5 := blk_free hz3 5
    have f6 := blk_free hz3 6
    have f7 := blk_free hz3 7
    have f8 := blk_free hz3 8
    have HBf := Lib.hid hBf; have HLe := Lib.hid hle
    clear hBf hle
    clear hb0 hb3 hz3
    go_wp2
    refine bodyPost_ret (v := .agg #[.int .i64 (-1), .int .i64 0, .int .i64 0, .int .i64 0, .int .i64 0, .int .i64 0, .int .i64 0, .int .i64 0, .int .i64 0]) (by unfold results; try go_simp) rfl ?_
    refine ⟨rfl, ?_⟩
    repeat (refine Below.setCell ?_ HLe.out _)
    exact HBf.out

def cloneRowsL_ren : Go.Shelf.Ren := ⟨fun | 5 => 13 | 7 => 29 | n => n, fun | 23 => 43 | 25 => 28 | 3 => 31 | 4 => 4 | 20 => 20 | n => n, fun | n => n⟩
theorem cloneRowsL : Go.Proofs.SlLaysW.n5 Try.prog cloneRowsL_ren := {
  mixed := by kernel_rfl,
  f5 := ⟨Try.f13.name, by decide, Try.func13.trans (congrArg some (by kernel_rfl))⟩,
  f7 := Try.func29.trans (congrArg some (by kernel_rfl)),
  t4 := Try.underlying4,
  a4 := Try.isAgg4,
  z4 := Try.sizeOf4,
  v4 := Try.zeroValue4,
  t20 := Try.underlying20,
  a20 := Try.isAgg20,
  z20 := Try.sizeOf20,
  v20 := Try.zeroValue20,
  t23 := Try.underlying43,
  a23 := Try.isAgg43,
  z23 := Try.sizeOf43,
  v23 := Try.zeroValue43 }
theorem mclone_any (h : MapR w m l) : Calls Try.prog 13 #[.map (some m)] w fun e w' => e = .returned (.map (some w.heap.size)) ∧ MapR w' w.heap.size l ∧ Below w.heap.size w w' ∧ w.heap.size < w'.heap.size := by
  obtain ⟨es, clock, hb, hk⟩ := h
  refine (AnyW.maps_Clone cloneRowsL m es clock w hb).mono ?_
  rintro e w' ⟨rfl, rfl⟩
  exact ⟨rfl, ⟨es, clock, (MapKept.heap_alloc w _).1, hk⟩, (Below.refl _ _).alloc (Nat.le_refl _) _, by simp⟩
end
end Go.Proofs.Ytfbcdblgfhekpaa

/- Maps of rows: of, Copy. (printed by mk_df4.py) -/
namespace Go.Proofs.Ytfbcdblgfhekpaa
open Go Go.RowKit Go.Maps
attribute [local go_sem] AllFrom.cons_eq AllFrom.nil_eq putF_nil putF_cons wantedL_none wantedL_some OpGoalT OpGoalV OpGoalQ OpGoalA OpGoalK YieldsR preF_nil preF_cons

def OfRPost (l : List Rw) (w : World) (e : Ending) (w' : World) : Prop := ∃ m l', e = .returned (.map (some m)) ∧ MapR w' m l' ∧ l'.Perm l ∧ w.heap.size ≤ m ∧ Below w.heap.size w w'
set_option maxRecDepth 20000 in
set_option maxHeartbeats 4000000 in
theorem of_any {w : World} (A : Option Addr) (c : Nat) (l : List Rw) (hl : l.length ≤ 9223372036854775807) (hA : Lies w w.heap.size A (l.flatMap rwC)) (hd : l.Pairwise (fun x y => x.1 ≠ y.1)) (hR : ∀ r ∈ l, HdR r.1) :
    Calls Try.prog 12 #[.slice A l.length c] w (OfRPost l w) := by
  have hmm := @run_makeMap Try.prog
  obtain ⟨w1, hw1, hb1, hz1, hs1⟩ := box1 w (.map #[] 0)
  have hM1 : MapR w1 w.heap.size [] := ⟨#[], 0, hz1, ⟨Go.MapKept.stamped_empty 0, by simp, rfl⟩⟩
  have HA := Lib.hid hA; have HD := Lib.hid hd; have HR := Lib.hid hR; have HB1 := Lib.hid hb1; have HM1 := Lib.hid hM1; have HS1 := Lib.hid hs1
  clear hA hd hR hb1 hM1 hs1
  clear hz1
  go_enter Try.func12, Try.ntmps12
  go_wp2_with fail
  clear hmm hw1
  go_loopw [9] (fun i wr => ∃ (n : Nat) (l' : List Rw), n ≤ l.length ∧ i = .int .i64 n ∧ MapR wr w.heap.size l' ∧ l'.Perm (l.take n) ∧ Below w.heap.size w wr) (fun i _ => l.length - (intOf i).toNat)
  case atStart => exact ⟨0, [], by omega, rfl, HM1.out, .refl _, HB1.out⟩
  case round =>
    obtain ⟨n, l', hn, rfl, hM, hp, hB⟩ := hrel
    have hsz := hB.size
    by_cases hlt : n < l.length
    · obtain ⟨ab, ao, rfl, hal, hc⟩ := HA.out.rec_at rwC_len (by omega) hlt
      have hq : ∀ j u, (rwC l[n])[j]? = some u → wr.cell? ((⟨ab, ao + n * 11, none⟩ : Addr).add j) = some u := fun j u hu => (hB.cell (p := (⟨ab, ao + n * 11, none⟩ : Addr).add j) (by rw [add_block]; exact hal)).trans (by first | exact hc j u hu | (have := hc j u hu; rw [Addr.add_mid]; exact this))
      have hni : (n : Int) < (l.length : Int) := by omega
      have hts := take_succ_get l n hlt
      have hr := HR.out _ (List.getElem_mem hlt)
      have hnew : ∀ x ∈ l', x.1 ≠ l[n].1 := by
        intro x hx
        have hx2 := hp.mem_iff.1 hx
        have h1 := HD.out
        obtain ⟨i, hi, ei⟩ := List.mem_iff_getElem.1 hx2
        rw [List.length_take] at hi
        rw [List.getElem_take] at ei
        have := List.pairwise_iff_getElem.1 h1 i n (by omega) hlt (by omega)
        rw [ei] at this; exact this
      generalize l[n] = x at *
      obtain ⟨⟨s, g⟩, K, a0, a1, a2, a3, a4, a5, a6, a7⟩ := x
      obtain ⟨w3, hw3, hb3, hz3, hs3⟩ := box1 wr (.cells #[.int .i64 s, .int .i64 g, .int .i64 K, .int .i64 a0, .int .i64 a1, .int .i64 a2, .int .i64 a3, .int .i64 a4, .int .i64 a5, .int .i64 a6, .int .i64 a7] 33)
      have hM3 : MapR w3 w.heap.size l' := hM.mod (Mod.ofBelow hb3) (by simp)
      obtain ⟨w4, l4, hrun, hM4, hp4, hm4, -⟩ := mh_upd rwPr_keys Try.underlying43 hM3 hr (K, a0, a1, a2, a3, a4, a5, a6, a7)
      have hrun' : (Instr.mapUpdate 43 (.map (some w.heap.size)) (.agg #[.int .i64 s, .int .i64 g]) (.agg #[.int .i64 K, .int .i64 a0, .int .i64 a1, .int .i64 a2, .int .i64 a3, .int .i64 a4, .int .i64 a5, .int .i64 a6, .int .i64 a7])).run Try.prog w3 = .ok () w4 := hrun
      have hp5 : l4.Perm (l.take (n + 1)) := by
        rw [hts]
        rw [List.filter_eq_self.2 (fun x hx => by simpa using hnew x hx)] at hp4
        exact hp4.trans ((hp.cons _).trans (List.perm_append_singleton _ _).symm)
      have hB4 : Below w.heap.size w w4 := (hB.trans (hb3.mono hsz)).trans (hm4.toBelow (by simp) (by have := hb3.size; omega))
      have HO := Lib.hid (rwC_one ((s, g), K, a0, a1, a2, a3, a4, a5, a6, a7))
      have r0 := blk_cell hz3 0
      have r1 := blk_cell hz3 1
      have r2 := blk_cell hz3 2
      have r3 := blk_cell hz3 3
      have r4 := blk_cell hz3 4
      have r5 := blk_cell hz3 5
      have r6 := blk_cell hz3 6
      have r7 := blk_cell hz3 7
      have r8 := blk_cell hz3 8
      have r9 := blk_cell hz3 9
      have r10 := blk_cell hz3 10
      simp only [List.getElem?_toArray, List.getElem?_cons_zero, List.getElem?_cons_succ] at r0 r1 r2 r3 r4 r5 r6 r7 r8 r9 r10
      have rl := blk_lt hz3
      have HP := Lib.hid hq; have Hw3 := Lib.hid hw3; have HM4 := Lib.hid hM4; have Hp5 := Lib.hid hp5; have HB4 := Lib.hid hB4; have HS3 := Lib.hid hs3
      clear hq hw3 hM4 hp5 hB4 hs3
      clear hc hM hp hB hts hr hnew hb3 hz3 hM3 hrun hp4 hm4
      go_wp2_with (first | (refine wpList_load_flat rfl 33 (.tmp 11) rfl _ rfl [.int .i64 s, .int .i64 g, .int .i64 K, .int .i64 a0, .int .i64 a1, .int .i64 a2, .int .i64 a3, .int .i64 a4, .int .i64 a5, .int .i64 a6, .int .i64 a7] _ Try.underlying33 rfl (by kernel_rfl) HP.out ?_) | (refine wpList_store_new rfl 33 (.tmp 5) (.tmp 12) rfl wr (ints [0, 0, 0, 0, 0, 0, 0, 0, 0, 0, 0]) [.int .i64 s, .int .i64 g, .int .i64 K, .int .i64 a0, .int .i64 a1, .int .i64 a2, .int .i64 a3, .int .i64 a4, .int .i64 a5, .int .i64 a6, .int .i64 a7] 33 rfl rfl rfl (sz_Row ((s, g), K, a0, a1, a2, a3, a4, a5, a6, a7)) HO.out ?_; rw [show ([.int .i64 s, .int .i64 g, .int .i64 K, .int .i64 a0, .int .i64 a1, .int .i64 a2, .int .i64 a3, .int .i64 a4, .int .i64 a5, .int .i64 a6, .int .i64 a7] : List Value).toArray = #[.int .i64 s, .int .i64 g, .int .i64 K, .int .i64 a0, .int .i64 a1, .int .i64 a2, .int .i64 a3, .int .i64 a4, .int .i64 a5, .int .i64 a6, .int .i64 a7] from rfl, Hw3.out]; clear HO))
      go_roundw
      case rel => exact ⟨n + 1, l4, by omega, by go_num, HM4.out, Hp5.out, HB4.out⟩
      case measure => simp [intOf]; omega
    · obtain rfl : n = l.length := by omega
      rw [List.take_length] at hp
      have HM := Lib.hid hM; have Hp := Lib.hid hp; have HB := Lib.hid hB
      clear hM hp hB
      go_wp2
      refine bodyPost_ret (v := .map (some w.heap.size)) (by unfold results; try go_simp) rfl ?_
      exact ⟨_, l', rfl, HM.out, Hp.out, Nat.le_refl _, HB.out⟩

/-- Which handles a list of rows has. -/
def hasH (l : List Rw) (h : Hd) : Prop := ∃ b, (h, b) ∈ l
def CopyPost (m1 : Nat) (l1 l2 : List Rw) (w : World) (e : Ending) (w' : World) : Prop :=
  e = .returned (.tuple #[]) ∧ (∃ l', MapR w' m1 l' ∧ (∀ h, hasH l' h ↔ hasH l1 h ∨ hasH l2 h) ∧ l'.length ≤ l1.length + l2.length) ∧ Mod [m1] w w'
set_option maxRecDepth 20000 in
set_option maxHeartbeats 4000000 in
theorem mcopy_any {w : World} {m1 m2 : Nat} {l1 l2 : List Rw} (h1 : MapR w m1 l1) (h2 : MapR w m2 l2) (hne : m1 ≠ m2) (hR : ∀ r ∈ l2, HdR r.1) :
    Calls Try.prog 14 #[.map (some m1), .map (some m2)] w (CopyPost m1 l1 l2 w) := by
  obtain ⟨o, hrun, hR2⟩ := h2.range Try.underlying43
  obtain ⟨w1, hw1, hb1, -, hs1⟩ := box1 w o
  rw [hw1] at hR2
  have h11 : MapR w1 m1 l1 := h1.mod (Mod.ofBelow hb1) (by simp)
  have hm01 : Mod [m1] w w1 := (Mod.ofBelow hb1).mono (by simp)
  have hlt := h1.lt
  have H11 := Lib.hid h11; have HR2 := Lib.hid hR2; have HS1 := Lib.hid hs1; have Hm01 := Lib.hid hm01; have HNe := Lib.hid hne; have HR := Lib.hid hR; have Hlt := Lib.hid hlt
  clear h11 hR2 hs1 hm01 hne hR hlt
  clear h1 h2 hb1
  go_enter Try.func14, Try.ntmps14
  go_wp2_with fail
  clear hrun hw1
  generalize hrr : w.heap.size = r at *
  go_loopw [9] (fun _ wr => ∃ (l' D ts : List Rw), RangeAt Try.prog 28 wr m2 r (l2.map rwPr) (ts.map rwPr) ∧ MapR wr m1 l' ∧ (D ++ ts).Perm l2 ∧ (∀ h, hasH l' h ↔ hasH l1 h ∨ hasH D h) ∧ l'.length ≤ l1.length + D.length ∧ Mod [m1, r] w1 wr) (fun _ wr => wr.rangeLeft m2 r)
  case atStart => exact ⟨l1, [], l2, HR2.out, H11.out, .refl _, fun h => ⟨.inl, fun e => e.resolve_right (fun ⟨b, hb⟩ => by cases hb)⟩, by simp, Mod.refl _ _⟩
  case round =>
    obtain ⟨l', D, ts, hRg, hM, hp, hk, hll, hmod⟩ := hrel
    by_cases hts : ts = []
    · subst hts
      have hov := fun ty => RangeAt.over (P := Try.prog) (by simpa using hRg) ty
      simp only [List.append_nil] at hp
      have hfin : CopyPost m1 l1 l2 w (.returned (.tuple #[])) wr := by
        refine ⟨rfl, ⟨l', hM, fun h => ?_, by rw [← hp.length_eq]; exact hll⟩, ?_⟩
        · rw [hk h]
          have : hasH D h ↔ hasH l2 h := ⟨fun ⟨b, hb⟩ => ⟨b, hp.mem_iff.1 hb⟩, fun ⟨b, hb⟩ => ⟨b, hp.mem_iff.2 hb⟩⟩
          rw [this]
        · exact Hm01.out.trans hmod (fun x hx => by
            simp at hx
            rcases hx with rfl | rfl
            · simp
            · exact .inr (by omega))
      have Hfin := Lib.hid hfin
      clear hfin
      clear hRg hM hp hk hll hmod
      go_wp2
      refine bodyPost_end (v := .tuple #[]) ?_ rfl Hfin.out
      unfold results; try go_simp
    · obtain ⟨t1, x, t2, w2, rfl, hn, hen, hx, hRg2, hm2, hs2⟩ := hRg.nextE hts
      have hmeas := hRg.left_eq
      have hxl : x ∈ l2 := hp.mem_iff.1 (by simp)
      have hxr := HR.out x hxl
      have hM2 : MapR w2 m1 l' := hM.mod hm2 (by have := Hlt.out; simp; omega)
      obtain ⟨⟨s, g⟩, K, a0, a1, a2, a3, a4, a5, a6, a7⟩ := x
      have hm12 : Mod [m1, r] w1 w2 := hmod.step (hm2.mono (by simp))
      have hb24 : Below w2.heap.size w2 ((w2.alloc (.cells #[.int .i64 s, .int .i64 g] 28)).alloc (.cells #[.int .i64 K, .int .i64 a0, .int .i64 a1, .int .i64 a2, .int .i64 a3, .int .i64 a4, .int .i64 a5, .int .i64 a6, .int .i64 a7] 31)) := ((Below.refl _ _).alloc (Nat.le_refl _) _).alloc (by simp) _
      have hM4 := hM2.mod (Mod.ofBelow hb24) (by simp)
      obtain ⟨w5, l5, hrun, hM5, hp5, hm5, -⟩ := mh_upd rwPr_keys Try.underlying43 hM4 hxr (K, a0, a1, a2, a3, a4, a5, a6, a7)
      have hrun' : (Instr.mapUpdate 43 (.map (some m1)) (.agg #[.int .i64 s, .int .i64 g]) (.agg #[.int .i64 K, .int .i64 a0, .int .i64 a1, .int .i64 a2, .int .i64 a3, .int .i64 a4, .int .i64 a5, .int .i64 a6, .int .i64 a7])).run Try.prog ((w2.alloc (.cells #[.int .i64 s, .int .i64 g] 28)).alloc (.cells #[.int .i64 K, .int .i64 a0, .int .i64 a1, .int .i64 a2, .int .i64 a3, .int .i64 a4, .int .i64 a5, .int .i64 a6, .int .i64 a7] 31)) = .ok () w5 := hrun
      have hRg5 := (hRg2.mod (Mod.ofBelow hb24) (by simp) (by simp)).mod hm5 (by have := HNe.out; simpa using Ne.symm this) (by have := Hlt.out; simp; omega)
      have hm15 := (hm12.andBelow hb24).step (hm5.mono (by simp))
      have hk5 : ∀ h, hasH l5 h ↔ hasH l1 h ∨ hasH (D ++ [((s, g), K, a0, a1, a2, a3, a4, a5, a6, a7)]) h := by
        intro h
        have e1 : hasH l5 h ↔ hasH l' h ∨ h = (s, g) := by
          constructor
          · rintro ⟨b, hb⟩
            rcases List.mem_cons.1 (hp5.mem_iff.1 hb) with e | e
            · exact .inr (congrArg Prod.fst e)
            · exact .inl ⟨b, (List.mem_filter.1 e).1⟩
          · rintro (⟨b, hb⟩ | rfl)
            · by_cases e : h = (s, g)
              · subst e; exact ⟨(K, a0, a1, a2, a3, a4, a5, a6, a7), hp5.mem_iff.2 (by simp)⟩
              · exact ⟨b, hp5.mem_iff.2 (List.mem_cons_of_mem _ (List.mem_filter.2 ⟨hb, by simpa using e⟩))⟩
            · exact ⟨(K, a0, a1, a2, a3, a4, a5, a6, a7), hp5.mem_iff.2 (by simp)⟩
        have e2 : hasH (D ++ [((s, g), K, a0, a1, a2, a3, a4, a5, a6, a7)]) h ↔ hasH D h ∨ h = (s, g) := by
          constructor
          · rintro ⟨b, hb⟩
            rcases List.mem_append.1 hb with e | e
            · exact .inl ⟨b, e⟩
            · simp at e; exact .inr e.1
          · rintro (⟨b, hb⟩ | rfl)
            · exact ⟨b, by simp [hb]⟩
            · exact ⟨(K, a0, a1, a2, a3, a4, a5, a6, a7), by simp⟩
        rw [e1, e2, hk h, or_assoc]
      have hl5 : l5.length ≤ l1.length + (D ++ [((s, g), K, a0, a1, a2, a3, a4, a5, a6, a7)]).length := by
        have h6 := hp5.length_eq
        rw [List.length_cons] at h6
        have h7 : l5.length ≤ l'.length + 1 := by rw [h6]; exact Nat.succ_le_succ (List.length_filter_le _ _)
        rw [List.length_append, List.length_singleton]
        omega
      simp only [rwPr, hdV, handleC, beV] at hn hen
      rw [show (btC (K, a0, a1, a2, a3, a4, a5, a6, a7)).toArray = #[.int .i64 K, .int .i64 a0, .int .i64 a1, .int .i64 a2, .int .i64 a3, .int .i64 a4, .int .i64 a5, .int .i64 a6, .int .i64 a7] from rfl] at hn hen
      have Hmeas := Lib.hid hmeas; have HM5 := Lib.hid hM5; have HRg5 := Lib.hid hRg5; have Hm15 := Lib.hid hm15; have Hk5 := Lib.hid hk5; have Hl5 := Lib.hid hl5; have Hp := Lib.hid hp; have HS2 := Lib.hid hs2
      clear hmeas hM5 hRg5 hm15 hk5 hl5 hp hs2
      clear hRg hM hk hll hmod hx hRg2 hm2 hxl hxr hM2 hm12 hb24 hM4 hrun hp5 hm5
      go_wp2
      go_roundw
      case rel => exact ⟨l5, D ++ [((s, g), K, a0, a1, a2, a3, a4, a5, a6, a7)], t1 ++ t2, HRg5.out, HM5.out, (mid_perm D t1 t2 _).symm.trans Hp.out, Hk5.out, Hl5.out, Hm15.out⟩
      case measure => rw [HRg5.out.left_eq, Hmeas.out]; simp
end Go.Proofs.Ytfbcdblgfhekpaa
