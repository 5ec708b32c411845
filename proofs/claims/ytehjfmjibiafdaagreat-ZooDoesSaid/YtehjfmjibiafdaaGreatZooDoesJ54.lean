import Derived.Test.YtehjfmjibiafdaaGreatZooDoesJ50
import Derived.Test.YtehjfmjibiafdaaGreatZooDoesJ53
/- Pairs of zoos: New, Same. (printed by mk_zlaw.py) -/
namespace Go.Proofs.YtehjfmjibiafdaaGreat
open Go Go.RowKit
attribute [local go_sem] AllFrom.cons_eq AllFrom.nil_eq putF_nil putF_cons wantedL_none wantedL_some OpGoalT OpGoalV OpGoalQ OpGoalA OpGoalK YieldsR preF_nil preF_cons

theorem eqRows_self (l : List Rw) (v v' : Value) (w : World) {B B' : Nat} (hl : l.length ≤ 1200000000000) (h : w.ownsRow B 69 11 v l.length (l.flatMap rwC)) (h' : w.ownsRow B' 69 11 v' l.length (l.flatMap rwC)) :
    Calls Tryz.prog 23 #[v, v'] w fun e w' => e = .returned (.bool true) ∧ Below w.heap.size w w' := by
  obtain ⟨A, c, rfl, hc, hA⟩ := own_lies h
  obtain ⟨A', c', rfl, hc', hA'⟩ := own_lies h'
  have := eqRow_any A c A' c' l l w (by omega) (by omega) hA hA'
  rw [eqB_self] at this
  exact this
theorem eqBonds_self (l : List Bd) (v v' : Value) (w : World) {B B' : Nat} (hl : l.length ≤ 1200000000000) (h : w.ownsRow B 84 4 v l.length (l.flatMap bdC)) (h' : w.ownsRow B' 84 4 v' l.length (l.flatMap bdC)) :
    Calls Tryz.prog 36 #[v, v'] w fun e w' => e = .returned (.bool true) ∧ Below w.heap.size w w' := by
  obtain ⟨A, c, rfl, hc, hA⟩ := own_lies h
  obtain ⟨A', c', rfl, hc', hA'⟩ := own_lies h'
  have := eqBond_any A c A' c' l l w (by omega) (by omega) hA hA'
  rw [eqB_self] at this
  exact this
theorem eqInts_self (l : List Int) (v v' : Value) (w : World) {B B' : Nat} (hl : l.length ≤ 1200000000000) (h : w.ownsRow B 3 1 v l.length (ints l)) (h' : w.ownsRow B' 3 1 v' l.length (ints l)) :
    Calls Tryz.prog 35 #[v, v'] w fun e w' => e = .returned (.bool true) ∧ Below w.heap.size w w' := by
  obtain ⟨A, c, rfl, hc, hA⟩ := own_lies h
  obtain ⟨A', c', rfl, hc', hA'⟩ := own_lies h'
  have := eqInt_any A c A' c' l l w.heap.size w.heap.size w (by omega) (by omega) hA hA'
  rw [eqB_self] at this
  exact this.mono fun e w' ⟨he, hw⟩ => ⟨he, hw ▸ Below.refl _ _⟩

set_option maxRecDepth 20000 in
set_option maxHeartbeats 4000000 in
theorem same_any {sl : Sl} {L : List Rw} {B : List Bd} (hO : ZOk sl L B) {v1 v2 v3 u1 u2 u3 : Value} {w : World} (g1 : w.ownsRow 0 3 1 v1 (gensS sl).length (ints (gensS sl))) (g2 : w.ownsRow 0 69 11 v2 L.length (L.flatMap rwC)) (g3 : w.ownsRow 0 84 4 v3 B.length (B.flatMap bdC))
    (k1 : w.ownsRow 0 3 1 u1 (gensS sl).length (ints (gensS sl))) (k2 : w.ownsRow 0 69 11 u2 L.length (L.flatMap rwC)) (k3 : w.ownsRow 0 84 4 u3 B.length (B.flatMap bdC)) :
    Calls Tryz.prog 10 #[.agg #[v1, v2, v3], .agg #[u1, u2, u3]] w fun e w' => e = .returned (.bool true) ∧ Below w.heap.size w w' := by
  obtain ⟨A1, c1, rfl, -, -⟩ := row_slice g1
  obtain ⟨A2, c2, rfl, -, -⟩ := row_slice g2
  obtain ⟨A3, c3, rfl, -, -⟩ := row_slice g3
  obtain ⟨A4, c4, rfl, -, -⟩ := row_slice k1
  obtain ⟨A5, c5, rfl, -, -⟩ := row_slice k2
  obtain ⟨A6, c6, rfl, -, -⟩ := row_slice k3
  have hlg : (gensS sl).length ≤ 60 := by unfold gensS; rw [List.length_map]; exact hO.w.ok.1
  have hll := hO.w.len; have hbl := hO.len
  generalize gensS sl = gs at *
  obtain ⟨w0, hw0, hb0, hz0, hs0⟩ := box1 w (.cells #[.slice A1 gs.length c1, .slice A2 L.length c2, .slice A3 B.length c3] 26)
  obtain ⟨w1, hw1, hb1, hz1, hs1⟩ := box1 w0 (.cells #[.slice A4 gs.length c4, .slice A5 L.length c5, .slice A6 B.length c6] 26)
  have hb01 := hb0.trans (hb1.mono hb0.size)
  have hz01 := (Mod.ofBelow hb1).keep hz0 (by simp)
  have H1 := Lib.hid (fun V (hb : Below w.heap.size w V) => eqInts_self gs _ _ V (by omega) (row_mod g1 (Mod.ofBelow hb) (by simp)) (row_mod k1 (Mod.ofBelow hb) (by simp)))
  have H2 := Lib.hid (fun V (hb : Below w.heap.size w V) => eqRows_self L _ _ V (by omega) (row_mod g2 (Mod.ofBelow hb) (by simp)) (row_mod k2 (Mod.ofBelow hb) (by simp)))
  have H3 := Lib.hid (fun V (hb : Below w.heap.size w V) => eqBonds_self B _ _ V (by omega) (row_mod g3 (Mod.ofBelow hb) (by simp)) (row_mod k3 (Mod.ofBelow hb) (by simp)))
  have a0 := blk_cell hz01 0
  have a1 := blk_cell hz01 1
  have a2 := blk_cell hz01 2
  simp only [List.getElem?_toArray, List.getElem?_cons_zero, List.getElem?_cons_succ] at a0 a1 a2
  have al := blk_lt hz01
  have b0 := blk_cell hz1 0
  have b1 := blk_cell hz1 1
  have b2 := blk_cell hz1 2
  simp only [List.getElem?_toArray, List.getElem?_cons_zero, List.getElem?_cons_succ] at b0 b1 b2
  have bl := blk_lt hz1
  have Hb01 := Lib.hid hb01; have Hz01 := Lib.hid hz01; have Hz1 := Lib.hid hz1; have Hs0 := Lib.hid hs0; have Hs1 := Lib.hid hs1
  clear hb01 hz01 hz1 hs0 hs1
  clear g1 g2 g3 k1 k2 k3 hb0 hb1 hz0
  go_enter Tryz.func10, Tryz.ntmps10
  go_wp2_with fail
  clear hw0 hw1
  refine (H1.out _ Hb01.out).mono ?_
  rintro e w2 ⟨rfl, hb2⟩
  have hz02 := (Mod.ofBelow hb2).keep Hz01.out (by simp)
  have hz12 := (Mod.ofBelow hb2).keep Hz1.out (by simp)
  have hb02 := Hb01.out.trans (hb2.mono Hb01.out.size)
  clear a0 a1 a2 al b0 b1 b2 bl
  have a0 := blk_cell hz02 0
  have a1 := blk_cell hz02 1
  have a2 := blk_cell hz02 2
  simp only [List.getElem?_toArray, List.getElem?_cons_zero, List.getElem?_cons_succ] at a0 a1 a2
  have al := blk_lt hz02
  have b0 := blk_cell hz12 0
  have b1 := blk_cell hz12 1
  have b2 := blk_cell hz12 2
  simp only [List.getElem?_toArray, List.getElem?_cons_zero, List.getElem?_cons_succ] at b0 b1 b2
  have bl := blk_lt hz12
  have Hz02 := Lib.hid hz02; have Hz12 := Lib.hid hz12; have Hb02 := Lib.hid hb02
  clear hz02 hz12 hb02
  clear hb2
  go_wp2_with fail
  refine (H2.out _ Hb02.out).mono ?_
  rintro e w3 ⟨rfl, hb3⟩
  have hz03 := (Mod.ofBelow hb3).keep Hz02.out (by simp)
  have hz13 := (Mod.ofBelow hb3).keep Hz12.out (by simp)
  have hb03 := Hb02.out.trans (hb3.mono Hb02.out.size)
  clear a0 a1 a2 al b0 b1 b2 bl
  have a0 := blk_cell hz03 0
  have a1 := blk_cell hz03 1
  have a2 := blk_cell hz03 2
  simp only [List.getElem?_toArray, List.getElem?_cons_zero, List.getElem?_cons_succ] at a0 a1 a2
  have al := blk_lt hz03
  have b0 := blk_cell hz13 0
  have b1 := blk_cell hz13 1
  have b2 := blk_cell hz13 2
  simp only [List.getElem?_toArray, List.getElem?_cons_zero, List.getElem?_cons_succ] at b0 b1 b2
  have bl := blk_lt hz13
  have Hz03 := Lib.hid hz03; have Hz13 := Lib.hid hz13; have Hb03 := Lib.hid hb03
  clear hz03 hz13 hb03
  clear hb3
  go_wp2_with fail
  refine (H3.out _ Hb03.out).mono ?_
  rintro e w4 ⟨rfl, hb4⟩
  have hb04 := Hb03.out.trans (hb4.mono Hb03.out.size)
  have Hb04 := Lib.hid hb04
  clear hb04
  clear hb4
  go_wp2
  go_ret
  exact ⟨rfl, Hb04.out⟩

/-- What New leaves. -/
def NewV (w : World) (e : Ending) (w' : World) : Prop := ∃ z p f F, e = .returned (.pointer (some ⟨z, 0, none⟩)) ∧ RepV z p f [] [] [] w' F ∧ (∀ y ∈ F, w.heap.size ≤ y) ∧ Below w.heap.size w w'
set_option maxRecDepth 20000 in
theorem zooNew_any (w : World) : Calls Tryz.prog 13 #[] w (NewV w) := by
  go_enter Tryz.func13, Tryz.ntmps13
  go_wp2_with fail
  refine (worldNew_any w).mono ?_
  rintro e w1 ⟨p, FW, rfl, hW, hFW, hb1⟩
  have HW := Lib.hid hW; have HFW := Lib.hid hFW; have Hb1 := Lib.hid hb1
  clear hW hFW hb1
  go_wp2_with fail
  refine (famNew_any w1).mono ?_
  rintro e w2 ⟨f, FF, rfl, hF, hFF, hb2⟩
  obtain ⟨w3, hw3, hb3, hz3, hs3⟩ := box1 w2 (.cells #[.pointer (some ⟨p, 0, none⟩), .pointer (some ⟨f, 0, none⟩)] 62)
  have hlW := HW.out.lt; have hlF := hF.lt
  have hs1 := Hb1.out.size; have hs2 := hb2.size
  have hfin : RepV w2.heap.size p f [] [] [] w3 (w2.heap.size :: (FW ++ FF)) := ⟨hz3, FW, FF, (HW.out.below hb2).below hb3, hF.below hb3, rfl, fun e => by have := hlW _ e; omega, fun e => by have := hlF _ e; omega, fun y hy e => by have h1 := hlW y hy; have h2 := hFF y e; omega⟩
  have hge : ∀ y ∈ w2.heap.size :: (FW ++ FF), w.heap.size ≤ y := fun y hy => by
    rcases List.mem_cons.1 hy with rfl | hy
    · omega
    · rcases List.mem_append.1 hy with hy | hy
      · exact HFW.out y hy
      · have := hFF y hy; omega
  have hb03 := (Hb1.out.trans (hb2.mono hs1)).trans (hb3.mono (by omega))
  have Hfin := Lib.hid hfin; have Hge := Lib.hid hge; have Hb03 := Lib.hid hb03
  clear hfin hge hb03
  clear hb2 hb3 hz3 hs3 hlW hlF hs1 hs2 hF hFF
  go_wp2
  go_ret
  exact ⟨_, _, _, _, rfl, Hfin.out, Hge.out, Hb03.out⟩

/-! Pairs. -/
abbrev PVQ (Lo : Nat) (Z : List Nat) (z p f q : Nat) (sl : Sl) (L : List Rw) (B : List Bd) (sl' : Sl) (L' : List Rw) (B' : List Bd) (w : World) : Prop := Sep Lo Z (RepV z p f sl L B) (RepQ q sl' L' B') w
section
variable {Lo : Nat} {Z : List Nat} {z p f q : Nat} {sl sl' sl2 : Sl} {L L' L2 : List Rw} {B B' B2 : List Bd} {w : World}
theorem PVQ.ok (h : PVQ Lo Z z p f q sl L B sl' L' B' w) (hc : ∀ b ∈ B, b.1 ∈ allS sl) : ZOk sl L B := by
  obtain ⟨F, G, h⟩ := h
  exact ⟨h.a.okW, h.a.okF, hc⟩
theorem pvq_below {w' : World} (h : PVQ Lo Z z p f q sl L B sl' L' B' w) (hb : Below w.heap.size w w') : PVQ Lo Z z p f q sl L B sl' L' B' w' ∧ Below Lo w w' ∧ KeepZ Z w w' := Sep.below (own_V _ _ _ _ _ _) (own_Q _ _ _ _) h hb
theorem pvq_start {w w1 w2 : World} {F : List Nat} (h : RepV z p f [] [] [] w1 F) (hF : ∀ y ∈ F, w.heap.size ≤ y) (hb : Below w.heap.size w w1) (h2 : w1.alloc (.cells #[.slice none 0 0, .slice none 0 0, .slice none 0 0, .slice none 0 0] 47) = w2) :
    PVQ w.heap.size [] z p f w1.heap.size [] [] [] [] [] [] w2 ∧ Below w.heap.size w w2 := by
  have hlt := h.lt
  have hs := hb.size
  have hb2 : Below w1.heap.size w1 w2 := by rw [← h2]; exact (Below.refl _ _).alloc (Nat.le_refl _) _
  have hq : w2.heap[w1.heap.size]? = some (.cells #[.slice none 0 0, .slice none 0 0, .slice none 0 0, .slice none 0 0] 47 (0, 0)) := by rw [← h2]; exact heap_alloc_new w1 _
  have hr : ∀ E k, w2.ownsRow 0 E k (.slice none 0 0) 0 [] := fun E k => ⟨(Nat.zero_mul k).symm, .inl ⟨rfl, rfl⟩⟩
  refine ⟨⟨F, [w1.heap.size], ⟨h.below hb2, ⟨.slice none 0 0, [w1.heap.size], ⟨.slice none 0 0, [w1.heap.size], ⟨.slice none 0 0, .slice none 0 0, hq, hr _ _, hr _ _, rfl, by simp⟩, hr _ _, by simp [Value.ownBlock], by simp⟩, hr _ _, by simp [Value.ownBlock], by simp [Value.ownBlock]⟩, fun y hy e => ?_, fun y hy => ⟨hF y hy, by simp⟩, fun y hy => ?_, by have := hb2.size; omega, by simp⟩⟩, hb.trans (hb2.mono hs)⟩
  · have := hlt y hy; simp at e; omega
  · simp at hy; subst hy; exact ⟨hs, by simp⟩
variable {d K a0 a1 a2 a3 a4 a5 a6 a7 s g ts tg kd n r0 r1 e0 : Int}
theorem pv_do (h : PVQ Lo Z z p f q sl L B sl' L' B' w) (hD : DoAt sl L B d K a0 a1 a2 a3 a4 a5 a6 a7 s g ts tg kd n sl2 L2 B2 r0 r1 e0) :
    Calls Tryz.prog 14 #[.pointer (some ⟨z, 0, none⟩), .agg #[.int .i64 d, .int .i64 K, .int .i64 a0, .int .i64 a1, .int .i64 a2, .int .i64 a3, .int .i64 a4, .int .i64 a5, .int .i64 a6, .int .i64 a7, .int .i64 s, .int .i64 g, .int .i64 ts, .int .i64 tg, .int .i64 kd, .int .i64 n]] w (fun e w' => e = .returned (.tuple #[.agg #[.int .i64 r0, .int .i64 r1], .int .i64 e0]) ∧ PVQ Lo Z z p f q sl2 L2 B2 sl' L' B' w' ∧ Below Lo w w' ∧ KeepZ Z w w') :=
  Sep.callL (own_V _ _ _ _ _ _) (own_Q _ _ _ _) h fun _ hF => hD.v hF
theorem pq_do (h : PVQ Lo Z z p f q sl L B sl' L' B' w) (hD : DoAt sl' L' B' d K a0 a1 a2 a3 a4 a5 a6 a7 s g ts tg kd n sl2 L2 B2 r0 r1 e0) :
    Calls Tryz.prog 15 #[.pointer (some ⟨q, 0, none⟩), .agg #[.int .i64 d, .int .i64 K, .int .i64 a0, .int .i64 a1, .int .i64 a2, .int .i64 a3, .int .i64 a4, .int .i64 a5, .int .i64 a6, .int .i64 a7, .int .i64 s, .int .i64 g, .int .i64 ts, .int .i64 tg, .int .i64 kd, .int .i64 n]] w (fun e w' => e = .returned (.tuple #[.agg #[.int .i64 r0, .int .i64 r1], .int .i64 e0]) ∧ PVQ Lo Z z p f q sl L B sl2 L2 B2 w' ∧ Below Lo w w' ∧ KeepZ Z w w') :=
  Sep.callR (own_V _ _ _ _ _ _) (own_Q _ _ _ _) h fun _ hF => hD.q hF
theorem pv_state (h : PVQ Lo Z z p f q sl L B sl' L' B' w) (hO : ZOk sl L B) : Calls Tryz.prog 11 #[.pointer (some ⟨z, 0, none⟩)] w (StPost sl L B w) := by
  obtain ⟨F, G, h⟩ := h
  exact vstate_any h.a hO.len
theorem pq_state (h : PVQ Lo Z z p f q sl L B sl' L' B' w) (hO : ZOk sl' L' B') : Calls Tryz.prog 12 #[.pointer (some ⟨q, 0, none⟩)] w (StPost sl' L' B' w) := by
  obtain ⟨F, G, h⟩ := h
  exact qstate_any h.b hO
end
end Go.Proofs.YtehjfmjibiafdaaGreat
