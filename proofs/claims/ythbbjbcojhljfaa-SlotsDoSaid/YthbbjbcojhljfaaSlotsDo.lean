/- The law SlotsDo returns true for every input. -/
import Derived.Test.YthbbjbcojhljfaaRows
import Derived.Test.YthbbjbcojhljfaaClosed
import Derived.Test.YthbbjbcojhljfaaLaw
import Derived.Test.YthbbjbcojhljfaaOpen2
namespace Go.Proofs.Ythbbjbcojhljfaa
open Go.ChangeShapes Go.WideShapes Go.ChangeAt Go.RowKit

attribute [local go_sem] AllFrom.cons_eq AllFrom.nil_eq putF_nil putF_cons wantedL_none wantedL_some OpGoalT OpGoalS OpGoalP OpGoalV YieldsR preF_nil preF_cons

theorem eqHandle_rows (l : List (Int × Int)) (v v' : Value) (w : World) (hl : l.length ≤ 60) (h : rowV 0 59 2 l.length (l.flatMap handleC) v w) (h' : rowV 0 59 2 l.length (l.flatMap handleC) v' w) :
    Calls Try.prog 46 #[v, v'] w fun e w' => e = .returned (.bool true) ∧ Below w.heap.size w w' := by
  obtain ⟨A, c, rfl, hc, hA⟩ := own_lies h
  obtain ⟨A', c', rfl, hc', hA'⟩ := own_lies h'
  have := eqHandle_any A c A' c' l l w (by omega) (by omega) hA hA'
  rw [eqB_self] at this
  exact this
theorem eqInt_rows (l : List Int) (v v' : Value) (w : World) (hl : l.length ≤ 60) (h : rowV 0 3 1 l.length (ints l) v w) (h' : rowV 0 3 1 l.length (ints l) v' w) :
    Calls Try.prog 34 #[v, v'] w fun e w' => e = .returned (.bool true) ∧ Below w.heap.size w w' := by
  obtain ⟨A, c, rfl, hc, hA⟩ := own_lies h
  obtain ⟨A', c', rfl, hc', hA'⟩ := own_lies h'
  have := eqInt_any A c A' c' l l _ _ w (by omega) (by omega) hA hA'
  rw [eqB_self] at this
  exact this.mono fun e w' ⟨h1, h2⟩ => ⟨h1, by rw [← h2]; exact Below.refl _ _⟩

/-- What holds of both slots between two rounds. -/
structure Both (W w : World) (p q : Nat) (sl : Sl) (F G : List Nat) : Prop where
  s : RepS w p sl F
  r : RepRS w q sl G
  ok : SlOk sl
  apart : ∀ k ∈ F, k ∉ G
  lowF : ∀ k ∈ F, W.heap.size ≤ k
  lowG : ∀ k ∈ G, W.heap.size ≤ k
  below : Below W.heap.size W w
theorem Both.size {W w : World} {p q : Nat} {sl : Sl} {F G : List Nat} (h : Both W w p q sl F G) : W.heap.size ≤ w.heap.size := h.below.size
theorem Both.grow {W w w' : World} {p q : Nat} {sl : Sl} {F G : List Nat} (h : Both W w p q sl F G) (hb : Below w.heap.size w w') : Both W w' p q sl F G :=
  ⟨h.s.mod (Mod.ofBelow hb) (by simp), h.r.mod (Mod.ofBelow hb) (by simp), h.ok, h.apart, h.lowF, h.lowG, h.below.trans (hb.mono h.size)⟩

theorem Both.step {W wz w3 w3' w4 : World} {p q : Nat} {sl sl' : Sl} {F G F3 G4 : List Nat} (h : Both W wz p q sl F G) (hs : RepS w3 p sl' F3) (ht : Turns wz F F3 w3) (hg : Below w3.heap.size w3 w3') (hr : RepRS w4 q sl' G4) (ht2 : Turns w3' G G4 w4) (hok : SlOk sl') :
    Both W w4 p q sl' F3 G4 := by
  have hGl := h.r.lt
  have hFG : ∀ k ∈ F3, k ∉ G := by
    intro k hk hkG
    rcases ht.new k hk with h1 | h1
    · exact h.apart k h1 hkG
    · have := hGl k hkG; omega
  have hs3 := hs.lt
  have hsz := h.size
  have hsz2 := ht.mod.size
  have hsz3 := hg.size
  refine ⟨(hs.mod (Mod.ofBelow hg) (by simp)).mod ht2.mod hFG, hr, hok, ?_, ?_, ?_, ?_⟩
  · intro k hk hkG
    rcases ht2.new k hkG with h1 | h1
    · exact hFG k hk h1
    · have := hs3 k hk; omega
  · intro k hk
    rcases ht.new k hk with h1 | h1
    · exact h.lowF k h1
    · omega
  · intro k hk
    rcases ht2.new k hk with h1 | h1
    · exact h.lowG k h1
    · omega
  · exact ((h.below.trans (ht.mod.toBelow h.lowF hsz)).trans (hg.mono (by omega))).trans (ht2.mod.toBelow h.lowG (by omega))
theorem Both.refR {W wz w3 w3' : World} {p q : Nat} {sl : Sl} {F G F3 : List Nat} (h : Both W wz p q sl F G) (ht : Turns wz F F3 w3) (hg : Below w3.heap.size w3 w3') : RepRS w3' q sl G :=
  (h.r.mod ht.mod (fun k hk hF => h.apart k hF hk)).mod (Mod.ofBelow hg) (by simp)

set_option maxHeartbeats 4000000 in
theorem slotsDo_any (A : Option Addr) (c : Nat) (l : List (Int × Int)) (A' : Option Addr) (c' : Nat) (ts : List Bool) (W : World) (hl : l.length ≤ 9223372036854775807) (hl' : ts.length ≤ 9223372036854775807)
    (hA : Lies W W.heap.size A (l.flatMap handleC)) (hA' : Lies W W.heap.size A' (bools ts)) :
    Calls Try.prog 10 #[.slice A l.length c, .slice A' ts.length c'] W fun e W' => e = .returned (.bool true) ∧ Below W.heap.size W W' := by
  have HA := Lib.hid hA; have HA' := Lib.hid hA'
  clear hA hA'
  go_enter Try.func10, Try.ntmps10
  go_wp2_with fail
  refine (slotsNew_any _).mono ?_
  rintro e w1 ⟨p, rfl, hb1, hs1, hp1⟩
  have hpl := hs1.lt p (by simp)
  have HS1 := Lib.hid hs1; have HB1 := Lib.hid hb1
  have hsz1 := hb1.size
  clear hs1 hb1
  go_wp2
  have hB : ∃ w2, w2 = w1.alloc (.cells #[.slice none 0 0, .slice none 0 0] 57) ∧ Both W w2 p w1.heap.size [] [p] [w1.heap.size] := by
    refine ⟨_, rfl, HS1.out.mod ((Mod.refl [] _).alloc _) (by simp), ⟨.slice none 0 0, .slice none 0 0, heap_alloc_new w1 _, ⟨rfl, .inl ⟨rfl, rfl⟩⟩, ⟨rfl, .inl ⟨rfl, rfl⟩⟩, rfl, by simp⟩, slOk_nil, ?_, ?_, ?_, HB1.out.alloc hsz1 _⟩
    · intro k hk; simp at hk ⊢; omega
    · intro k hk; simp at hk; omega
    · intro k hk; simp at hk; omega
  obtain ⟨w2, hw2, hB2⟩ := hB
  rw [← hw2]
  have hq : w1.heap.size < w2.heap.size := by rw [hw2]; simp
  generalize w1.heap.size = q at *
  have HB2 := Lib.hid hB2
  clear hw2 hB2 HS1 HB1 hpl hsz1 hp1
  go_loopw [20] (fun i wr => ∃ (k : Nat) (sl : Sl) (F G : List Nat), k ≤ l.length ∧ i = .int .i64 k ∧ Both W wr p q sl F G) (fun i _ => l.length - (intOf i).toNat)
  case atStart => exact ⟨0, [], _, _, by omega, rfl, HB2.out⟩
  case round =>
    obtain ⟨k, sl, F, G, hk, rfl, hB⟩ := hrel
    have HB := Lib.hid hB
    have hsz := hB.size
    clear HB2 hB
    by_cases hlt : k < l.length
    · obtain ⟨ab, ao, rfl, hal, hcell⟩ := HA.out.rec_at handleC_len (by omega) hlt
      have c0 := (HB.out.below.cell (p := ⟨ab, ao + k * 2, none⟩) hal).trans (hcell 0 _ rfl)
      have c1 := (HB.out.below.cell (p := ⟨ab, ao + k * 2 + 1, none⟩) hal).trans (hcell 1 _ rfl)
      have hal2 : ab < wr.heap.size := by omega
      clear hcell
      generalize l[k] = x at *
      obtain ⟨s, g⟩ := x
      simp only at c0 c1
      obtain ⟨wz, hwz⟩ : ∃ wz, wz = wr.alloc (.cells #[.int .i64 s, .int .i64 g] 59) := ⟨_, rfl⟩
      have hz : wz.heap[wr.heap.size]? = some (.cells #[.int .i64 s, .int .i64 g] 59 (0, 0)) := by rw [hwz]; exact heap_alloc_new wr _
      have hBz : Both W wz p q sl F G := by rw [hwz]; exact HB.out.grow ((Below.refl _ _).alloc (Nat.le_refl _) _)
      have hzF : wr.heap.size ∉ F ∧ wr.heap.size ∉ G := ⟨fun h => by have := HB.out.s.lt _ h; omega, fun h => by have := HB.out.r.lt _ h; omega⟩
      have HZ := Lib.hid hz; have HBZ := Lib.hid hBz; have HZF := Lib.hid hzF
      clear hz hBz hzF
      -- is one taken?
      have ht : (k < ts.length ∧ ts[k]? = some true) ∨ ((k < ts.length ∧ ts[k]? = some false) ∨ ts.length ≤ k) := by
        rcases Nat.lt_or_ge k ts.length with h | h
        · rw [List.getElem?_eq_getElem h]
          cases ts[k] <;> simp [h]
        · exact .inr (.inr h)
      rcases ht with ⟨hkt, hv⟩ | hno
      case' inl =>
        obtain ⟨tb, to, he, htb, ct⟩ := HA'.out.bool hkt
        cases he
        rw [List.getElem?_eq_getElem hkt, Option.some.injEq] at hv
        rw [hv] at ct
        have ct' := (HB.out.below.cell (p := ⟨tb, to + k, none⟩) htb).trans ct
        have htb2 : tb < wr.heap.size := by omega
        have hin : (k : Int) < (ts.length : Int) := by omega
        clear ct hv htb
        go_wp2_with fail
        rw [← hwz]
        clear hwz
        refine (take_any p sl F wz HBZ.out.s HBZ.out.ok).mono ?_
        rintro e w3 ⟨rfl, F3, hs3, ht3⟩
        have hz3 := ht3.mod.keep HZ.out HZF.out.1
        have HS3 := Lib.hid hs3; have HT3 := Lib.hid ht3; have HZ3 := Lib.hid hz3
        clear hs3 ht3 hz3 c0 c1 ct' htb2 hal2 hal
        go_wp2_with fail
        refine (rtake_any q sl G _ (HBZ.out.refR HT3.out ((Below.refl _ _).alloc (Nat.le_refl _) _)) HBZ.out.ok).mono ?_
        rintro e w4 ⟨rfl, G4, hr4, ht4⟩
        have hB4 := HBZ.out.step HS3.out HT3.out ((Below.refl _ _).alloc (Nat.le_refl _) _) hr4 ht4 HBZ.out.ok.take
        have hk3 : w4.heap[w3.heap.size]? = some (.cells #[.int .i64 (takeK sl), .int .i64 (takeG sl)] 59 (0, 0)) :=
          ht4.mod.keep (heap_alloc_new w3 _) (fun h => by have := (HBZ.out.refR HT3.out (Below.refl _ _)).lt _ h; omega)
        have hz4 := ht4.mod.keep (blk_alloc HZ3.out _) HZF.out.2
        have a0 := blk_cell hk3 0
        have a1 := blk_cell hk3 1
        have hl3 := blk_lt hk3
        simp only [List.getElem?_toArray, List.getElem?_cons_zero, List.getElem?_cons_succ] at a0 a1
        have hcmp : ∀ w, (binOp .neq 59 (.agg #[.int .i64 (takeK sl), .int .i64 (takeG sl)]) (.agg #[.int .i64 (takeK sl), .int .i64 (takeG sl)])).run Try.prog w = .ok (.bool false) w := fun w => by rw [neqHandle, eqB_self]; rfl
        obtain ⟨w5, hw5⟩ : ∃ w5, w5 = w4.alloc (.cells #[.int .i64 (takeK sl), .int .i64 (takeG sl)] 59) := ⟨_, rfl⟩
        have hB5 : Both W w5 p q (takeL sl) F3 G4 := by rw [hw5]; exact hB4.grow ((Below.refl _ _).alloc (Nat.le_refl _) _)
        have hz5 : w5.heap[wr.heap.size]? = some (.cells #[.int .i64 s, .int .i64 g] 59 (0, 0)) := by rw [hw5]; exact blk_alloc hz4 _
        have HB5 := Lib.hid hB5; have HZ5 := Lib.hid hz5
        clear hB4 hr4 ht4 hk3 hz4 hB5 hz5 hsz
        generalize takeL sl = sl5 at *
        generalize takeK sl = tk at *
        generalize takeG sl = tg at *
        generalize takeE sl = te at *
        go_wp2
        rw [← hw5]
        clear a0 a1 hl3 hcmp hw5
        generalize F3 = F5 at *
        generalize G4 = G5 at *
        clear hkt hin HZ3 HS3 HT3 HBZ HZ HZF
      case' inr =>
        rcases hno with ⟨hkt, hv⟩ | hge
        case' inl =>
          obtain ⟨tb, to, he, htb, ct⟩ := HA'.out.bool hkt
          cases he
          rw [List.getElem?_eq_getElem hkt, Option.some.injEq] at hv
          rw [hv] at ct
          have ct' := (HB.out.below.cell (p := ⟨tb, to + k, none⟩) htb).trans ct
          have htb2 : tb < wr.heap.size := by omega
          have hin : (k : Int) < (ts.length : Int) := by omega
          clear ct hv htb
          go_wp2
          clear ct' htb2 hin hkt
        case' inr =>
          have hin : (ts.length : Int) ≤ (k : Int) := by omega
          have hin2 : decide (k < ts.length) = false := by simp; omega
          clear hge
          go_wp2
          clear hin hin2
        all_goals
          rw [← hwz]
          clear c0 c1 hal2 hal hwz
          refine wp_planF 5 [0, 3] [some 53, some 54, some 55, some 56, some 57, some 58, some 59] [[], [], [0, 1], [], [], [0, 1, 2, 3, 4], [0, 1, 2, 3, 4, 5]] [0, 1, 2, 3, 4] 5 (fun vs => [isV (vs.getD 0 undef), isV (vs.getD 1 undef), (isV (.int .i64 (freeE sl s g))), isV (vs.getD 3 undef), isV (vs.getD 4 undef)])
            (fun L _ V => Mod F wz V ∧ (L 2 = false → RepS V p sl F) ∧ (L 2 = true → RepS V p (freeL sl s g) F)) mixed rfl (by kernel_rfl) (by decide) (by decide)
            ⟨(Mod.refl _ _).drew, fun _ => HBZ.out.s.mod (Mod.refl [] _).drew (by simp), fun h => absurd h (by decide)⟩ rfl ?_
          iterate 5 apply Exists.intro
          refine ⟨?_, ?_⟩
          · simp only [List.take_succ_cons, List.take_zero, AllFrom.cons_eq, AllFrom.nil_eq, OpGoalV]
            refine ⟨?_, ?_, ?_, ?_, ?_, trivial⟩
            all_goals (intro L' σ V h1 h2 h3 hI hp; clear h2 h3; (try simp only [List.getD_cons_zero, List.getD_cons_succ, preF_cons, preF_nil, isV, and_true] at hp); (first | (have hq : True := hp; clear hq hp) | skip))
            all_goals (
              have hzk := hI.1.keep HZ.out HZF.out.1
              have q0 := blk_cell hzk 0
              have q1 := blk_cell hzk 1
              simp only [List.getElem?_toArray, List.getElem?_cons_zero, List.getElem?_cons_succ] at q0 q1
              have HI := Lib.hid hI
              have Hh1 := Lib.hid h1
              clear hzk hI h1)
            all_goals (try (go_simp; exact ⟨rfl, ⟨HI.out.1, fun h => HI.out.2.1 (upd_false h), fun h => HI.out.2.2 (upd_true h (by omega))⟩, KeepAll.refl⟩))
            · go_simp
              refine (free_any p sl F s g V (HI.out.2.1 Hh1.out) HBZ.out.ok).mono ?_
              rintro e w3 ⟨rfl, hs3, hm3⟩
              exact ⟨_, rfl, ⟨rfl, ⟨HI.out.1.step hm3, fun h => absurd h (by simp [upd]), fun _ => hs3⟩, keep_isV (keep_isV (keep_isV (keep_isV (keep_isV keep_nil))))⟩⟩
          intro L' σ V h1 hI hp
          have hL := h1 2 (by decide)
          clear h1
          simp only [List.getD_cons_zero, List.getD_cons_succ, preF_cons, preF_nil, isV, and_true] at hp
          have s0 := hp.1
          have s1 := hp.2.1
          have s2 := hp.2.2.1
          have s3 := hp.2.2.2.1
          have s4 := hp.2.2.2.2
          clear hp
          have ht3 : Turns wz F F V := ⟨hI.1, fun k hk => .inl hk⟩
          have hs3 := hI.2.2 hL
          have hz3 := hI.1.keep HZ.out HZF.out.1
          have HS3 := Lib.hid hs3; have HT3 := Lib.hid ht3; have HZ3 := Lib.hid hz3
          clear hI hs3 ht3 hz3 hL
          simp only [List.drop_succ_cons, List.drop_zero]
          go_simp
          clear s0 s1 s2 s3 s4
          go_wp2_with fail
          refine (rfree_any q sl G s g V (HBZ.out.refR HT3.out (Below.refl _ _)) HBZ.out.ok).mono ?_
          rintro e w5 ⟨rfl, hr4, hm4⟩
          have hB5 := HBZ.out.step HS3.out HT3.out (Below.refl _ _) hr4 ⟨hm4, fun k hk => .inl hk⟩ (HBZ.out.ok.free s g)
          have hz5 := hm4.keep HZ3.out HZF.out.2
          have HB5 := Lib.hid hB5; have HZ5 := Lib.hid hz5
          clear hr4 hm4 hB5 hz5
          generalize freeL sl s g = sl5 at *
          generalize freeE sl s g = te at *
          go_wp2
          refine ⟨rfl, ?_⟩
          go_wp2
          clear HZ3 HS3 HT3
      all_goals (first | exact undef | skip)
      all_goals
        have hlen5 := allS_len sl5
        have hok5 := HB5.out.ok.1
        obtain ⟨vg, vl, hq5, hg5, -, -, -⟩ := HB5.out.r
        rw [← gensS_len] at hg5
        have HQ5 := Lib.hid hq5; have HG5 := Lib.hid hg5
        clear hq5 hg5
        refine wp_planE [some 60, some 61, some 62, some 63, some 64, some 65, some 66, some 67, some 68, some 69, some 70, some 71, some 72, some 73, some 74, some 75, some 76, some 77, some 78, some 79, some 80, some 81, some 82, some 83, some 84] [[], [0], [], [0, 1, 2], [0, 1, 2, 3], [0, 1, 2, 3, 4], [0, 1, 2, 3, 4, 5], [0, 1, 2, 3, 4, 5, 6], [0, 1, 2, 3, 4, 5, 6, 7], [0, 1, 2, 3, 4, 5, 6], [0, 1, 2, 3, 4, 5, 6, 9], [0, 1, 2, 3, 4, 5, 6, 9, 10], [0, 1, 2, 3, 4, 5, 6, 9, 10, 11], [0, 1, 2, 3, 4, 5, 6, 7, 8, 9, 10, 11, 12], [0, 1, 2, 3, 4, 5, 6, 7, 8, 9, 10, 11, 12, 13], [0, 1, 2, 3, 4, 5, 6, 7, 8, 9, 10, 11, 12, 13, 14], [0, 1, 2, 3, 4, 5, 6, 7, 8, 9, 10, 11, 12, 13, 14, 15], [0, 1, 2, 3, 4, 5, 6, 7, 8, 9, 10, 11, 12, 13, 14, 15, 16], [0, 1, 2, 3, 4, 5, 6, 7, 8, 9, 10, 11, 12, 13, 14, 15, 16], [0, 1, 2, 3, 4, 5, 6, 7, 8, 9, 10, 11, 12, 13, 14, 15, 16, 17, 18], [0, 1, 2, 3, 4, 5, 6, 7, 8, 9, 10, 11, 12, 13, 14, 15, 16], [0, 1, 2, 3, 4, 5, 6, 7, 8, 9, 10, 11, 12, 13, 14, 15, 16], [0, 1, 2, 3, 4, 5, 6, 7, 8, 9, 10, 11, 12, 13, 14, 15, 16, 17, 18, 19, 20, 21], [0, 1, 2, 3, 4, 5, 6, 7, 8, 9, 10, 11, 12, 13, 14, 15, 16, 17, 18, 19, 20, 21, 22], [0, 1, 2, 3, 4, 5, 6, 7, 8, 9, 10, 11, 12, 13, 14, 15, 16, 17, 18, 19, 20, 21, 22, 23]] [0, 1, 2, 3, 4, 5, 6, 7, 8, 9, 10, 11, 12, 13, 14, 15, 16, 17, 18, 19, 20, 21, 22, 23, 24] 25 (fun vs => [isV (vs.getD 0 undef), (rowV 0 59 2 (allS sl5).length ((allS sl5).flatMap handleC)), isV (vs.getD 2 undef), (rowV 0 59 2 (allS sl5).length ((allS sl5).flatMap handleC)), (isV (.bool true)), isV (vs.getD 5 undef), isV (vs.getD 6 undef), isV (vs.getD 7 undef), (rowV 0 3 1 (gensS sl5).length (ints (gensS sl5))), isV (vs.getD 9 undef), isV (vs.getD 10 undef), isV (vs.getD 11 undef), (rowV 0 3 1 (gensS sl5).length (ints (gensS sl5))), (isV (.bool true)), isV (vs.getD 14 undef), isV (vs.getD 15 undef), isV (vs.getD 16 undef), isV (vs.getD 17 undef), isV (vs.getD 18 undef), (isV (.bool (liveB sl5 s g))), isV (vs.getD 20 undef), isV (vs.getD 21 undef), (isV (.bool (liveB sl5 s g))), isV (vs.getD 23 undef), isV (vs.getD 24 undef)])
          Grow (fun _ V => Below w5.heap.size w5 V) mixed rfl (by kernel_rfl) (Below.refl _ _).drew rfl ?_
        iterate 25 apply Exists.intro
        refine ⟨?_, ?_, by repeat (first | exact allStab_nil | refine allStab_isV ?_ | refine allStab_rowV ?_)⟩
        · simp only [AllFrom.cons_eq, AllFrom.nil_eq, OpGoalT]
          refine ⟨?_, ?_, ?_, ?_, ?_, ?_, ?_, ?_, ?_, ?_, ?_, ?_, ?_, ?_, ?_, ?_, ?_, ?_, ?_, ?_, ?_, ?_, ?_, ?_, ?_, trivial⟩
          all_goals (intro L' σ V h1 h2 h3 hI hp; clear h1 h2 h3; (try simp only [List.getD_cons_zero, List.getD_cons_succ, preF_cons, preF_nil, isV, and_true] at hp); (first | (have hq : True := hp; clear hq hp) | skip))
          all_goals (
            have HI := Lib.hid hI
            have hzk := (Mod.ofBelow hI).keep HZ5.out (by simp)
            have hqk := (Mod.ofBelow hI).keep HQ5.out (by simp)
            have q0 := blk_cell hzk 0
            have q1 := blk_cell hzk 1
            have q2 := blk_cell hqk 0
            simp only [List.getElem?_toArray, List.getElem?_cons_zero, List.getElem?_cons_succ] at q0 q1 q2
            clear hI hzk hqk)
          all_goals (try (go_simp; exact ⟨rfl, HI.out, Grow.refl _⟩))
          · go_simp
            refine (all_any p sl5 _ V (HB5.out.grow HI.out).s hok5).mono ?_
            rintro e w6 ⟨v, rfl, hown, hb⟩
            exact ⟨_, rfl, row_base hown (by simp), HI.out.trans (hb.mono HI.out.size), hb⟩
          · go_simp
            refine (rall_any q sl5 _ V (HB5.out.grow HI.out).r hok5).mono ?_
            rintro e w6 ⟨v, rfl, hown, hb⟩
            exact ⟨_, rfl, row_base hown (by simp), HI.out.trans (hb.mono HI.out.size), hb⟩
          · have r1 := hp.2.1
            have r2 := hp.2.2.2
            go_simp
            refine (eqHandle_rows (allS sl5) _ _ V (by omega) r1 r2).mono ?_
            rintro e w6 ⟨rfl, hb⟩
            exact ⟨_, rfl, rfl, HI.out.trans (hb.mono HI.out.size), hb⟩
          · go_simp
            refine (gens_any p sl5 _ V (HB5.out.grow HI.out).s hok5).mono ?_
            rintro e w6 ⟨v, rfl, hown, hb⟩
            exact ⟨_, rfl, row_base hown (by simp), HI.out.trans (hb.mono HI.out.size), hb⟩
          · go_simp
            exact ⟨row_mod HG5.out (Mod.ofBelow HI.out) (by simp), HI.out, Grow.refl _⟩
          · have r1 := hp.2.2.2.2.2.2.2.2.1
            have r2 := hp.2.2.2.2.2.2.2.2.2.2.2.2
            go_simp
            refine (eqInt_rows (gensS sl5) _ _ V (by rw [gensS_len]; omega) r1 r2).mono ?_
            rintro e w6 ⟨rfl, hb⟩
            exact ⟨_, rfl, rfl, HI.out.trans (hb.mono HI.out.size), hb⟩
          · go_simp
            refine (live_any p sl5 _ s g V (HB5.out.grow HI.out).s).mono ?_
            rintro e w6 ⟨rfl, hb⟩
            exact ⟨_, rfl, rfl, HI.out.trans (hb.mono HI.out.size), hb⟩
          · go_simp
            refine (is_any q sl5 _ s g V (HB5.out.grow HI.out).r hok5).mono ?_
            rintro e w6 ⟨rfl, hb⟩
            exact ⟨_, rfl, rfl, HI.out.trans (hb.mono HI.out.size), hb⟩
        intro L' σ V h1 hI hp
        clear h1
        simp only [List.getD_cons_zero, List.getD_cons_succ, preF_cons, preF_nil, isV, and_true] at hp
        have HI := Lib.hid hI
        clear hI
        go_simp
        clear hp
        go_wp2
        go_roundw
        case rel => exact ⟨k + 1, sl5, _, _, by omega, by go_num, HB5.out.grow HI.out⟩
        case measure => simp [intOf]; omega
        all_goals exact undef
    · obtain rfl : k = l.length := by omega
      have hE : freeE sl (-1) 0 = 7 := by unfold freeE; rw [liveB_neg (by omega)]; rfl
      have hfree := free_any p sl F (-1) 0 wr HB.out.s HB.out.ok
      rw [hE] at hfree
      have HFr := Lib.hid hfree
      clear hfree hE
      go_wp2_with (go_at_call 44; refine HFr.out.mono ?_; rintro e w6 ⟨rfl, -, hm⟩)
      go_ret
      exact ⟨rfl, HB.out.below.trans (hm.toBelow HB.out.lowF hsz)⟩

set_option maxRecDepth 100000 in
theorem slotsDo_law {H : Type} {enc : TypeId × Value → H} (W : World) (base : Nat) (args : Array Value) (ds : List (DataW H)) (ps : List MemPlace)
    (hval : ∀ (j : Nat) t v, Try.f10.params[j]? = some t → args[j]? = some v → Value.okWide Try.prog W .any base t v)
    (hA : DataW.TrodAll enc Try.prog W 0 (fun _ => true) true Try.f10.params.toList args.toList ds ps) (hlt : ∀ p ∈ ps, p.block < W.heap.size) :
    Calls Try.prog 10 args W fun e W' => e = .returned (.bool true) ∧ Below W.heap.size W W' := by
  rw [Try.params10] at hA hval
  obtain ⟨v0, v1, d0, d1, p0, p1, rfl, rfl, rfl, h0, h1⟩ := trodAll_two hA
  obtain ⟨A, n, c, zs, rfl, hn, hc, hl, -, hL⟩ := open_slice_flat Try.underlying51 intCells_Handle (k := 2) (by kernel_rfl) (by decide) (hval 0 51 v0 rfl rfl) h0 (fun p hp => hlt p (by simp [hp]))
  obtain ⟨l, rfl, rfl⟩ := unflat handleI 2 handleI_mk n zs hl
  obtain ⟨A', n', c', ts, rfl, hn', hc', rfl, hL'⟩ := open_slice_bools Try.underlying52 Try.underlying4 (by kernel_rfl) (hval 1 52 v1 rfl rfl) h1 (fun p hp => hlt p (by simp [hp]))
  rw [ints_flatMap] at hL
  exact slotsDo_any A c l A' c' ts W (by omega) (by omega) hL hL'

set_option maxRecDepth 100000 in
theorem slotsDo_lifted (os : Os) (started : os.Started) (H : Type) (enc : TypeId × Value → H) :
    ReturnsInHanded {} Try.checked os 10 .any (Rows.slotsDoSpec.pre6 enc Try.prog Try.f10 Rows.slotsDoRow.domain false) (Rows.slotsDoSpec.post enc Try.prog Try.f10 false true false false) := by
  refine law_lifted (C := Try.checked) (tb := 4) started own_ laid_ (by kernel_rfl) Try.func10 ?_ rfl rfl (by kernel_rfl) (fun ds h => ?_)
    (ChangeSpec.witness6 (enc := enc) (C := Try.checked) false ⟨#[], #[.slice none 0 0, .slice none 0 0], []⟩ 8 (by kernel_rfl) (by kernel_rfl) (by kernel_rfl) (by kernel_rfl)) ?_
  · intro t ht
    have : t = 51 ∨ t = 52 := by simpa [Try.params10] using ht
    rcases this with rfl | rfl
    all_goals exact ⟨by kernel_rfl, of_decide_eq_true (by kernel_rfl)⟩
  · match ds, h with
    | [d0, d1], _ => rfl
  · intro W base args ds ps hval hA hlt
    exact slotsDo_law W base args ds ps hval hA hlt

set_option maxHeartbeats 4000000 in
theorem slotsDo_closed : joinedFacts Try.prog 10 Try.f10 Rows.slotsDoSpec Rows.slotsDoRow = true := by
  unfold joinedFacts
  repeat' (with_reducible refine and_intro ?_ ?_)
  · as_aux_lemma => kernel_rfl
  · exact laid_
  · exact mapsRowed_
  · as_aux_lemma => kernel_rfl
  · as_aux_lemma => kernel_rfl
  · as_aux_lemma => kernel_rfl
  · exact stops_
  · as_aux_lemma => kernel_rfl
  · exact stopKnobs_
  · as_aux_lemma => kernel_rfl
  · as_aux_lemma => kernel_rfl
  · as_aux_lemma => kernel_rfl
  · as_aux_lemma => kernel_rfl
  · as_aux_lemma => kernel_rfl
  · as_aux_lemma => kernel_rfl
  · as_aux_lemma => kernel_rfl
  · as_aux_lemma => kernel_rfl
  · as_aux_lemma => kernel_rfl
  · as_aux_lemma => kernel_rfl
  · as_aux_lemma => kernel_rfl
  · as_aux_lemma => kernel_rfl
  · as_aux_lemma => kernel_rfl
  · exact plainKeys_
  · as_aux_lemma => kernel_rfl
  · exact stopsHeard_
  · exact mayEnter_
  · exact liftsFinal_
  · exact make_
  · as_aux_lemma => kernel_rfl
  · as_aux_lemma => kernel_rfl
  · as_aux_lemma => kernel_rfl
  · as_aux_lemma => kernel_rfl

theorem slotsDo_holds : Rows.SlotsDoSaid :=
  OpenClaim.holds_of_wide 10 Try.f10 rfl rfl rfl rfl rfl rfl rfl ⟨rfl, rfl, rfl, rfl, rfl⟩ rfl rfl rfl rfl rfl (by as_aux_lemma => kernel_rfl) Try.func10 slotsDo_closed
    (of_decide_eq_true (by as_aux_lemma => kernel_rfl)) (by unfold Func.isWrapper; first | (rw [if_pos (by decide +kernel)]; kernel_rfl) | (rw [if_neg (by decide +kernel)]; exact ⟨rfl, rfl⟩))
    (fun os started H enc _ => slotsDo_lifted os started H enc)
#print axioms slotsDo_holds
end Go.Proofs.Ythbbjbcojhljfaa
