import Derived.Test.YtfbcdblgfhekpaaDiffBetweensJ24
import Derived.Test.YtfbcdblgfhekpaaDiffBetweensJ25
import Derived.Test.YtfbcdblgfhekpaaDiffBetweensJ26
import Derived.Test.YtfbcdblgfhekpaaDiffBetweensJ27
/- R.Between. (printed by mk_df8.py) DRAFT -/
namespace Go.Proofs.Ytfbcdblgfhekpaa
open Go Go.RowKit Go.Maps Go.Shelf
attribute [local go_sem] AllFrom.cons_eq AllFrom.nil_eq putF_nil putF_cons wantedL_none wantedL_some OpGoalT OpGoalV OpGoalQ OpGoalA OpGoalK YieldsR preF_nil preF_cons

theorem head_at {w : World} {B : Nat} {A : Option Addr} {x : Rw} {l : List Rw} (h : Lies w B A ((x :: l).flatMap rwC)) : ∃ ab ao, A = some ⟨ab, ao, none⟩ ∧ ab < B ∧ ∀ j u, (rwC x)[j]? = some u → w.cell? ((⟨ab, ao, none⟩ : Addr).add j) = some u := by
  obtain ⟨ab, ao, e, hb, hc⟩ := h.rec_at rwC_len (by omega) (k := 0) (by simp)
  refine ⟨ab, ao, e, hb, fun j u hu => ?_⟩
  have h1 := hc j u (by simpa using hu)
  rw [Addr.add_mid]
  first | (simpa using h1) | (rw [Addr.add_mid] at h1; simpa using h1)
/-- The head of a row of rows, in every later world. -/
structure HeadAt (w : World) (ab ao : Nat) (x : Rw) : Prop where
  s : w.cell? ⟨ab, ao, none⟩ = some (.int .i64 x.1.1)
  g : w.cell? ⟨ab, ao + 1, none⟩ = some (.int .i64 x.1.2)
  lt : ab < w.heap.size
  bt : ∀ j u, (btC x.2)[j]? = some u → w.cell? ((⟨ab, ao + 2, none⟩ : Addr).add j) = some u
theorem headAt_of {w V : World} {ab ao : Nat} {x : Rw} (hc : ∀ j u, (rwC x)[j]? = some u → w.cell? ((⟨ab, ao, none⟩ : Addr).add j) = some u) (hb : ab < w.heap.size) (hV : Below w.heap.size w V) : HeadAt V ab ao x := by
  have h1 : ∀ j u, (rwC x)[j]? = some u → V.cell? ⟨ab, ao + j, none⟩ = some u := fun j u hu => by
    have := hc j u hu
    rw [Addr.add_mid] at this
    exact (hV.cell (p := ⟨ab, ao + j, none⟩) hb).trans this
  refine ⟨h1 0 _ rfl, h1 1 _ rfl, Nat.lt_of_lt_of_le hb hV.size, fun j u hu => ?_⟩
  rw [Addr.add_mid, Nat.add_assoc]
  refine h1 (2 + j) u ?_
  have e : rwC x = handleC x.1 ++ btC x.2 := by obtain ⟨⟨s, g⟩, b⟩ := x; unfold rwC rwI btC; rw [handleC_ints]; simp [ints]
  rw [e, List.getElem?_append_right (by rw [handleC_len]; omega), handleC_len, Nat.add_sub_cancel_left]
  exact hu

def lenV : Value → Nat
  | .slice _ n _ => n
  | _ => 0
def RBtwPost (la lb : List Rw) (w : World) (e : Ending) (w' : World) : Prop :=
  Below w.heap.size w w' ∧ if mayB la = true ∧ mayB lb = true then ∃ (v : Value), e = .returned (.tuple #[v, .int .i64 0]) ∧ ownC w' w.heap.size v (mrgB (la.length + lb.length) la lb)
    else e = .returned (.tuple #[.slice none 0 0, .int .i64 4])

set_option maxRecDepth 20000 in
set_option maxHeartbeats 4000000 in
theorem rbetween_any {w : World} (A : Option Addr) (c : Nat) (la : List Rw) (A' : Option Addr) (c' : Nat) (lb : List Rw) (hla : la.length ≤ 9223372036854775807) (hlb : lb.length ≤ 9223372036854775807) (hca : la.length ≤ c) (hcb : lb.length ≤ c') (hA : Lies w w.heap.size A (la.flatMap rwC)) (hB : Lies w w.heap.size A' (lb.flatMap rwC)) :
    Calls Try.prog 6 #[.slice A la.length c, .slice A' lb.length c'] w (RBtwPost la lb w) := by
  have HLa := Lib.hid hla; have HLb := Lib.hid hlb; have HA := Lib.hid hA; have HB := Lib.hid hB; have HCa := Lib.hid hca; have HCb := Lib.hid hcb
  clear hla hlb hA hB hca hcb
  go_enter Try.func6, Try.ntmps6
  go_wp2_with fail
  refine (rmay_any A c la _ HLa.out HA.out).mono ?_
  rintro e w1 ⟨rfl, hb1⟩
  cases hma : mayB la with
  | false =>
    have Hfin := Lib.hid (show RBtwPost la lb w (.returned (.tuple #[.slice none 0 0, .int .i64 4])) w1 from ⟨hb1, by rw [if_neg (by rw [hma]; simp)]⟩)
    clear hb1
    go_wp2_with fail
    refine bodyPost_ret (v := .tuple #[.slice none 0 0, .int .i64 4]) (by unfold results; try go_simp) rfl Hfin.out
  | true =>
    have Hma := Lib.hid hma; have Hb1 := Lib.hid hb1
    clear hma hb1
    go_wp2_with fail
    refine (rmay_any A' c' lb _ HLb.out ((HB.out.below Hb1.out).mono Hb1.out.size)).mono ?_
    rintro e w2 ⟨rfl, hb2⟩
    have hb02 := Hb1.out.trans (hb2.mono Hb1.out.size)
    cases hmb : mayB lb with
    | false =>
      have Hfin := Lib.hid (show RBtwPost la lb w (.returned (.tuple #[.slice none 0 0, .int .i64 4])) w2 from ⟨hb02, by rw [if_neg (by rw [hmb]; simp)]⟩)
      clear hb2 hb02
      go_wp2_with fail
      refine bodyPost_ret (v := .tuple #[.slice none 0 0, .int .i64 4]) (by unfold results; try go_simp) rfl Hfin.out
    | true =>
      have Hmb := Lib.hid hmb; have HB02 := Lib.hid hb02
      have hl60a := (mayB_ok Hma.out).1
      have hl60b := (mayB_ok Hmb.out).1
      have Hl60a := Lib.hid hl60a; have Hl60b := Lib.hid hl60b
      clear hl60a hl60b
      clear hmb hb2 hb02
      go_wp2_with fail
      go_loopw [0, 1, 6] (fun v0 v1 v6 wr => ∃ (n : Nat) (ra rb : List Rw) (A1 A2 : Option Addr) (c1 c2 : Nat) (out : List Cg), v0 = .slice A1 ra.length c1 ∧ v1 = .slice A2 rb.length c2 ∧ ra.length ≤ c1 ∧ rb.length ≤ c2 ∧ Lies w w.heap.size A1 (ra.flatMap rwC) ∧ Lies w w.heap.size A2 (rb.flatMap rwC) ∧
          ownC wr w.heap.size v6 out ∧ out.length + ra.length + rb.length ≤ 120 ∧ Below w.heap.size w wr ∧ ra.length + rb.length ≤ n ∧ out ++ mrgB n ra rb = mrgB (la.length + lb.length) la lb) (fun v0 v1 _ _ => lenV v0 + lenV v1)
      case atStart => exact ⟨_, la, lb, A, A', c, c', [], rfl, rfl, HCa.out, HCb.out, HA.out, HB.out, ⟨rfl, .inl ⟨rfl, rfl⟩⟩, by have := Hl60a.out; have := Hl60b.out; simp; omega, HB02.out, Nat.le_refl _, rfl⟩
      case round =>
        obtain ⟨n, ra, rb, A1, A2, c1, c2, out, rfl, rfl, hc1, hc2, hL1, hL2, hown, hlen, hBr, hn, hmrg⟩ := hrel
        have hsz := hBr.size
        cases ra with
        | nil =>
          cases rb with
          | nil =>
            have hm0 : mrgB n [] [] = [] := by cases n <;> rfl
            rw [hm0, List.append_nil] at hmrg
            rw [hmrg] at hown
            have hfin : RBtwPost la lb w (.returned (.tuple #[_, .int .i64 0])) wr := ⟨hBr, by rw [if_pos ⟨Hma.out, Hmb.out⟩]; exact ⟨_, rfl, hown⟩⟩
            have Hfin := Lib.hid hfin
            clear hfin
            clear hL1 hL2 hown hBr hmrg
            simp only [List.length_nil] at *
            go_wp2_with fail
            refine bodyPost_ret (by unfold results; try go_simp) rfl Hfin.out
          | cons y b =>
            obtain ⟨A2', hcut2, hL2'⟩ := rows_tail hL2 (by simpa using hc2)
            obtain ⟨bb, bo, rfl, hbl, hcell⟩ := head_at hL2
            have hHe := fun V (hV : Below wr.heap.size wr V) => headAt_of (w := wr) (V := V) (fun j u hu => (hBr.cell (p := (⟨bb, bo, none⟩ : Addr).add j) (by rw [add_block]; exact hbl)).trans (hcell j u hu)) (by omega) hV
            clear hcell
            obtain ⟨⟨t, u⟩, M, b0, b1, b2, b3, b4, b5, b6, b7⟩ := y
            obtain ⟨m, rfl⟩ : ∃ m, n = m + 1 := ⟨n - 1, by simp only [List.length_cons] at hn; omega⟩
            have hst : mrgB (m + 1) [] (((t, u), (M, b0, b1, b2, b3, b4, b5, b6, b7)) :: b) = chg (t, u) noneB (M, b0, b1, b2, b3, b4, b5, b6, b7) ++ mrgB m [] b := rfl
            rw [hst, ← List.append_assoc] at hmrg
            clear hst
            simp only [List.length_cons, List.length_nil, Nat.add_zero, Nat.zero_add] at hc1 hc2 hlen hn ⊢
            have hl1 : ((0 : Nat) : Int) ≤ 120 := by omega
            have hl2 : ((b.length + 1 : Nat) : Int) ≤ 120 := by omega
            have HL1 := Lib.hid hL1; have HL2 := Lib.hid hL2; have Hown := Lib.hid hown; have HBr := Lib.hid hBr; have HMrg := Lib.hid hmrg; have HN := Lib.hid hn; have HLen := Lib.hid hlen; have HC1 := Lib.hid hc1; have HC2 := Lib.hid hc2; have HHe := Lib.hid hHe; have HL2' := Lib.hid hL2'; have HCut2 := Lib.hid hcut2
            clear hL1 hL2 hown hBr hmrg hn hlen hc1 hc2 hHe hL2' hcut2
            go_wp2_with fail
            refine (rNone_any _).mono ?_
            rintro e x1 ⟨rfl, hx1⟩
            rw [show beV noneB = .agg #[.int .i64 (-1), .int .i64 0, .int .i64 0, .int .i64 0, .int .i64 0, .int .i64 0, .int .i64 0, .int .i64 0, .int .i64 0] from rfl]
            have Hx1 := Lib.hid hx1
            clear hx1
            go_wp2_with fail
            refine (rNone_any _).mono ?_
            rintro e x2 ⟨rfl, hx2⟩
            rw [show beV noneB = .agg #[.int .i64 (-1), .int .i64 0, .int .i64 0, .int .i64 0, .int .i64 0, .int .i64 0, .int .i64 0, .int .i64 0, .int .i64 0] from rfl]
            have hx02 := Hx1.out.trans (hx2.mono Hx1.out.size)
            obtain ⟨w3, hw3, hb3, hz3, hs3⟩ := box1 x2 (.cells #[.int .i64 0, .int .i64 0, .int .i64 (-1), .int .i64 0, .int .i64 0, .int .i64 0, .int .i64 0, .int .i64 0, .int .i64 0, .int .i64 0, .int .i64 0, .int .i64 (-1), .int .i64 0, .int .i64 0, .int .i64 0, .int .i64 0, .int .i64 0, .int .i64 0, .int .i64 0, .int .i64 0] 36)
            have hb03 := hx02.trans (hb3.mono hx02.size)
            have hb32 := hb3
            have hhe := fun V (hV : Below w3.heap.size w3 V) => HHe.out V (hb03.trans (hV.mono hb03.size))
            have Hb03 := Lib.hid hb03; have Hz3 := Lib.hid hz3; have HW3 := Lib.hid hw3; have HS3 := Lib.hid hs3; have Hhe := Lib.hid hhe; have HB32 := Lib.hid hb32
            clear hb03 hz3 hw3 hs3 hhe hb32
            have Hx02 := Lib.hid hx02
            clear hx2 hx02 hb3
            go_wp2_with (first | (refine wpList_store_new rfl 36 (.tmp 7) (.tmp 26) rfl _ (ints [0, 0, 0, 0, 0, 0, 0, 0, 0, 0, 0, 0, 0, 0, 0, 0, 0, 0, 0, 0]) [.int .i64 0, .int .i64 0, .int .i64 (-1), .int .i64 0, .int .i64 0, .int .i64 0, .int .i64 0, .int .i64 0, .int .i64 0, .int .i64 0, .int .i64 0, .int .i64 (-1), .int .i64 0, .int .i64 0, .int .i64 0, .int .i64 0, .int .i64 0, .int .i64 0, .int .i64 0, .int .i64 0] 36 rfl rfl rfl (by kernel_rfl) (cgC_one ((0, 0), noneB, noneB)) ?_) | fail)
            rw [HW3.out]
            refine wp_planK [] 21 [0] [some 27, some 28, some 29, some 30, some 31, some 32, some 33, some 34, some 35, some 36, some 37, some 38, some 39, some 40, some 41, some 42, some 43, some 44, some 45, some 46, some 8] [[], [0], [0, 1], [0, 1, 2], [0, 1, 2, 3], [0, 1, 2, 3, 4], [0, 1, 2, 3, 4, 5], [0, 1, 2, 3, 4, 5, 6], [0, 1, 2, 3, 4, 5, 6, 7], [0, 1, 2, 3, 4, 5, 6, 7, 8], [0, 1, 2, 3, 4, 5, 6, 7, 8, 9], [0, 1, 2, 3, 4, 5, 6, 7, 8, 9, 10], [0, 1, 2, 3, 4, 5, 6, 7], [0, 1, 2, 3, 4, 5, 6, 7, 12], [0, 1, 2, 3, 4, 5, 6, 7, 12, 13], [0, 1, 2, 3, 4, 5, 6, 7, 12, 13, 14], [0, 1, 2, 3, 4, 5, 6, 7, 8, 9, 10, 11, 12, 13, 14, 15], [0, 1, 2, 3, 4, 5, 6, 7, 8, 9, 10, 11, 12, 13, 14, 15, 16], [0, 1, 2, 3, 4, 5, 6, 7, 8, 9, 10, 11, 12, 13, 14, 15, 16, 17], [0, 1, 2, 3, 4, 5, 6, 7, 8, 9, 10, 11, 12, 13, 14, 15, 16, 17, 18], [0, 1, 2, 3, 4, 5, 6, 7, 8, 9, 10, 11, 12, 13, 14, 15, 16, 17, 18, 19]] [0, 1, 2, 3, 4, 5, 6, 7, 8, 9, 10, 11, 12, 13, 14, 15, 16, 17, 18, 19, 20] (fun Lf σ V => Below w3.heap.size w3 V) mixed rfl (by kernel_rfl) (by decide) (by decide) (by decide) below_drew rfl ?_
            iterate 21 apply Exists.intro
            refine ⟨rfl, ?_, ?_⟩
            · simp only [List.take_succ_cons, List.take_zero, AllFrom.cons_eq, AllFrom.nil_eq, OpGoalK]
              refine ⟨?_, ?_, ?_, ?_, ?_, ?_, ?_, ?_, ?_, ?_, ?_, ?_, ?_, ?_, ?_, ?_, ?_, ?_, ?_, ?_, ?_, trivial⟩
              all_goals (intro L' σ V h1 h2 h3 hI hp; have HA1 := Lib.hid h1; have HA2 := Lib.hid h2; have HA3 := Lib.hid h3; clear h1 h2 h3; (try simp only [List.getD_cons_zero, List.getD_cons_succ, preK_cons, preK_nil] at hp); (try simp only [List.not_mem_nil, false_or, and_true] at hp); (first | (have hq : True := hp; clear hq hp) | skip); have HI := Lib.hid hI; clear hI)
              · (go_simp; exact ⟨.inr rfl, HI.out⟩)
              · (go_simp; exact ⟨.inr rfl, HI.out⟩)
              · (go_simp; exact ⟨.inr rfl, HI.out⟩)
              · (go_simp; exact ⟨.inr rfl, HI.out⟩)
              · (go_simp; exact ⟨.inr rfl, HI.out⟩)
              · (go_simp; exact ⟨.inr rfl, HI.out⟩)
              · (go_simp; exact ⟨.inr rfl, HI.out⟩)
              · (go_simp; exact ⟨.inr rfl, HI.out⟩)
              · (go_simp; exact ⟨.inr rfl, HI.out⟩)
              · (go_simp; exact ⟨.inr rfl, HI.out⟩)
              · (go_simp; exact ⟨.inr rfl, HI.out⟩)
              · (go_simp; exact ⟨.inr rfl, HI.out⟩)
              · (go_simp; exact ⟨.inr rfl, HI.out⟩)
              · (go_simp; exact ⟨.inr rfl, HI.out⟩)
              · (go_simp; exact ⟨.inr rfl, HI.out⟩)
              · (go_simp; exact ⟨.inr rfl, HI.out⟩)
              · (go_simp; exact ⟨.inr rfl, HI.out⟩)
              · (go_simp; exact ⟨.inr rfl, HI.out⟩)
              · (go_simp; exact ⟨.inr rfl, HI.out⟩)
              · (go_simp; exact ⟨.inr rfl, HI.out⟩)
              · (go_simp; exact ⟨.inr rfl, HI.out⟩)
            · intro L' σ V h1 hI hp
              clear h1
              simp only [preK_cons, preK_nil, List.getD_cons_zero, List.getD_cons_succ] at hp; simp only [List.not_mem_nil, false_or, and_true] at hp
              have HI := Lib.hid hI
              clear hI
              simp only [List.drop_succ_cons, List.drop_zero]
              go_simp
              clear hp
              go_wp2_with fail
              refine ⟨rfl, ?_⟩
              go_wp2_with fail
              refine wp_planK [] 21 [0] [some 47, some 48, some 49, some 50, some 51, some 52, some 53, some 54, some 55, some 56, some 57, some 58, some 59, some 60, some 61, some 62, some 63, some 64, some 65, some 66, some 9] [[], [0], [0, 1], [0, 1, 2], [0, 1, 2, 3], [0, 1, 2, 3, 4], [0, 1, 2, 3, 4, 5], [0, 1, 2, 3, 4, 5, 6], [0, 1, 2, 3, 4, 5, 6, 7], [0, 1, 2, 3, 4, 5, 6, 7, 8], [0, 1, 2, 3, 4, 5, 6, 7, 8, 9], [0, 1, 2, 3, 4, 5, 6, 7, 8, 9, 10], [0, 1, 2, 3, 4, 5, 6, 7], [0, 1, 2, 3, 4, 5, 6, 7, 12], [0, 1, 2, 3, 4, 5, 6, 7, 12, 13], [0, 1, 2, 3, 4, 5, 6, 7, 12, 13, 14], [0, 1, 2, 3, 4, 5, 6, 7, 8, 9, 10, 11, 12, 13, 14, 15], [0, 1, 2, 3, 4, 5, 6, 7, 8, 9, 10, 11, 12, 13, 14, 15, 16], [0, 1, 2, 3, 4, 5, 6, 7, 8, 9, 10, 11, 12, 13, 14, 15, 16, 17], [0, 1, 2, 3, 4, 5, 6, 7, 8, 9, 10, 11, 12, 13, 14, 15, 16, 17, 18], [0, 1, 2, 3, 4, 5, 6, 7, 8, 9, 10, 11, 12, 13, 14, 15, 16, 17, 18, 19]] [0, 1, 2, 3, 4, 5, 6, 7, 8, 9, 10, 11, 12, 13, 14, 15, 16, 17, 18, 19, 20] (fun Lf σ V => Below w3.heap.size w3 V) mixed rfl (by kernel_rfl) (by decide) (by decide) (by decide) HI.out.drew rfl ?_
              iterate 21 apply Exists.intro
              refine ⟨rfl, ?_, ?_⟩
              · simp only [List.take_succ_cons, List.take_zero, AllFrom.cons_eq, AllFrom.nil_eq, OpGoalK]
                refine ⟨?_, ?_, ?_, ?_, ?_, ?_, ?_, ?_, ?_, ?_, ?_, ?_, ?_, ?_, ?_, ?_, ?_, ?_, ?_, ?_, ?_, trivial⟩
                all_goals (intro L' σ V h1 h2 h3 hI hp; have HA1 := Lib.hid h1; have HA2 := Lib.hid h2; have HA3 := Lib.hid h3; clear h1 h2 h3; (try simp only [List.getD_cons_zero, List.getD_cons_succ, preK_cons, preK_nil] at hp); (try simp only [List.not_mem_nil, false_or, and_true] at hp); (first | (have hq : True := hp; clear hq hp) | skip); have HI := Lib.hid hI; clear hI)
                · (go_simp; exact ⟨.inr rfl, HI.out⟩)
                · (go_simp; exact ⟨.inr rfl, HI.out⟩)
                · (go_simp; exact ⟨.inr rfl, HI.out⟩)
                · (go_simp; exact ⟨.inr rfl, HI.out⟩)
                · (go_simp; exact ⟨.inr rfl, HI.out⟩)
                · (go_simp; exact ⟨.inr rfl, HI.out⟩)
                · (go_simp; exact ⟨.inr rfl, HI.out⟩)
                · (go_simp; exact ⟨.inr rfl, HI.out⟩)
                · (go_simp; exact ⟨.inr rfl, HI.out⟩)
                · (go_simp; exact ⟨.inr rfl, HI.out⟩)
                · (go_simp; exact ⟨.inr rfl, HI.out⟩)
                · (go_simp; exact ⟨.inr rfl, HI.out⟩)
                · (go_simp; exact ⟨.inr rfl, HI.out⟩)
                · (go_simp; exact ⟨.inr rfl, HI.out⟩)
                · (go_simp; exact ⟨.inr rfl, HI.out⟩)
                · (go_simp; exact ⟨.inr rfl, HI.out⟩)
                · (go_simp; exact ⟨.inr rfl, HI.out⟩)
                · (go_simp; exact ⟨.inr rfl, HI.out⟩)
                · (go_simp; exact ⟨.inr rfl, HI.out⟩)
                · (go_simp; exact ⟨.inr rfl, HI.out⟩)
                · (go_simp; exact ⟨.inr rfl, HI.out⟩)
              · intro L' σ V7 h1 hI hp
                clear h1
                simp only [preK_cons, preK_nil, List.getD_cons_zero, List.getD_cons_succ] at hp; simp only [List.not_mem_nil, false_or, and_true] at hp
                have HI7 := Lib.hid hI
                clear hI
                simp only [List.drop_succ_cons, List.drop_zero]
                go_simp
                clear hp
                go_wp2_with fail
                refine ⟨rfl, ?_⟩
                go_wp2_with fail
                have hst12 : ISt 9 11 x2 x2.heap.size 36 (fun z1 z2 => cgC (if z1 then (t, u) else (0, 0), noneB, if z2 then (M, b0, b1, b2, b3, b4, b5, b6, b7) else noneB)) (fun _ => false) V7.drew :=
                  ⟨(HB32.out.trans (HI7.out.mono HB32.out.size)).drew, Nat.le_refl _, blk_drew ((Mod.ofBelow HI7.out).keep Hz3.out (by simp))⟩
                have Hst12 := Lib.hid hst12
                clear hst12
                refine wp_planK [] 12 [0, 4] [some 81, some 82, some 83, some 84, some 85, some 86, some 87, some 88, some 89, none, some 90, none] [[], [0], [0, 1], [0, 1, 2], [], [4], [4, 5], [4, 5, 6], [0, 1, 2, 3], [0, 1, 2, 3, 8], [0, 1, 2, 3, 4, 5, 6, 7, 8, 9], [0, 1, 2, 3, 4, 5, 6, 7, 8, 9, 10]] [0, 1, 2, 3, 4, 5, 6, 7, 8, 9, 10, 11] (fun Lf σ V => ISt 9 11 x2 x2.heap.size 36 (fun z1 z2 => cgC (if z1 then (t, u) else (0, 0), noneB, if z2 then (M, b0, b1, b2, b3, b4, b5, b6, b7) else noneB)) Lf V) mixed rfl (by kernel_rfl) (by decide) (by decide) (by decide) Hst12.out rfl ?_
                iterate 12 apply Exists.intro
                refine ⟨rfl, ?_, ?_⟩
                · simp only [List.take_succ_cons, List.take_zero, AllFrom.cons_eq, AllFrom.nil_eq, OpGoalK]
                  refine ⟨?_, ?_, ?_, ?_, ?_, ?_, ?_, ?_, ?_, ?_, ?_, ?_, trivial⟩
                  all_goals (intro L' σ V h1 h2 h3 hI hp; have HA1 := Lib.hid h1; have HA2 := Lib.hid h2; have HA3 := Lib.hid h3; clear h1 h2 h3; (try simp only [List.getD_cons_zero, List.getD_cons_succ, preK_cons, preK_nil] at hp); (try simp only [List.not_mem_nil, false_or, and_true] at hp); (first | (have hq : True := hp; clear hq hp) | skip); have HI := Lib.hid hI; clear hI)
                  all_goals (
                    have hd := HHe.out V (Hx02.out.trans (HI.out.b.mono Hx02.out.size))
                    have qs := hd.s; have qg := hd.g; have ql := hd.lt
                    have t0 : V.cell? ⟨bb, bo + 2, none⟩ = some (.int .i64 M) := by have h := hd.bt 0 _ rfl; rw [Addr.add_mid] at h; exact h
                    have t1 : V.cell? ⟨bb, bo + 3, none⟩ = some (.int .i64 b0) := by have h := hd.bt 1 _ rfl; rw [Addr.add_mid] at h; exact h
                    have t2 : V.cell? ⟨bb, bo + 4, none⟩ = some (.int .i64 b1) := by have h := hd.bt 2 _ rfl; rw [Addr.add_mid] at h; exact h
                    have t3 : V.cell? ⟨bb, bo + 5, none⟩ = some (.int .i64 b2) := by have h := hd.bt 3 _ rfl; rw [Addr.add_mid] at h; exact h
                    have t4 : V.cell? ⟨bb, bo + 6, none⟩ = some (.int .i64 b3) := by have h := hd.bt 4 _ rfl; rw [Addr.add_mid] at h; exact h
                    have t5 : V.cell? ⟨bb, bo + 7, none⟩ = some (.int .i64 b4) := by have h := hd.bt 5 _ rfl; rw [Addr.add_mid] at h; exact h
                    have t6 : V.cell? ⟨bb, bo + 8, none⟩ = some (.int .i64 b5) := by have h := hd.bt 6 _ rfl; rw [Addr.add_mid] at h; exact h
                    have t7 : V.cell? ⟨bb, bo + 9, none⟩ = some (.int .i64 b6) := by have h := hd.bt 7 _ rfl; rw [Addr.add_mid] at h; exact h
                    have t8 : V.cell? ⟨bb, bo + 10, none⟩ = some (.int .i64 b7) := by have h := hd.bt 8 _ rfl; rw [Addr.add_mid] at h; exact h
                    clear hd)
                  · (go_simp; exact ⟨.inr rfl, HI.out.read (by decide) (by decide)⟩)
                  · (go_simp; exact ⟨.inr rfl, HI.out.read (by decide) (by decide)⟩)
                  · (go_simp; exact ⟨.inr rfl, HI.out.read (by decide) (by decide)⟩)
                  · (go_simp; exact ⟨.inr rfl, HI.out.read (by decide) (by decide)⟩)
                  · (go_simp; exact ⟨.inr rfl, HI.out.read (by decide) (by decide)⟩)
                  · (go_simp; exact ⟨.inr rfl, HI.out.read (by decide) (by decide)⟩)
                  · (go_simp; exact ⟨.inr rfl, HI.out.read (by decide) (by decide)⟩)
                  · (go_simp; exact ⟨.inr rfl, HI.out.read (by decide) (by decide)⟩)
                  · (go_simp; exact ⟨.inr rfl, HI.out.read (by decide) (by decide)⟩)
                  · simp only [wantedL_none, if_true, Nat.reduceAdd, Nat.zero_add]
                    have x3 := HA1.out
                    simp only [Nat.reduceAdd, Nat.zero_add] at x3
                    generalize hρ : Act.eval _ = ρ
                    refine HI.out.yr1 x3 (by decide) 0 (handleC (t, u)) 28 (.tmp 89) (.tmp 84) rfl ?_ ?_ (fun b => by rw [cgC_len, handleC_len]; omega) (by kernel_rfl) (handleC_one _) (fun b => by cases b <;> exact setL_at _ _) (fun V' hV' => PostK.mk (c := undef) (.inr rfl) hV')
                    · rw [← hρ]; go_simp
                    · rw [← hρ]; go_simp; rfl
                  · (go_simp; exact ⟨.inr rfl, HI.out.read (by decide) (by decide)⟩)
                  · simp only [wantedL_none, if_true, Nat.reduceAdd, Nat.zero_add]
                    have x3 := HA1.out
                    simp only [Nat.reduceAdd, Nat.zero_add] at x3
                    generalize hρ : Act.eval _ = ρ
                    refine HI.out.yr2 x3 (by decide) 11 (btC (M, b0, b1, b2, b3, b4, b5, b6, b7)) 31 (.tmp 90) (.tmp 88) rfl ?_ ?_ (fun b => by rw [cgC_len]; exact of_decide_eq_true rfl) (by kernel_rfl) (ints_one _) (fun b => by cases b <;> exact setL_now _ _) (fun V' hV' => PostK.mk (c := undef) (.inr rfl) hV')
                    · rw [← hρ]; go_simp
                    · rw [← hρ]; go_simp; rfl
                · intro L12 σ12 V12 h1 hI hp
                  have hst := hI.blk
                  simp only [h1 9 (by decide), h1 11 (by decide), if_true] at hst
                  have hb9 := hI.b
                  simp only [preK_cons, preK_nil, List.getD_cons_zero, List.getD_cons_succ] at hp; simp only [List.not_mem_nil, false_or, and_true] at hp
                  have HstB := Lib.hid hst; have HB12 := Lib.hid hb9
                  clear hst hb9
                  have hcut2 := HCut2.out
                  clear h1 hI
                  simp only [List.drop_succ_cons, List.drop_zero]
                  go_simp
                  clear hp
                  go_wp2_with fail
                  refine ⟨rfl, ?_⟩
                  have hNo := blk_piece HstB.out 2 (btC noneB) (cg_old ((t, u), noneB, (M, b0, b1, b2, b3, b4, b5, b6, b7)))
                  have hNn := blk_piece HstB.out 11 (btC (M, b0, b1, b2, b3, b4, b5, b6, b7)) (cg_now ((t, u), noneB, (M, b0, b1, b2, b3, b4, b5, b6, b7)))
                  have hN3 := blk_piece HstB.out 0 (cgC ((t, u), noneB, (M, b0, b1, b2, b3, b4, b5, b6, b7))) (fun j u hu => by rw [Nat.zero_add]; exact hu)
                  have hcmp := fun w => neqBeast w noneB (M, b0, b1, b2, b3, b4, b5, b6, b7)
                  simp only [show (btC noneB).toArray = #[.int .i64 (-1), .int .i64 0, .int .i64 0, .int .i64 0, .int .i64 0, .int .i64 0, .int .i64 0, .int .i64 0, .int .i64 0] from rfl, show (btC (M, b0, b1, b2, b3, b4, b5, b6, b7)).toArray = #[.int .i64 M, .int .i64 b0, .int .i64 b1, .int .i64 b2, .int .i64 b3, .int .i64 b4, .int .i64 b5, .int .i64 b6, .int .i64 b7] from rfl] at hcmp
                  have hbrV := Hx02.out.trans (HB12.out.mono Hx02.out.size)
                  have hbV := HBr.out.trans (hbrV.mono HBr.out.size)
                  have hOV := row_mod Hown.out (Mod.ofBelow hbrV) (by simp)
                  have hlo : out.length ≤ 120 := by have := HLen.out; omega
                  have HNo := Lib.hid hNo; have HNn := Lib.hid hNn; have HN3 := Lib.hid hN3; have HBV := Lib.hid hbV; have HOV := Lib.hid hOV; have HLo := Lib.hid hlo
                  clear hNo hNn hN3 hbV hOV hlo
                  clear hbrV
                  cases he : eqB noneB (M, b0, b1, b2, b3, b4, b5, b6, b7) with
                  | true =>
                    rw [he] at hcmp
                    have Hmr := Lib.hid (show out ++ mrgB m [] b = mrgB (la.length + lb.length) la lb from by have h := HMrg.out; unfold chg at h; rw [if_pos he, List.append_nil] at h; exact h)
                    clear he
                    go_wp2_with (first
                      | (refine wpList_load_flat rfl 31 (.tmp 93) rfl ⟨x2.heap.size, 2, none⟩ rfl [.int .i64 (-1), .int .i64 0, .int .i64 0, .int .i64 0, .int .i64 0, .int .i64 0, .int .i64 0, .int .i64 0, .int .i64 0] _ Try.underlying31 rfl (by kernel_rfl) HNo.out ?_)
                      | (refine wpList_load_flat rfl 31 (.tmp 95) rfl ⟨x2.heap.size, 11, none⟩ rfl [.int .i64 M, .int .i64 b0, .int .i64 b1, .int .i64 b2, .int .i64 b3, .int .i64 b4, .int .i64 b5, .int .i64 b6, .int .i64 b7] _ Try.underlying31 rfl (by kernel_rfl) HNn.out ?_))
                    go_roundw
                    case rel => exact ⟨m, [], b, A1, A2', c1, c2 - 1, out, rfl, rfl, by have h1 := HC1.out; have h2 := HC2.out; have h3 := HLen.out; have h4 := HN.out; (try simp only [List.length_cons, List.length_nil, List.length_append] at *); omega, by have h1 := HC1.out; have h2 := HC2.out; have h3 := HLen.out; have h4 := HN.out; (try simp only [List.length_cons, List.length_nil, List.length_append] at *); omega, HL1.out, HL2'.out, HOV.out, by have h1 := HC1.out; have h2 := HC2.out; have h3 := HLen.out; have h4 := HN.out; (try simp only [List.length_cons, List.length_nil, List.length_append] at *); omega, HBV.out, by have h1 := HC1.out; have h2 := HC2.out; have h3 := HLen.out; have h4 := HN.out; (try simp only [List.length_cons, List.length_nil, List.length_append] at *); omega, Hmr.out⟩
                    case measure => simp [lenV] <;> omega
                  | false =>
                    rw [he] at hcmp
                    have Hmr := Lib.hid (show (out ++ [((t, u), noneB, (M, b0, b1, b2, b3, b4, b5, b6, b7))]) ++ mrgB m [] b = mrgB (la.length + lb.length) la lb from by have h := HMrg.out; unfold chg at h; rw [if_neg (by rw [he]; simp)] at h; exact h)
                    clear he
                    have hN2 := new_rec (w := V12) (cs := #[.int .i64 t, .int .i64 u, .int .i64 (-1), .int .i64 0, .int .i64 0, .int .i64 0, .int .i64 0, .int .i64 0, .int .i64 0, .int .i64 0, .int .i64 0, .int .i64 M, .int .i64 b0, .int .i64 b1, .int .i64 b2, .int .i64 b3, .int .i64 b4, .int .i64 b5, .int .i64 b6, .int .i64 b7]) (t := 36) (n := V12.heap.size) (xs := cgC ((t, u), noneB, (M, b0, b1, b2, b3, b4, b5, b6, b7))) rfl rfl
                    have hOV2 : ownC (V12.alloc (.cells #[.int .i64 t, .int .i64 u, .int .i64 (-1), .int .i64 0, .int .i64 0, .int .i64 0, .int .i64 0, .int .i64 0, .int .i64 0, .int .i64 0, .int .i64 0, .int .i64 M, .int .i64 b0, .int .i64 b1, .int .i64 b2, .int .i64 b3, .int .i64 b4, .int .i64 b5, .int .i64 b6, .int .i64 b7] 36)) w.heap.size _ out := row_mod HOV.out (Mod.ofBelow ((Below.refl _ V12).alloc (Nat.le_refl _) _)) (by simp)
                    have HN2 := Lib.hid hN2; have HOV2 := Lib.hid hOV2
                    clear hN2 hOV2
                    go_wp2_with (first
                      | (refine wpList_load_flat rfl 31 (.tmp 93) rfl ⟨x2.heap.size, 2, none⟩ rfl [.int .i64 (-1), .int .i64 0, .int .i64 0, .int .i64 0, .int .i64 0, .int .i64 0, .int .i64 0, .int .i64 0, .int .i64 0] _ Try.underlying31 rfl (by kernel_rfl) HNo.out ?_)
                      | (refine wpList_load_flat rfl 31 (.tmp 95) rfl ⟨x2.heap.size, 11, none⟩ rfl [.int .i64 M, .int .i64 b0, .int .i64 b1, .int .i64 b2, .int .i64 b3, .int .i64 b4, .int .i64 b5, .int .i64 b6, .int .i64 b7] _ Try.underlying31 rfl (by kernel_rfl) HNn.out ?_)
                      | (refine wpList_load_flat rfl 36 (.tmp 7) rfl ⟨x2.heap.size, 0, none⟩ rfl [.int .i64 t, .int .i64 u, .int .i64 (-1), .int .i64 0, .int .i64 0, .int .i64 0, .int .i64 0, .int .i64 0, .int .i64 0, .int .i64 0, .int .i64 0, .int .i64 M, .int .i64 b0, .int .i64 b1, .int .i64 b2, .int .i64 b3, .int .i64 b4, .int .i64 b5, .int .i64 b6, .int .i64 b7] _ Try.underlying36 rfl (by kernel_rfl) HN3.out ?_)
                      | (refine wpList_build1 rfl 23 36 (.tmp 99) rfl [.int .i64 t, .int .i64 u, .int .i64 (-1), .int .i64 0, .int .i64 0, .int .i64 0, .int .i64 0, .int .i64 0, .int .i64 0, .int .i64 0, .int .i64 0, .int .i64 M, .int .i64 b0, .int .i64 b1, .int .i64 b2, .int .i64 b3, .int .i64 b4, .int .i64 b5, .int .i64 b6, .int .i64 b7] rfl Try.underlying23 inf_Change rfl (by omega) (by omega) ?_)
                      | (at_builtin; refine app_cg rfl _ _ rfl w.heap.size _ out ((t, u), noneB, (M, b0, b1, b2, b3, b4, b5, b6, b7)) ⟨V12.heap.size, 0, none⟩ 1 rfl HOV2.out rfl HN2.out (by have := HLo.out; omega) (by have := HBV.out.size; simp; omega) ?_; intro v' w' hown' hg'))
                    have hb' : Below w.heap.size w w' := ((HBV.out.alloc HBV.out.size _).grown hg' (by have := HBV.out.size; simp; omega) (own_ge HOV2.out))
                    have Hown' := Lib.hid hown'; have Hb' := Lib.hid hb'
                    clear hown' hb'
                    clear hg'
                    go_wp2_with fail
                    go_roundw
                    case rel => exact ⟨m, [], b, A1, A2', c1, c2 - 1, (out ++ [((t, u), noneB, (M, b0, b1, b2, b3, b4, b5, b6, b7))]), rfl, rfl, by have h1 := HC1.out; have h2 := HC2.out; have h3 := HLen.out; have h4 := HN.out; (try simp only [List.length_cons, List.length_nil, List.length_append] at *); omega, by have h1 := HC1.out; have h2 := HC2.out; have h3 := HLen.out; have h4 := HN.out; (try simp only [List.length_cons, List.length_nil, List.length_append] at *); omega, HL1.out, HL2'.out, Hown'.out, by have h1 := HC1.out; have h2 := HC2.out; have h3 := HLen.out; have h4 := HN.out; (try simp only [List.length_cons, List.length_nil, List.length_append] at *); omega, Hb'.out, by have h1 := HC1.out; have h2 := HC2.out; have h3 := HLen.out; have h4 := HN.out; (try simp only [List.length_cons, List.length_nil, List.length_append] at *); omega, Hmr.out⟩
                    case measure => simp [lenV] <;> omega

        | cons x a =>
          cases rb with
          | nil =>
            obtain ⟨A1', hcut1, hL1'⟩ := rows_tail hL1 (by simpa using hc1)
            obtain ⟨ab, ao, rfl, hal, hcell⟩ := head_at hL1
            have hHd := fun V (hV : Below wr.heap.size wr V) => headAt_of (w := wr) (V := V) (fun j u hu => (hBr.cell (p := (⟨ab, ao, none⟩ : Addr).add j) (by rw [add_block]; exact hal)).trans (hcell j u hu)) (by omega) hV
            clear hcell
            obtain ⟨⟨s, g⟩, K, a0, a1, a2, a3, a4, a5, a6, a7⟩ := x
            obtain ⟨m, rfl⟩ : ∃ m, n = m + 1 := ⟨n - 1, by simp only [List.length_cons] at hn; omega⟩
            have hst : mrgB (m + 1) (((s, g), (K, a0, a1, a2, a3, a4, a5, a6, a7)) :: a) [] = chg (s, g) (K, a0, a1, a2, a3, a4, a5, a6, a7) noneB ++ mrgB m a [] := rfl
            rw [hst, ← List.append_assoc] at hmrg
            clear hst
            simp only [List.length_cons, List.length_nil, Nat.add_zero, Nat.zero_add] at hc1 hc2 hlen hn ⊢
            have hl1 : ((a.length + 1 : Nat) : Int) ≤ 120 := by omega
            have hl2 : ((0 : Nat) : Int) ≤ 120 := by omega
            have HL1 := Lib.hid hL1; have HL2 := Lib.hid hL2; have Hown := Lib.hid hown; have HBr := Lib.hid hBr; have HMrg := Lib.hid hmrg; have HN := Lib.hid hn; have HLen := Lib.hid hlen; have HC1 := Lib.hid hc1; have HC2 := Lib.hid hc2; have HHd := Lib.hid hHd; have HL1' := Lib.hid hL1'; have HCut1 := Lib.hid hcut1
            clear hL1 hL2 hown hBr hmrg hn hlen hc1 hc2 hHd hL1' hcut1
            go_wp2_with fail
            refine (rNone_any _).mono ?_
            rintro e x1 ⟨rfl, hx1⟩
            rw [show beV noneB = .agg #[.int .i64 (-1), .int .i64 0, .int .i64 0, .int .i64 0, .int .i64 0, .int .i64 0, .int .i64 0, .int .i64 0, .int .i64 0] from rfl]
            have Hx1 := Lib.hid hx1
            clear hx1
            go_wp2_with fail
            refine (rNone_any _).mono ?_
            rintro e x2 ⟨rfl, hx2⟩
            rw [show beV noneB = .agg #[.int .i64 (-1), .int .i64 0, .int .i64 0, .int .i64 0, .int .i64 0, .int .i64 0, .int .i64 0, .int .i64 0, .int .i64 0] from rfl]
            have hx02 := Hx1.out.trans (hx2.mono Hx1.out.size)
            obtain ⟨w3, hw3, hb3, hz3, hs3⟩ := box1 x2 (.cells #[.int .i64 0, .int .i64 0, .int .i64 (-1), .int .i64 0, .int .i64 0, .int .i64 0, .int .i64 0, .int .i64 0, .int .i64 0, .int .i64 0, .int .i64 0, .int .i64 (-1), .int .i64 0, .int .i64 0, .int .i64 0, .int .i64 0, .int .i64 0, .int .i64 0, .int .i64 0, .int .i64 0] 36)
            have hb03 := hx02.trans (hb3.mono hx02.size)
            have hb32 := hb3
            have hhd := fun V (hV : Below w3.heap.size w3 V) => HHd.out V (hb03.trans (hV.mono hb03.size))
            have Hb03 := Lib.hid hb03; have Hz3 := Lib.hid hz3; have HW3 := Lib.hid hw3; have HS3 := Lib.hid hs3; have Hhd := Lib.hid hhd; have HB32 := Lib.hid hb32
            clear hb03 hz3 hw3 hs3 hhd hb32
            have Hx02 := Lib.hid hx02
            clear hx2 hx02 hb3
            go_wp2_with (first | (refine wpList_store_new rfl 36 (.tmp 7) (.tmp 26) rfl _ (ints [0, 0, 0, 0, 0, 0, 0, 0, 0, 0, 0, 0, 0, 0, 0, 0, 0, 0, 0, 0]) [.int .i64 0, .int .i64 0, .int .i64 (-1), .int .i64 0, .int .i64 0, .int .i64 0, .int .i64 0, .int .i64 0, .int .i64 0, .int .i64 0, .int .i64 0, .int .i64 (-1), .int .i64 0, .int .i64 0, .int .i64 0, .int .i64 0, .int .i64 0, .int .i64 0, .int .i64 0, .int .i64 0] 36 rfl rfl rfl (by kernel_rfl) (cgC_one ((0, 0), noneB, noneB)) ?_) | fail)
            rw [HW3.out]
            refine wp_planK [] 21 [0] [some 27, some 28, some 29, some 30, some 31, some 32, some 33, some 34, some 35, some 36, some 37, some 38, some 39, some 40, some 41, some 42, some 43, some 44, some 45, some 46, some 8] [[], [0], [0, 1], [0, 1, 2], [0, 1, 2, 3], [0, 1, 2, 3, 4], [0, 1, 2, 3, 4, 5], [0, 1, 2, 3, 4, 5, 6], [0, 1, 2, 3, 4, 5, 6, 7], [0, 1, 2, 3, 4, 5, 6, 7, 8], [0, 1, 2, 3, 4, 5, 6, 7, 8, 9], [0, 1, 2, 3, 4, 5, 6, 7, 8, 9, 10], [0, 1, 2, 3, 4, 5, 6, 7], [0, 1, 2, 3, 4, 5, 6, 7, 12], [0, 1, 2, 3, 4, 5, 6, 7, 12, 13], [0, 1, 2, 3, 4, 5, 6, 7, 12, 13, 14], [0, 1, 2, 3, 4, 5, 6, 7, 8, 9, 10, 11, 12, 13, 14, 15], [0, 1, 2, 3, 4, 5, 6, 7, 8, 9, 10, 11, 12, 13, 14, 15, 16], [0, 1, 2, 3, 4, 5, 6, 7, 8, 9, 10, 11, 12, 13, 14, 15, 16, 17], [0, 1, 2, 3, 4, 5, 6, 7, 8, 9, 10, 11, 12, 13, 14, 15, 16, 17, 18], [0, 1, 2, 3, 4, 5, 6, 7, 8, 9, 10, 11, 12, 13, 14, 15, 16, 17, 18, 19]] [0, 1, 2, 3, 4, 5, 6, 7, 8, 9, 10, 11, 12, 13, 14, 15, 16, 17, 18, 19, 20] (fun Lf σ V => Below w3.heap.size w3 V) mixed rfl (by kernel_rfl) (by decide) (by decide) (by decide) below_drew rfl ?_
            iterate 21 apply Exists.intro
            refine ⟨rfl, ?_, ?_⟩
            · simp only [List.take_succ_cons, List.take_zero, AllFrom.cons_eq, AllFrom.nil_eq, OpGoalK]
              refine ⟨?_, ?_, ?_, ?_, ?_, ?_, ?_, ?_, ?_, ?_, ?_, ?_, ?_, ?_, ?_, ?_, ?_, ?_, ?_, ?_, ?_, trivial⟩
              all_goals (intro L' σ V h1 h2 h3 hI hp; have HA1 := Lib.hid h1; have HA2 := Lib.hid h2; have HA3 := Lib.hid h3; clear h1 h2 h3; (try simp only [List.getD_cons_zero, List.getD_cons_succ, preK_cons, preK_nil] at hp); (try simp only [List.not_mem_nil, false_or, and_true] at hp); (first | (have hq : True := hp; clear hq hp) | skip); have HI := Lib.hid hI; clear hI)
              · (go_simp; exact ⟨.inr rfl, HI.out⟩)
              · (go_simp; exact ⟨.inr rfl, HI.out⟩)
              · (go_simp; exact ⟨.inr rfl, HI.out⟩)
              · (go_simp; exact ⟨.inr rfl, HI.out⟩)
              · (go_simp; exact ⟨.inr rfl, HI.out⟩)
              · (go_simp; exact ⟨.inr rfl, HI.out⟩)
              · (go_simp; exact ⟨.inr rfl, HI.out⟩)
              · (go_simp; exact ⟨.inr rfl, HI.out⟩)
              · (go_simp; exact ⟨.inr rfl, HI.out⟩)
              · (go_simp; exact ⟨.inr rfl, HI.out⟩)
              · (go_simp; exact ⟨.inr rfl, HI.out⟩)
              · (go_simp; exact ⟨.inr rfl, HI.out⟩)
              · (go_simp; exact ⟨.inr rfl, HI.out⟩)
              · (go_simp; exact ⟨.inr rfl, HI.out⟩)
              · (go_simp; exact ⟨.inr rfl, HI.out⟩)
              · (go_simp; exact ⟨.inr rfl, HI.out⟩)
              · (go_simp; exact ⟨.inr rfl, HI.out⟩)
              · (go_simp; exact ⟨.inr rfl, HI.out⟩)
              · (go_simp; exact ⟨.inr rfl, HI.out⟩)
              · (go_simp; exact ⟨.inr rfl, HI.out⟩)
              · (go_simp; exact ⟨.inr rfl, HI.out⟩)
            · intro L' σ V h1 hI hp
              clear h1
              simp only [preK_cons, preK_nil, List.getD_cons_zero, List.getD_cons_succ] at hp; simp only [List.not_mem_nil, false_or, and_true] at hp
              have HI := Lib.hid hI
              clear hI
              simp only [List.drop_succ_cons, List.drop_zero]
              go_simp
              clear hp
              go_wp2_with fail
              refine ⟨rfl, ?_⟩
              go_wp2_with fail
              refine wp_planK [] 21 [0] [some 47, some 48, some 49, some 50, some 51, some 52, some 53, some 54, some 55, some 56, some 57, some 58, some 59, some 60, some 61, some 62, some 63, some 64, some 65, some 66, some 9] [[], [0], [0, 1], [0, 1, 2], [0, 1, 2, 3], [0, 1, 2, 3, 4], [0, 1, 2, 3, 4, 5], [0, 1, 2, 3, 4, 5, 6], [0, 1, 2, 3, 4, 5, 6, 7], [0, 1, 2, 3, 4, 5, 6, 7, 8], [0, 1, 2, 3, 4, 5, 6, 7, 8, 9], [0, 1, 2, 3, 4, 5, 6, 7, 8, 9, 10], [0, 1, 2, 3, 4, 5, 6, 7], [0, 1, 2, 3, 4, 5, 6, 7, 12], [0, 1, 2, 3, 4, 5, 6, 7, 12, 13], [0, 1, 2, 3, 4, 5, 6, 7, 12, 13, 14], [0, 1, 2, 3, 4, 5, 6, 7, 8, 9, 10, 11, 12, 13, 14, 15], [0, 1, 2, 3, 4, 5, 6, 7, 8, 9, 10, 11, 12, 13, 14, 15, 16], [0, 1, 2, 3, 4, 5, 6, 7, 8, 9, 10, 11, 12, 13, 14, 15, 16, 17], [0, 1, 2, 3, 4, 5, 6, 7, 8, 9, 10, 11, 12, 13, 14, 15, 16, 17, 18], [0, 1, 2, 3, 4, 5, 6, 7, 8, 9, 10, 11, 12, 13, 14, 15, 16, 17, 18, 19]] [0, 1, 2, 3, 4, 5, 6, 7, 8, 9, 10, 11, 12, 13, 14, 15, 16, 17, 18, 19, 20] (fun Lf σ V => Below w3.heap.size w3 V) mixed rfl (by kernel_rfl) (by decide) (by decide) (by decide) HI.out.drew rfl ?_
              iterate 21 apply Exists.intro
              refine ⟨rfl, ?_, ?_⟩
              · simp only [List.take_succ_cons, List.take_zero, AllFrom.cons_eq, AllFrom.nil_eq, OpGoalK]
                refine ⟨?_, ?_, ?_, ?_, ?_, ?_, ?_, ?_, ?_, ?_, ?_, ?_, ?_, ?_, ?_, ?_, ?_, ?_, ?_, ?_, ?_, trivial⟩
                all_goals (intro L' σ V h1 h2 h3 hI hp; have HA1 := Lib.hid h1; have HA2 := Lib.hid h2; have HA3 := Lib.hid h3; clear h1 h2 h3; (try simp only [List.getD_cons_zero, List.getD_cons_succ, preK_cons, preK_nil] at hp); (try simp only [List.not_mem_nil, false_or, and_true] at hp); (first | (have hq : True := hp; clear hq hp) | skip); have HI := Lib.hid hI; clear hI)
                · (go_simp; exact ⟨.inr rfl, HI.out⟩)
                · (go_simp; exact ⟨.inr rfl, HI.out⟩)
                · (go_simp; exact ⟨.inr rfl, HI.out⟩)
                · (go_simp; exact ⟨.inr rfl, HI.out⟩)
                · (go_simp; exact ⟨.inr rfl, HI.out⟩)
                · (go_simp; exact ⟨.inr rfl, HI.out⟩)
                · (go_simp; exact ⟨.inr rfl, HI.out⟩)
                · (go_simp; exact ⟨.inr rfl, HI.out⟩)
                · (go_simp; exact ⟨.inr rfl, HI.out⟩)
                · (go_simp; exact ⟨.inr rfl, HI.out⟩)
                · (go_simp; exact ⟨.inr rfl, HI.out⟩)
                · (go_simp; exact ⟨.inr rfl, HI.out⟩)
                · (go_simp; exact ⟨.inr rfl, HI.out⟩)
                · (go_simp; exact ⟨.inr rfl, HI.out⟩)
                · (go_simp; exact ⟨.inr rfl, HI.out⟩)
                · (go_simp; exact ⟨.inr rfl, HI.out⟩)
                · (go_simp; exact ⟨.inr rfl, HI.out⟩)
                · (go_simp; exact ⟨.inr rfl, HI.out⟩)
                · (go_simp; exact ⟨.inr rfl, HI.out⟩)
                · (go_simp; exact ⟨.inr rfl, HI.out⟩)
                · (go_simp; exact ⟨.inr rfl, HI.out⟩)
              · intro L' σ V7 h1 hI hp
                clear h1
                simp only [preK_cons, preK_nil, List.getD_cons_zero, List.getD_cons_succ] at hp; simp only [List.not_mem_nil, false_or, and_true] at hp
                have HI7 := Lib.hid hI
                clear hI
                simp only [List.drop_succ_cons, List.drop_zero]
                go_simp
                clear hp
                go_wp2_with fail
                refine ⟨rfl, ?_⟩
                go_wp2_with fail
                have hst9 : ISt 9 11 x2 x2.heap.size 36 (fun z1 z2 => cgC (if z1 then (s, g) else (0, 0), if z2 then (K, a0, a1, a2, a3, a4, a5, a6, a7) else noneB, noneB)) (fun _ => false) V7.drew :=
                  ⟨(HB32.out.trans (HI7.out.mono HB32.out.size)).drew, Nat.le_refl _, blk_drew ((Mod.ofBelow HI7.out).keep Hz3.out (by simp))⟩
                have Hst9 := Lib.hid hst9
                clear hst9
                refine wp_planK [] 12 [0, 4] [some 68, some 69, some 70, some 71, some 72, some 73, some 74, some 75, some 76, none, some 77, none] [[], [0], [0, 1], [0, 1, 2], [], [4], [4, 5], [4, 5, 6], [0, 1, 2, 3], [0, 1, 2, 3, 8], [0, 1, 2, 3, 4, 5, 6, 7, 8, 9], [0, 1, 2, 3, 4, 5, 6, 7, 8, 9, 10]] [0, 1, 2, 3, 4, 5, 6, 7, 8, 9, 10, 11] (fun Lf σ V => ISt 9 11 x2 x2.heap.size 36 (fun z1 z2 => cgC (if z1 then (s, g) else (0, 0), if z2 then (K, a0, a1, a2, a3, a4, a5, a6, a7) else noneB, noneB)) Lf V) mixed rfl (by kernel_rfl) (by decide) (by decide) (by decide) Hst9.out rfl ?_
                iterate 12 apply Exists.intro
                refine ⟨rfl, ?_, ?_⟩
                · simp only [List.take_succ_cons, List.take_zero, AllFrom.cons_eq, AllFrom.nil_eq, OpGoalK]
                  refine ⟨?_, ?_, ?_, ?_, ?_, ?_, ?_, ?_, ?_, ?_, ?_, ?_, trivial⟩
                  all_goals (intro L' σ V h1 h2 h3 hI hp; have HA1 := Lib.hid h1; have HA2 := Lib.hid h2; have HA3 := Lib.hid h3; clear h1 h2 h3; (try simp only [List.getD_cons_zero, List.getD_cons_succ, preK_cons, preK_nil] at hp); (try simp only [List.not_mem_nil, false_or, and_true] at hp); (first | (have hq : True := hp; clear hq hp) | skip); have HI := Lib.hid hI; clear hI)
                  all_goals (
                    have hd := HHd.out V (Hx02.out.trans (HI.out.b.mono Hx02.out.size))
                    have qs := hd.s; have qg := hd.g; have ql := hd.lt
                    have t0 : V.cell? ⟨ab, ao + 2, none⟩ = some (.int .i64 K) := by have h := hd.bt 0 _ rfl; rw [Addr.add_mid] at h; exact h
                    have t1 : V.cell? ⟨ab, ao + 3, none⟩ = some (.int .i64 a0) := by have h := hd.bt 1 _ rfl; rw [Addr.add_mid] at h; exact h
                    have t2 : V.cell? ⟨ab, ao + 4, none⟩ = some (.int .i64 a1) := by have h := hd.bt 2 _ rfl; rw [Addr.add_mid] at h; exact h
                    have t3 : V.cell? ⟨ab, ao + 5, none⟩ = some (.int .i64 a2) := by have h := hd.bt 3 _ rfl; rw [Addr.add_mid] at h; exact h
                    have t4 : V.cell? ⟨ab, ao + 6, none⟩ = some (.int .i64 a3) := by have h := hd.bt 4 _ rfl; rw [Addr.add_mid] at h; exact h
                    have t5 : V.cell? ⟨ab, ao + 7, none⟩ = some (.int .i64 a4) := by have h := hd.bt 5 _ rfl; rw [Addr.add_mid] at h; exact h
                    have t6 : V.cell? ⟨ab, ao + 8, none⟩ = some (.int .i64 a5) := by have h := hd.bt 6 _ rfl; rw [Addr.add_mid] at h; exact h
                    have t7 : V.cell? ⟨ab, ao + 9, none⟩ = some (.int .i64 a6) := by have h := hd.bt 7 _ rfl; rw [Addr.add_mid] at h; exact h
                    have t8 : V.cell? ⟨ab, ao + 10, none⟩ = some (.int .i64 a7) := by have h := hd.bt 8 _ rfl; rw [Addr.add_mid] at h; exact h
                    clear hd)
                  · (go_simp; exact ⟨.inr rfl, HI.out.read (by decide) (by decide)⟩)
                  · (go_simp; exact ⟨.inr rfl, HI.out.read (by decide) (by decide)⟩)
                  · (go_simp; exact ⟨.inr rfl, HI.out.read (by decide) (by decide)⟩)
                  · (go_simp; exact ⟨.inr rfl, HI.out.read (by decide) (by decide)⟩)
                  · (go_simp; exact ⟨.inr rfl, HI.out.read (by decide) (by decide)⟩)
                  · (go_simp; exact ⟨.inr rfl, HI.out.read (by decide) (by decide)⟩)
                  · (go_simp; exact ⟨.inr rfl, HI.out.read (by decide) (by decide)⟩)
                  · (go_simp; exact ⟨.inr rfl, HI.out.read (by decide) (by decide)⟩)
                  · (go_simp; exact ⟨.inr rfl, HI.out.read (by decide) (by decide)⟩)
                  · simp only [wantedL_none, if_true, Nat.reduceAdd, Nat.zero_add]
                    have x3 := HA1.out
                    simp only [Nat.reduceAdd, Nat.zero_add] at x3
                    generalize hρ : Act.eval _ = ρ
                    refine HI.out.yr1 x3 (by decide) 0 (handleC (s, g)) 28 (.tmp 76) (.tmp 71) rfl ?_ ?_ (fun b => by rw [cgC_len, handleC_len]; omega) (by kernel_rfl) (handleC_one _) (fun b => by cases b <;> exact setL_at _ _) (fun V' hV' => PostK.mk (c := undef) (.inr rfl) hV')
                    · rw [← hρ]; go_simp
                    · rw [← hρ]; go_simp; rfl
                  · (go_simp; exact ⟨.inr rfl, HI.out.read (by decide) (by decide)⟩)
                  · simp only [wantedL_none, if_true, Nat.reduceAdd, Nat.zero_add]
                    have x3 := HA1.out
                    simp only [Nat.reduceAdd, Nat.zero_add] at x3
                    generalize hρ : Act.eval _ = ρ
                    refine HI.out.yr2 x3 (by decide) 2 (btC (K, a0, a1, a2, a3, a4, a5, a6, a7)) 31 (.tmp 77) (.tmp 75) rfl ?_ ?_ (fun b => by rw [cgC_len]; exact of_decide_eq_true rfl) (by kernel_rfl) (ints_one _) (fun b => by cases b <;> exact setL_old _ _) (fun V' hV' => PostK.mk (c := undef) (.inr rfl) hV')
                    · rw [← hρ]; go_simp
                    · rw [← hρ]; go_simp; rfl
                · intro L9 σ9 V9 h1 hI hp
                  have hst := hI.blk
                  rw [h1 9 (by decide), h1 11 (by decide)] at hst
                  simp only [if_true] at hst
                  have hb9 := hI.b
                  simp only [preK_cons, preK_nil, List.getD_cons_zero, List.getD_cons_succ] at hp; simp only [List.not_mem_nil, false_or, and_true] at hp
                  have HstA := Lib.hid hst; have HB9 := Lib.hid hb9
                  clear hst hb9
                  have hcut1 := HCut1.out
                  clear h1 hI
                  simp only [List.drop_succ_cons, List.drop_zero]
                  go_simp
                  clear hp
                  go_wp2_with fail
                  refine ⟨rfl, ?_⟩
                  skip
                  skip
                  have hNo := blk_piece HstA.out 2 (btC (K, a0, a1, a2, a3, a4, a5, a6, a7)) (cg_old ((s, g), (K, a0, a1, a2, a3, a4, a5, a6, a7), noneB))
                  have hNn := blk_piece HstA.out 11 (btC noneB) (cg_now ((s, g), (K, a0, a1, a2, a3, a4, a5, a6, a7), noneB))
                  have hN3 := blk_piece HstA.out 0 (cgC ((s, g), (K, a0, a1, a2, a3, a4, a5, a6, a7), noneB)) (fun j u hu => by rw [Nat.zero_add]; exact hu)
                  have hcmp := fun w => neqBeast w (K, a0, a1, a2, a3, a4, a5, a6, a7) noneB
                  simp only [show (btC (K, a0, a1, a2, a3, a4, a5, a6, a7)).toArray = #[.int .i64 K, .int .i64 a0, .int .i64 a1, .int .i64 a2, .int .i64 a3, .int .i64 a4, .int .i64 a5, .int .i64 a6, .int .i64 a7] from rfl, show (btC noneB).toArray = #[.int .i64 (-1), .int .i64 0, .int .i64 0, .int .i64 0, .int .i64 0, .int .i64 0, .int .i64 0, .int .i64 0, .int .i64 0] from rfl] at hcmp
                  have hbrV := Hx02.out.trans (HB9.out.mono Hx02.out.size)
                  have hbV := HBr.out.trans (hbrV.mono HBr.out.size)
                  have hOV := row_mod Hown.out (Mod.ofBelow hbrV) (by simp)
                  have hlo : out.length ≤ 120 := by have := HLen.out; omega
                  have HNo := Lib.hid hNo; have HNn := Lib.hid hNn; have HN3 := Lib.hid hN3; have HBV := Lib.hid hbV; have HOV := Lib.hid hOV; have HLo := Lib.hid hlo
                  clear hNo hNn hN3 hbV hOV hlo
                  clear hbrV
                  cases he : eqB (K, a0, a1, a2, a3, a4, a5, a6, a7) noneB with
                  | true =>
                    rw [he] at hcmp
                    have Hmr := Lib.hid (show out ++ mrgB m a [] = mrgB (la.length + lb.length) la lb from by have h := HMrg.out; unfold chg at h; rw [if_pos he, List.append_nil] at h; exact h)
                    clear he
                    go_wp2_with (first
                      | (refine wpList_load_flat rfl 31 (.tmp 93) rfl ⟨x2.heap.size, 2, none⟩ rfl [.int .i64 K, .int .i64 a0, .int .i64 a1, .int .i64 a2, .int .i64 a3, .int .i64 a4, .int .i64 a5, .int .i64 a6, .int .i64 a7] _ Try.underlying31 rfl (by kernel_rfl) HNo.out ?_)
                      | (refine wpList_load_flat rfl 31 (.tmp 95) rfl ⟨x2.heap.size, 11, none⟩ rfl [.int .i64 (-1), .int .i64 0, .int .i64 0, .int .i64 0, .int .i64 0, .int .i64 0, .int .i64 0, .int .i64 0, .int .i64 0] _ Try.underlying31 rfl (by kernel_rfl) HNn.out ?_))
                    go_roundw
                    case rel => exact ⟨m, a, [], A1', A2, c1 - 1, c2, out, rfl, rfl, by have h1 := HC1.out; have h2 := HC2.out; have h3 := HLen.out; have h4 := HN.out; (try simp only [List.length_cons, List.length_nil, List.length_append] at *); omega, by have h1 := HC1.out; have h2 := HC2.out; have h3 := HLen.out; have h4 := HN.out; (try simp only [List.length_cons, List.length_nil, List.length_append] at *); omega, HL1'.out, HL2.out, HOV.out, by have h1 := HC1.out; have h2 := HC2.out; have h3 := HLen.out; have h4 := HN.out; (try simp only [List.length_cons, List.length_nil, List.length_append] at *); omega, HBV.out, by have h1 := HC1.out; have h2 := HC2.out; have h3 := HLen.out; have h4 := HN.out; (try simp only [List.length_cons, List.length_nil, List.length_append] at *); omega, Hmr.out⟩
                    case measure => simp [lenV] <;> omega
                  | false =>
                    rw [he] at hcmp
                    have Hmr := Lib.hid (show (out ++ [((s, g), (K, a0, a1, a2, a3, a4, a5, a6, a7), noneB)]) ++ mrgB m a [] = mrgB (la.length + lb.length) la lb from by have h := HMrg.out; unfold chg at h; rw [if_neg (by rw [he]; simp)] at h; exact h)
                    clear he
                    have hN2 := new_rec (w := V9) (cs := #[.int .i64 s, .int .i64 g, .int .i64 K, .int .i64 a0, .int .i64 a1, .int .i64 a2, .int .i64 a3, .int .i64 a4, .int .i64 a5, .int .i64 a6, .int .i64 a7, .int .i64 (-1), .int .i64 0, .int .i64 0, .int .i64 0, .int .i64 0, .int .i64 0, .int .i64 0, .int .i64 0, .int .i64 0]) (t := 36) (n := V9.heap.size) (xs := cgC ((s, g), (K, a0, a1, a2, a3, a4, a5, a6, a7), noneB)) rfl rfl
                    have hOV2 : ownC (V9.alloc (.cells #[.int .i64 s, .int .i64 g, .int .i64 K, .int .i64 a0, .int .i64 a1, .int .i64 a2, .int .i64 a3, .int .i64 a4, .int .i64 a5, .int .i64 a6, .int .i64 a7, .int .i64 (-1), .int .i64 0, .int .i64 0, .int .i64 0, .int .i64 0, .int .i64 0, .int .i64 0, .int .i64 0, .int .i64 0] 36)) w.heap.size _ out := row_mod HOV.out (Mod.ofBelow ((Below.refl _ V9).alloc (Nat.le_refl _) _)) (by simp)
                    have HN2 := Lib.hid hN2; have HOV2 := Lib.hid hOV2
                    clear hN2 hOV2
                    go_wp2_with (first
                      | (refine wpList_load_flat rfl 31 (.tmp 93) rfl ⟨x2.heap.size, 2, none⟩ rfl [.int .i64 K, .int .i64 a0, .int .i64 a1, .int .i64 a2, .int .i64 a3, .int .i64 a4, .int .i64 a5, .int .i64 a6, .int .i64 a7] _ Try.underlying31 rfl (by kernel_rfl) HNo.out ?_)
                      | (refine wpList_load_flat rfl 31 (.tmp 95) rfl ⟨x2.heap.size, 11, none⟩ rfl [.int .i64 (-1), .int .i64 0, .int .i64 0, .int .i64 0, .int .i64 0, .int .i64 0, .int .i64 0, .int .i64 0, .int .i64 0] _ Try.underlying31 rfl (by kernel_rfl) HNn.out ?_)
                      | (refine wpList_load_flat rfl 36 (.tmp 7) rfl ⟨x2.heap.size, 0, none⟩ rfl [.int .i64 s, .int .i64 g, .int .i64 K, .int .i64 a0, .int .i64 a1, .int .i64 a2, .int .i64 a3, .int .i64 a4, .int .i64 a5, .int .i64 a6, .int .i64 a7, .int .i64 (-1), .int .i64 0, .int .i64 0, .int .i64 0, .int .i64 0, .int .i64 0, .int .i64 0, .int .i64 0, .int .i64 0] _ Try.underlying36 rfl (by kernel_rfl) HN3.out ?_)
                      | (refine wpList_build1 rfl 23 36 (.tmp 99) rfl [.int .i64 s, .int .i64 g, .int .i64 K, .int .i64 a0, .int .i64 a1, .int .i64 a2, .int .i64 a3, .int .i64 a4, .int .i64 a5, .int .i64 a6, .int .i64 a7, .int .i64 (-1), .int .i64 0, .int .i64 0, .int .i64 0, .int .i64 0, .int .i64 0, .int .i64 0, .int .i64 0, .int .i64 0] rfl Try.underlying23 inf_Change rfl (by omega) (by omega) ?_)
                      | (at_builtin; refine app_cg rfl _ _ rfl w.heap.size _ out ((s, g), (K, a0, a1, a2, a3, a4, a5, a6, a7), noneB) ⟨V9.heap.size, 0, none⟩ 1 rfl HOV2.out rfl HN2.out (by have := HLo.out; omega) (by have := HBV.out.size; simp; omega) ?_; intro v' w' hown' hg'))
                    have hb' : Below w.heap.size w w' := ((HBV.out.alloc HBV.out.size _).grown hg' (by have := HBV.out.size; simp; omega) (own_ge HOV2.out))
                    have Hown' := Lib.hid hown'; have Hb' := Lib.hid hb'
                    clear hown' hb'
                    clear hg'
                    go_wp2_with fail
                    go_roundw
                    case rel => exact ⟨m, a, [], A1', A2, c1 - 1, c2, (out ++ [((s, g), (K, a0, a1, a2, a3, a4, a5, a6, a7), noneB)]), rfl, rfl, by have h1 := HC1.out; have h2 := HC2.out; have h3 := HLen.out; have h4 := HN.out; (try simp only [List.length_cons, List.length_nil, List.length_append] at *); omega, by have h1 := HC1.out; have h2 := HC2.out; have h3 := HLen.out; have h4 := HN.out; (try simp only [List.length_cons, List.length_nil, List.length_append] at *); omega, HL1'.out, HL2.out, Hown'.out, by have h1 := HC1.out; have h2 := HC2.out; have h3 := HLen.out; have h4 := HN.out; (try simp only [List.length_cons, List.length_nil, List.length_append] at *); omega, Hb'.out, by have h1 := HC1.out; have h2 := HC2.out; have h3 := HLen.out; have h4 := HN.out; (try simp only [List.length_cons, List.length_nil, List.length_append] at *); omega, Hmr.out⟩
                    case measure => simp [lenV] <;> omega

          | cons y b =>
            cases hxy : ltH x.1 y.1 with
            | true =>
              obtain ⟨A1', hcut1, hL1'⟩ := rows_tail hL1 (by simpa using hc1)
              obtain ⟨ab, ao, rfl, hal, hcell⟩ := head_at hL1
              have hHd := fun V (hV : Below wr.heap.size wr V) => headAt_of (w := wr) (V := V) (fun j u hu => (hBr.cell (p := (⟨ab, ao, none⟩ : Addr).add j) (by rw [add_block]; exact hal)).trans (hcell j u hu)) (by omega) hV
              clear hcell
              obtain ⟨⟨s, g⟩, K, a0, a1, a2, a3, a4, a5, a6, a7⟩ := x
              obtain ⟨A2', hcut2, hL2'⟩ := rows_tail hL2 (by simpa using hc2)
              obtain ⟨bb, bo, rfl, hbl, hcell⟩ := head_at hL2
              have hHe := fun V (hV : Below wr.heap.size wr V) => headAt_of (w := wr) (V := V) (fun j u hu => (hBr.cell (p := (⟨bb, bo, none⟩ : Addr).add j) (by rw [add_block]; exact hbl)).trans (hcell j u hu)) (by omega) hV
              clear hcell
              obtain ⟨⟨t, u⟩, M, b0, b1, b2, b3, b4, b5, b6, b7⟩ := y
              have hyx := ltH_asymm hxy
              have HLxy := Lib.hid hxy; have HLyx := Lib.hid hyx
              obtain ⟨m, rfl⟩ : ∃ m, n = m + 1 := ⟨n - 1, by simp only [List.length_cons] at hn; omega⟩
              have hst : mrgB (m + 1) (((s, g), (K, a0, a1, a2, a3, a4, a5, a6, a7)) :: a) (((t, u), (M, b0, b1, b2, b3, b4, b5, b6, b7)) :: b) = chg (s, g) (K, a0, a1, a2, a3, a4, a5, a6, a7) noneB ++ mrgB m a (((t, u), (M, b0, b1, b2, b3, b4, b5, b6, b7)) :: b) := by conv => { lhs; unfold mrgB }; rw [if_pos (by exact hxy)]
              rw [hst, ← List.append_assoc] at hmrg
              clear hst
              simp only [List.length_cons, List.length_nil, Nat.add_zero, Nat.zero_add] at hc1 hc2 hlen hn ⊢
              have hl1 : ((a.length + 1 : Nat) : Int) ≤ 120 := by omega
              have hl2 : ((b.length + 1 : Nat) : Int) ≤ 120 := by omega
              clear hxy hyx
              have HL1 := Lib.hid hL1; have HL2 := Lib.hid hL2; have Hown := Lib.hid hown; have HBr := Lib.hid hBr; have HMrg := Lib.hid hmrg; have HN := Lib.hid hn; have HLen := Lib.hid hlen; have HC1 := Lib.hid hc1; have HC2 := Lib.hid hc2; have HHd := Lib.hid hHd; have HL1' := Lib.hid hL1'; have HCut1 := Lib.hid hcut1; have HHe := Lib.hid hHe; have HL2' := Lib.hid hL2'; have HCut2 := Lib.hid hcut2
              clear hL1 hL2 hown hBr hmrg hn hlen hc1 hc2 hHd hL1' hcut1 hHe hL2' hcut2
              go_wp2_with fail
              refine (rNone_any _).mono ?_
              rintro e x1 ⟨rfl, hx1⟩
              rw [show beV noneB = .agg #[.int .i64 (-1), .int .i64 0, .int .i64 0, .int .i64 0, .int .i64 0, .int .i64 0, .int .i64 0, .int .i64 0, .int .i64 0] from rfl]
              have Hx1 := Lib.hid hx1
              clear hx1
              go_wp2_with fail
              refine (rNone_any _).mono ?_
              rintro e x2 ⟨rfl, hx2⟩
              rw [show beV noneB = .agg #[.int .i64 (-1), .int .i64 0, .int .i64 0, .int .i64 0, .int .i64 0, .int .i64 0, .int .i64 0, .int .i64 0, .int .i64 0] from rfl]
              have hx02 := Hx1.out.trans (hx2.mono Hx1.out.size)
              obtain ⟨w3, hw3, hb3, hz3, hs3⟩ := box1 x2 (.cells #[.int .i64 0, .int .i64 0, .int .i64 (-1), .int .i64 0, .int .i64 0, .int .i64 0, .int .i64 0, .int .i64 0, .int .i64 0, .int .i64 0, .int .i64 0, .int .i64 (-1), .int .i64 0, .int .i64 0, .int .i64 0, .int .i64 0, .int .i64 0, .int .i64 0, .int .i64 0, .int .i64 0] 36)
              have hb03 := hx02.trans (hb3.mono hx02.size)
              have hb32 := hb3
              have hhd := fun V (hV : Below w3.heap.size w3 V) => HHd.out V (hb03.trans (hV.mono hb03.size))
              have hhe := fun V (hV : Below w3.heap.size w3 V) => HHe.out V (hb03.trans (hV.mono hb03.size))
              have Hb03 := Lib.hid hb03; have Hz3 := Lib.hid hz3; have HW3 := Lib.hid hw3; have HS3 := Lib.hid hs3; have Hhd := Lib.hid hhd; have Hhe := Lib.hid hhe; have HB32 := Lib.hid hb32
              clear hb03 hz3 hw3 hs3 hhd hhe hb32
              have Hx02 := Lib.hid hx02
              clear hx2 hx02 hb3
              go_wp2_with (first | (refine wpList_store_new rfl 36 (.tmp 7) (.tmp 26) rfl _ (ints [0, 0, 0, 0, 0, 0, 0, 0, 0, 0, 0, 0, 0, 0, 0, 0, 0, 0, 0, 0]) [.int .i64 0, .int .i64 0, .int .i64 (-1), .int .i64 0, .int .i64 0, .int .i64 0, .int .i64 0, .int .i64 0, .int .i64 0, .int .i64 0, .int .i64 0, .int .i64 (-1), .int .i64 0, .int .i64 0, .int .i64 0, .int .i64 0, .int .i64 0, .int .i64 0, .int .i64 0, .int .i64 0] 36 rfl rfl rfl (by kernel_rfl) (cgC_one ((0, 0), noneB, noneB)) ?_) | fail)
              rw [HW3.out]
              refine wp_planK [] 21 [0] [some 27, some 28, some 29, some 30, some 31, some 32, some 33, some 34, some 35, some 36, some 37, some 38, some 39, some 40, some 41, some 42, some 43, some 44, some 45, some 46, some 8] [[], [0], [0, 1], [0, 1, 2], [0, 1, 2, 3], [0, 1, 2, 3, 4], [0, 1, 2, 3, 4, 5], [0, 1, 2, 3, 4, 5, 6], [0, 1, 2, 3, 4, 5, 6, 7], [0, 1, 2, 3, 4, 5, 6, 7, 8], [0, 1, 2, 3, 4, 5, 6, 7, 8, 9], [0, 1, 2, 3, 4, 5, 6, 7, 8, 9, 10], [0, 1, 2, 3, 4, 5, 6, 7], [0, 1, 2, 3, 4, 5, 6, 7, 12], [0, 1, 2, 3, 4, 5, 6, 7, 12, 13], [0, 1, 2, 3, 4, 5, 6, 7, 12, 13, 14], [0, 1, 2, 3, 4, 5, 6, 7, 8, 9, 10, 11, 12, 13, 14, 15], [0, 1, 2, 3, 4, 5, 6, 7, 8, 9, 10, 11, 12, 13, 14, 15, 16], [0, 1, 2, 3, 4, 5, 6, 7, 8, 9, 10, 11, 12, 13, 14, 15, 16, 17], [0, 1, 2, 3, 4, 5, 6, 7, 8, 9, 10, 11, 12, 13, 14, 15, 16, 17, 18], [0, 1, 2, 3, 4, 5, 6, 7, 8, 9, 10, 11, 12, 13, 14, 15, 16, 17, 18, 19]] [0, 1, 2, 3, 4, 5, 6, 7, 8, 9, 10, 11, 12, 13, 14, 15, 16, 17, 18, 19, 20] (fun Lf σ V => Below w3.heap.size w3 V) mixed rfl (by kernel_rfl) (by decide) (by decide) (by decide) below_drew rfl ?_
              iterate 21 apply Exists.intro
              refine ⟨rfl, ?_, ?_⟩
              · simp only [List.take_succ_cons, List.take_zero, AllFrom.cons_eq, AllFrom.nil_eq, OpGoalK]
                refine ⟨?_, ?_, ?_, ?_, ?_, ?_, ?_, ?_, ?_, ?_, ?_, ?_, ?_, ?_, ?_, ?_, ?_, ?_, ?_, ?_, ?_, trivial⟩
                all_goals (intro L' σ V h1 h2 h3 hI hp; have HA1 := Lib.hid h1; have HA2 := Lib.hid h2; have HA3 := Lib.hid h3; clear h1 h2 h3; (try simp only [List.getD_cons_zero, List.getD_cons_succ, preK_cons, preK_nil] at hp); (try simp only [List.not_mem_nil, false_or, and_true] at hp); (first | (have hq : True := hp; clear hq hp) | skip); have HI := Lib.hid hI; clear hI)
                all_goals (
                  have hd := Hhd.out V HI.out
                  have qs := hd.s; have qg := hd.g; have ql := hd.lt
                  have he := Hhe.out V HI.out
                  have ps := he.s; have pg := he.g; have pl := he.lt
                  clear hd he)
                · (go_simp; exact ⟨.inr rfl, HI.out⟩)
                · (go_simp; exact ⟨.inr rfl, HI.out⟩)
                · (go_simp; exact ⟨.inr rfl, HI.out⟩)
                · (go_simp; exact ⟨.inr rfl, HI.out⟩)
                · (go_simp; exact ⟨.inr rfl, HI.out⟩)
                · (go_simp; exact ⟨.inr rfl, HI.out⟩)
                · (go_simp; exact ⟨.inr rfl, HI.out⟩)
                · (go_simp; exact ⟨.inr rfl, HI.out⟩)
                · (go_simp; exact ⟨.inr rfl, HI.out⟩)
                · (go_simp; exact ⟨.inr rfl, HI.out⟩)
                · (go_simp; exact ⟨.inr rfl, HI.out⟩)
                · (go_simp; exact ⟨.inr rfl, HI.out⟩)
                · (go_simp; exact ⟨.inr rfl, HI.out⟩)
                · (go_simp; exact ⟨.inr rfl, HI.out⟩)
                · (go_simp; exact ⟨.inr rfl, HI.out⟩)
                · (go_simp; exact ⟨.inr rfl, HI.out⟩)
                · (go_simp; refine (less_any _ _ _ _ _).mono ?_; rintro e V2 ⟨rfl, hb⟩; rw [HLyx.out]; exact ⟨_, rfl, .inr rfl, HI.out.trans (hb.mono HI.out.size)⟩)
                · (go_simp; exact ⟨.inr rfl, HI.out⟩)
                · (go_simp; exact ⟨.inr rfl, HI.out⟩)
                · (go_simp; exact ⟨.inr rfl, HI.out⟩)
                · (go_simp; exact ⟨.inr rfl, HI.out⟩)
              · intro L' σ V h1 hI hp
                clear h1
                simp only [preK_cons, preK_nil, List.getD_cons_zero, List.getD_cons_succ] at hp; simp only [List.not_mem_nil, false_or, and_true] at hp
                have HI := Lib.hid hI
                clear hI
                simp only [List.drop_succ_cons, List.drop_zero]
                go_simp
                clear hp
                go_wp2_with fail
                refine ⟨rfl, ?_⟩
                go_wp2_with fail
                refine wp_planK [] 21 [0] [some 47, some 48, some 49, some 50, some 51, some 52, some 53, some 54, some 55, some 56, some 57, some 58, some 59, some 60, some 61, some 62, some 63, some 64, some 65, some 66, some 9] [[], [0], [0, 1], [0, 1, 2], [0, 1, 2, 3], [0, 1, 2, 3, 4], [0, 1, 2, 3, 4, 5], [0, 1, 2, 3, 4, 5, 6], [0, 1, 2, 3, 4, 5, 6, 7], [0, 1, 2, 3, 4, 5, 6, 7, 8], [0, 1, 2, 3, 4, 5, 6, 7, 8, 9], [0, 1, 2, 3, 4, 5, 6, 7, 8, 9, 10], [0, 1, 2, 3, 4, 5, 6, 7], [0, 1, 2, 3, 4, 5, 6, 7, 12], [0, 1, 2, 3, 4, 5, 6, 7, 12, 13], [0, 1, 2, 3, 4, 5, 6, 7, 12, 13, 14], [0, 1, 2, 3, 4, 5, 6, 7, 8, 9, 10, 11, 12, 13, 14, 15], [0, 1, 2, 3, 4, 5, 6, 7, 8, 9, 10, 11, 12, 13, 14, 15, 16], [0, 1, 2, 3, 4, 5, 6, 7, 8, 9, 10, 11, 12, 13, 14, 15, 16, 17], [0, 1, 2, 3, 4, 5, 6, 7, 8, 9, 10, 11, 12, 13, 14, 15, 16, 17, 18], [0, 1, 2, 3, 4, 5, 6, 7, 8, 9, 10, 11, 12, 13, 14, 15, 16, 17, 18, 19]] [0, 1, 2, 3, 4, 5, 6, 7, 8, 9, 10, 11, 12, 13, 14, 15, 16, 17, 18, 19, 20] (fun Lf σ V => Below w3.heap.size w3 V) mixed rfl (by kernel_rfl) (by decide) (by decide) (by decide) HI.out.drew rfl ?_
                iterate 21 apply Exists.intro
                refine ⟨rfl, ?_, ?_⟩
                · simp only [List.take_succ_cons, List.take_zero, AllFrom.cons_eq, AllFrom.nil_eq, OpGoalK]
                  refine ⟨?_, ?_, ?_, ?_, ?_, ?_, ?_, ?_, ?_, ?_, ?_, ?_, ?_, ?_, ?_, ?_, ?_, ?_, ?_, ?_, ?_, trivial⟩
                  all_goals (intro L' σ V h1 h2 h3 hI hp; have HA1 := Lib.hid h1; have HA2 := Lib.hid h2; have HA3 := Lib.hid h3; clear h1 h2 h3; (try simp only [List.getD_cons_zero, List.getD_cons_succ, preK_cons, preK_nil] at hp); (try simp only [List.not_mem_nil, false_or, and_true] at hp); (first | (have hq : True := hp; clear hq hp) | skip); have HI := Lib.hid hI; clear hI)
                  all_goals (
                    have hd := Hhd.out V HI.out
                    have qs := hd.s; have qg := hd.g; have ql := hd.lt
                    have he := Hhe.out V HI.out
                    have ps := he.s; have pg := he.g; have pl := he.lt
                    clear hd he)
                  · (go_simp; exact ⟨.inr rfl, HI.out⟩)
                  · (go_simp; exact ⟨.inr rfl, HI.out⟩)
                  · (go_simp; exact ⟨.inr rfl, HI.out⟩)
                  · (go_simp; exact ⟨.inr rfl, HI.out⟩)
                  · (go_simp; exact ⟨.inr rfl, HI.out⟩)
                  · (go_simp; exact ⟨.inr rfl, HI.out⟩)
                  · (go_simp; exact ⟨.inr rfl, HI.out⟩)
                  · (go_simp; exact ⟨.inr rfl, HI.out⟩)
                  · (go_simp; exact ⟨.inr rfl, HI.out⟩)
                  · (go_simp; exact ⟨.inr rfl, HI.out⟩)
                  · (go_simp; exact ⟨.inr rfl, HI.out⟩)
                  · (go_simp; exact ⟨.inr rfl, HI.out⟩)
                  · (go_simp; exact ⟨.inr rfl, HI.out⟩)
                  · (go_simp; exact ⟨.inr rfl, HI.out⟩)
                  · (go_simp; exact ⟨.inr rfl, HI.out⟩)
                  · (go_simp; exact ⟨.inr rfl, HI.out⟩)
                  · (go_simp; refine (less_any _ _ _ _ _).mono ?_; rintro e V2 ⟨rfl, hb⟩; rw [HLxy.out]; exact ⟨_, rfl, .inr rfl, HI.out.trans (hb.mono HI.out.size)⟩)
                  · (go_simp; exact ⟨.inr rfl, HI.out⟩)
                  · (go_simp; exact ⟨.inr rfl, HI.out⟩)
                  · (go_simp; exact ⟨.inr rfl, HI.out⟩)
                  · (go_simp; exact ⟨.inr rfl, HI.out⟩)
                · intro L' σ V7 h1 hI hp
                  clear h1
                  simp only [preK_cons, preK_nil, List.getD_cons_zero, List.getD_cons_succ] at hp; simp only [List.not_mem_nil, false_or, and_true] at hp
                  have HI7 := Lib.hid hI
                  clear hI
                  simp only [List.drop_succ_cons, List.drop_zero]
                  go_simp
                  clear hp
                  go_wp2_with fail
                  refine ⟨rfl, ?_⟩
                  go_wp2_with fail
                  have hst9 : ISt 9 11 x2 x2.heap.size 36 (fun z1 z2 => cgC (if z1 then (s, g) else (0, 0), if z2 then (K, a0, a1, a2, a3, a4, a5, a6, a7) else noneB, noneB)) (fun _ => false) V7.drew :=
                    ⟨(HB32.out.trans (HI7.out.mono HB32.out.size)).drew, Nat.le_refl _, blk_drew ((Mod.ofBelow HI7.out).keep Hz3.out (by simp))⟩
                  have Hst9 := Lib.hid hst9
                  clear hst9
                  refine wp_planK [] 12 [0, 4] [some 68, some 69, some 70, some 71, some 72, some 73, some 74, some 75, some 76, none, some 77, none] [[], [0], [0, 1], [0, 1, 2], [], [4], [4, 5], [4, 5, 6], [0, 1, 2, 3], [0, 1, 2, 3, 8], [0, 1, 2, 3, 4, 5, 6, 7, 8, 9], [0, 1, 2, 3, 4, 5, 6, 7, 8, 9, 10]] [0, 1, 2, 3, 4, 5, 6, 7, 8, 9, 10, 11] (fun Lf σ V => ISt 9 11 x2 x2.heap.size 36 (fun z1 z2 => cgC (if z1 then (s, g) else (0, 0), if z2 then (K, a0, a1, a2, a3, a4, a5, a6, a7) else noneB, noneB)) Lf V) mixed rfl (by kernel_rfl) (by decide) (by decide) (by decide) Hst9.out rfl ?_
                  iterate 12 apply Exists.intro
                  refine ⟨rfl, ?_, ?_⟩
                  · simp only [List.take_succ_cons, List.take_zero, AllFrom.cons_eq, AllFrom.nil_eq, OpGoalK]
                    refine ⟨?_, ?_, ?_, ?_, ?_, ?_, ?_, ?_, ?_, ?_, ?_, ?_, trivial⟩
                    all_goals (intro L' σ V h1 h2 h3 hI hp; have HA1 := Lib.hid h1; have HA2 := Lib.hid h2; have HA3 := Lib.hid h3; clear h1 h2 h3; (try simp only [List.getD_cons_zero, List.getD_cons_succ, preK_cons, preK_nil] at hp); (try simp only [List.not_mem_nil, false_or, and_true] at hp); (first | (have hq : True := hp; clear hq hp) | skip); have HI := Lib.hid hI; clear hI)
                    all_goals (
                      have hd := HHd.out V (Hx02.out.trans (HI.out.b.mono Hx02.out.size))
                      have qs := hd.s; have qg := hd.g; have ql := hd.lt
                      have t0 : V.cell? ⟨ab, ao + 2, none⟩ = some (.int .i64 K) := by have h := hd.bt 0 _ rfl; rw [Addr.add_mid] at h; exact h
                      have t1 : V.cell? ⟨ab, ao + 3, none⟩ = some (.int .i64 a0) := by have h := hd.bt 1 _ rfl; rw [Addr.add_mid] at h; exact h
                      have t2 : V.cell? ⟨ab, ao + 4, none⟩ = some (.int .i64 a1) := by have h := hd.bt 2 _ rfl; rw [Addr.add_mid] at h; exact h
                      have t3 : V.cell? ⟨ab, ao + 5, none⟩ = some (.int .i64 a2) := by have h := hd.bt 3 _ rfl; rw [Addr.add_mid] at h; exact h
                      have t4 : V.cell? ⟨ab, ao + 6, none⟩ = some (.int .i64 a3) := by have h := hd.bt 4 _ rfl; rw [Addr.add_mid] at h; exact h
                      have t5 : V.cell? ⟨ab, ao + 7, none⟩ = some (.int .i64 a4) := by have h := hd.bt 5 _ rfl; rw [Addr.add_mid] at h; exact h
                      have t6 : V.cell? ⟨ab, ao + 8, none⟩ = some (.int .i64 a5) := by have h := hd.bt 6 _ rfl; rw [Addr.add_mid] at h; exact h
                      have t7 : V.cell? ⟨ab, ao + 9, none⟩ = some (.int .i64 a6) := by have h := hd.bt 7 _ rfl; rw [Addr.add_mid] at h; exact h
                      have t8 : V.cell? ⟨ab, ao + 10, none⟩ = some (.int .i64 a7) := by have h := hd.bt 8 _ rfl; rw [Addr.add_mid] at h; exact h
                      clear hd)
                    · (go_simp; exact ⟨.inr rfl, HI.out.read (by decide) (by decide)⟩)
                    · (go_simp; exact ⟨.inr rfl, HI.out.read (by decide) (by decide)⟩)
                    · (go_simp; exact ⟨.inr rfl, HI.out.read (by decide) (by decide)⟩)
                    · (go_simp; exact ⟨.inr rfl, HI.out.read (by decide) (by decide)⟩)
                    · (go_simp; exact ⟨.inr rfl, HI.out.read (by decide) (by decide)⟩)
                    · (go_simp; exact ⟨.inr rfl, HI.out.read (by decide) (by decide)⟩)
                    · (go_simp; exact ⟨.inr rfl, HI.out.read (by decide) (by decide)⟩)
                    · (go_simp; exact ⟨.inr rfl, HI.out.read (by decide) (by decide)⟩)
                    · (go_simp; exact ⟨.inr rfl, HI.out.read (by decide) (by decide)⟩)
                    · simp only [wantedL_none, if_true, Nat.reduceAdd, Nat.zero_add]
                      have x3 := HA1.out
                      simp only [Nat.reduceAdd, Nat.zero_add] at x3
                      generalize hρ : Act.eval _ = ρ
                      refine HI.out.yr1 x3 (by decide) 0 (handleC (s, g)) 28 (.tmp 76) (.tmp 71) rfl ?_ ?_ (fun b => by rw [cgC_len, handleC_len]; omega) (by kernel_rfl) (handleC_one _) (fun b => by cases b <;> exact setL_at _ _) (fun V' hV' => PostK.mk (c := undef) (.inr rfl) hV')
                      · rw [← hρ]; go_simp
                      · rw [← hρ]; go_simp; rfl
                    · (go_simp; exact ⟨.inr rfl, HI.out.read (by decide) (by decide)⟩)
                    · simp only [wantedL_none, if_true, Nat.reduceAdd, Nat.zero_add]
                      have x3 := HA1.out
                      simp only [Nat.reduceAdd, Nat.zero_add] at x3
                      generalize hρ : Act.eval _ = ρ
                      refine HI.out.yr2 x3 (by decide) 2 (btC (K, a0, a1, a2, a3, a4, a5, a6, a7)) 31 (.tmp 77) (.tmp 75) rfl ?_ ?_ (fun b => by rw [cgC_len]; exact of_decide_eq_true rfl) (by kernel_rfl) (ints_one _) (fun b => by cases b <;> exact setL_old _ _) (fun V' hV' => PostK.mk (c := undef) (.inr rfl) hV')
                      · rw [← hρ]; go_simp
                      · rw [← hρ]; go_simp; rfl
                  · intro L9 σ9 V9 h1 hI hp
                    have hst := hI.blk
                    rw [h1 9 (by decide), h1 11 (by decide)] at hst
                    simp only [if_true] at hst
                    have hb9 := hI.b
                    simp only [preK_cons, preK_nil, List.getD_cons_zero, List.getD_cons_succ] at hp; simp only [List.not_mem_nil, false_or, and_true] at hp
                    have HstA := Lib.hid hst; have HB9 := Lib.hid hb9
                    clear hst hb9
                    have hcut1 := HCut1.out
                    clear h1 hI
                    simp only [List.drop_succ_cons, List.drop_zero]
                    go_simp
                    clear hp
                    go_wp2_with fail
                    refine ⟨rfl, ?_⟩
                    skip
                    skip
                    have hNo := blk_piece HstA.out 2 (btC (K, a0, a1, a2, a3, a4, a5, a6, a7)) (cg_old ((s, g), (K, a0, a1, a2, a3, a4, a5, a6, a7), noneB))
                    have hNn := blk_piece HstA.out 11 (btC noneB) (cg_now ((s, g), (K, a0, a1, a2, a3, a4, a5, a6, a7), noneB))
                    have hN3 := blk_piece HstA.out 0 (cgC ((s, g), (K, a0, a1, a2, a3, a4, a5, a6, a7), noneB)) (fun j u hu => by rw [Nat.zero_add]; exact hu)
                    have hcmp := fun w => neqBeast w (K, a0, a1, a2, a3, a4, a5, a6, a7) noneB
                    simp only [show (btC (K, a0, a1, a2, a3, a4, a5, a6, a7)).toArray = #[.int .i64 K, .int .i64 a0, .int .i64 a1, .int .i64 a2, .int .i64 a3, .int .i64 a4, .int .i64 a5, .int .i64 a6, .int .i64 a7] from rfl, show (btC noneB).toArray = #[.int .i64 (-1), .int .i64 0, .int .i64 0, .int .i64 0, .int .i64 0, .int .i64 0, .int .i64 0, .int .i64 0, .int .i64 0] from rfl] at hcmp
                    have hbrV := Hx02.out.trans (HB9.out.mono Hx02.out.size)
                    have hbV := HBr.out.trans (hbrV.mono HBr.out.size)
                    have hOV := row_mod Hown.out (Mod.ofBelow hbrV) (by simp)
                    have hlo : out.length ≤ 120 := by have := HLen.out; omega
                    have HNo := Lib.hid hNo; have HNn := Lib.hid hNn; have HN3 := Lib.hid hN3; have HBV := Lib.hid hbV; have HOV := Lib.hid hOV; have HLo := Lib.hid hlo
                    clear hNo hNn hN3 hbV hOV hlo
                    clear hbrV
                    cases he : eqB (K, a0, a1, a2, a3, a4, a5, a6, a7) noneB with
                    | true =>
                      rw [he] at hcmp
                      have Hmr := Lib.hid (show out ++ mrgB m a (((t, u), (M, b0, b1, b2, b3, b4, b5, b6, b7)) :: b) = mrgB (la.length + lb.length) la lb from by have h := HMrg.out; unfold chg at h; rw [if_pos he, List.append_nil] at h; exact h)
                      clear he
                      go_wp2_with (first
                        | (refine wpList_load_flat rfl 31 (.tmp 93) rfl ⟨x2.heap.size, 2, none⟩ rfl [.int .i64 K, .int .i64 a0, .int .i64 a1, .int .i64 a2, .int .i64 a3, .int .i64 a4, .int .i64 a5, .int .i64 a6, .int .i64 a7] _ Try.underlying31 rfl (by kernel_rfl) HNo.out ?_)
                        | (refine wpList_load_flat rfl 31 (.tmp 95) rfl ⟨x2.heap.size, 11, none⟩ rfl [.int .i64 (-1), .int .i64 0, .int .i64 0, .int .i64 0, .int .i64 0, .int .i64 0, .int .i64 0, .int .i64 0, .int .i64 0] _ Try.underlying31 rfl (by kernel_rfl) HNn.out ?_))
                      go_roundw
                      case rel => exact ⟨m, a, (((t, u), (M, b0, b1, b2, b3, b4, b5, b6, b7)) :: b), A1', some ⟨bb, bo, none⟩, c1 - 1, c2, out, rfl, rfl, by have h1 := HC1.out; have h2 := HC2.out; have h3 := HLen.out; have h4 := HN.out; (try simp only [List.length_cons, List.length_nil, List.length_append] at *); omega, by have h1 := HC1.out; have h2 := HC2.out; have h3 := HLen.out; have h4 := HN.out; (try simp only [List.length_cons, List.length_nil, List.length_append] at *); omega, HL1'.out, HL2.out, HOV.out, by have h1 := HC1.out; have h2 := HC2.out; have h3 := HLen.out; have h4 := HN.out; (try simp only [List.length_cons, List.length_nil, List.length_append] at *); omega, HBV.out, by have h1 := HC1.out; have h2 := HC2.out; have h3 := HLen.out; have h4 := HN.out; (try simp only [List.length_cons, List.length_nil, List.length_append] at *); omega, Hmr.out⟩
                      case measure => simp [lenV] <;> omega
                    | false =>
                      rw [he] at hcmp
                      have Hmr := Lib.hid (show (out ++ [((s, g), (K, a0, a1, a2, a3, a4, a5, a6, a7), noneB)]) ++ mrgB m a (((t, u), (M, b0, b1, b2, b3, b4, b5, b6, b7)) :: b) = mrgB (la.length + lb.length) la lb from by have h := HMrg.out; unfold chg at h; rw [if_neg (by rw [he]; simp)] at h; exact h)
                      clear he
                      have hN2 := new_rec (w := V9) (cs := #[.int .i64 s, .int .i64 g, .int .i64 K, .int .i64 a0, .int .i64 a1, .int .i64 a2, .int .i64 a3, .int .i64 a4, .int .i64 a5, .int .i64 a6, .int .i64 a7, .int .i64 (-1), .int .i64 0, .int .i64 0, .int .i64 0, .int .i64 0, .int .i64 0, .int .i64 0, .int .i64 0, .int .i64 0]) (t := 36) (n := V9.heap.size) (xs := cgC ((s, g), (K, a0, a1, a2, a3, a4, a5, a6, a7), noneB)) rfl rfl
                      have hOV2 : ownC (V9.alloc (.cells #[.int .i64 s, .int .i64 g, .int .i64 K, .int .i64 a0, .int .i64 a1, .int .i64 a2, .int .i64 a3, .int .i64 a4, .int .i64 a5, .int .i64 a6, .int .i64 a7, .int .i64 (-1), .int .i64 0, .int .i64 0, .int .i64 0, .int .i64 0, .int .i64 0, .int .i64 0, .int .i64 0, .int .i64 0] 36)) w.heap.size _ out := row_mod HOV.out (Mod.ofBelow ((Below.refl _ V9).alloc (Nat.le_refl _) _)) (by simp)
                      have HN2 := Lib.hid hN2; have HOV2 := Lib.hid hOV2
                      clear hN2 hOV2
                      go_wp2_with (first
                        | (refine wpList_load_flat rfl 31 (.tmp 93) rfl ⟨x2.heap.size, 2, none⟩ rfl [.int .i64 K, .int .i64 a0, .int .i64 a1, .int .i64 a2, .int .i64 a3, .int .i64 a4, .int .i64 a5, .int .i64 a6, .int .i64 a7] _ Try.underlying31 rfl (by kernel_rfl) HNo.out ?_)
                        | (refine wpList_load_flat rfl 31 (.tmp 95) rfl ⟨x2.heap.size, 11, none⟩ rfl [.int .i64 (-1), .int .i64 0, .int .i64 0, .int .i64 0, .int .i64 0, .int .i64 0, .int .i64 0, .int .i64 0, .int .i64 0] _ Try.underlying31 rfl (by kernel_rfl) HNn.out ?_)
                        | (refine wpList_load_flat rfl 36 (.tmp 7) rfl ⟨x2.heap.size, 0, none⟩ rfl [.int .i64 s, .int .i64 g, .int .i64 K, .int .i64 a0, .int .i64 a1, .int .i64 a2, .int .i64 a3, .int .i64 a4, .int .i64 a5, .int .i64 a6, .int .i64 a7, .int .i64 (-1), .int .i64 0, .int .i64 0, .int .i64 0, .int .i64 0, .int .i64 0, .int .i64 0, .int .i64 0, .int .i64 0] _ Try.underlying36 rfl (by kernel_rfl) HN3.out ?_)
                        | (refine wpList_build1 rfl 23 36 (.tmp 99) rfl [.int .i64 s, .int .i64 g, .int .i64 K, .int .i64 a0, .int .i64 a1, .int .i64 a2, .int .i64 a3, .int .i64 a4, .int .i64 a5, .int .i64 a6, .int .i64 a7, .int .i64 (-1), .int .i64 0, .int .i64 0, .int .i64 0, .int .i64 0, .int .i64 0, .int .i64 0, .int .i64 0, .int .i64 0] rfl Try.underlying23 inf_Change rfl (by omega) (by omega) ?_)
                        | (at_builtin; refine app_cg rfl _ _ rfl w.heap.size _ out ((s, g), (K, a0, a1, a2, a3, a4, a5, a6, a7), noneB) ⟨V9.heap.size, 0, none⟩ 1 rfl HOV2.out rfl HN2.out (by have := HLo.out; omega) (by have := HBV.out.size; simp; omega) ?_; intro v' w' hown' hg'))
                      have hb' : Below w.heap.size w w' := ((HBV.out.alloc HBV.out.size _).grown hg' (by have := HBV.out.size; simp; omega) (own_ge HOV2.out))
                      have Hown' := Lib.hid hown'; have Hb' := Lib.hid hb'
                      clear hown' hb'
                      clear hg'
                      go_wp2_with fail
                      go_roundw
                      case rel => exact ⟨m, a, (((t, u), (M, b0, b1, b2, b3, b4, b5, b6, b7)) :: b), A1', some ⟨bb, bo, none⟩, c1 - 1, c2, (out ++ [((s, g), (K, a0, a1, a2, a3, a4, a5, a6, a7), noneB)]), rfl, rfl, by have h1 := HC1.out; have h2 := HC2.out; have h3 := HLen.out; have h4 := HN.out; (try simp only [List.length_cons, List.length_nil, List.length_append] at *); omega, by have h1 := HC1.out; have h2 := HC2.out; have h3 := HLen.out; have h4 := HN.out; (try simp only [List.length_cons, List.length_nil, List.length_append] at *); omega, HL1'.out, HL2.out, Hown'.out, by have h1 := HC1.out; have h2 := HC2.out; have h3 := HLen.out; have h4 := HN.out; (try simp only [List.length_cons, List.length_nil, List.length_append] at *); omega, Hb'.out, by have h1 := HC1.out; have h2 := HC2.out; have h3 := HLen.out; have h4 := HN.out; (try simp only [List.length_cons, List.length_nil, List.length_append] at *); omega, Hmr.out⟩
                      case measure => simp [lenV] <;> omega

            | false =>
              cases hyx : ltH y.1 x.1 with
              | true =>
                obtain ⟨A1', hcut1, hL1'⟩ := rows_tail hL1 (by simpa using hc1)
                obtain ⟨ab, ao, rfl, hal, hcell⟩ := head_at hL1
                have hHd := fun V (hV : Below wr.heap.size wr V) => headAt_of (w := wr) (V := V) (fun j u hu => (hBr.cell (p := (⟨ab, ao, none⟩ : Addr).add j) (by rw [add_block]; exact hal)).trans (hcell j u hu)) (by omega) hV
                clear hcell
                obtain ⟨⟨s, g⟩, K, a0, a1, a2, a3, a4, a5, a6, a7⟩ := x
                obtain ⟨A2', hcut2, hL2'⟩ := rows_tail hL2 (by simpa using hc2)
                obtain ⟨bb, bo, rfl, hbl, hcell⟩ := head_at hL2
                have hHe := fun V (hV : Below wr.heap.size wr V) => headAt_of (w := wr) (V := V) (fun j u hu => (hBr.cell (p := (⟨bb, bo, none⟩ : Addr).add j) (by rw [add_block]; exact hbl)).trans (hcell j u hu)) (by omega) hV
                clear hcell
                obtain ⟨⟨t, u⟩, M, b0, b1, b2, b3, b4, b5, b6, b7⟩ := y
                have HLxy := Lib.hid hxy; have HLyx := Lib.hid hyx
                obtain ⟨m, rfl⟩ : ∃ m, n = m + 1 := ⟨n - 1, by simp only [List.length_cons] at hn; omega⟩
                have hst : mrgB (m + 1) (((s, g), (K, a0, a1, a2, a3, a4, a5, a6, a7)) :: a) (((t, u), (M, b0, b1, b2, b3, b4, b5, b6, b7)) :: b) = chg (t, u) noneB (M, b0, b1, b2, b3, b4, b5, b6, b7) ++ mrgB m (((s, g), (K, a0, a1, a2, a3, a4, a5, a6, a7)) :: a) b := by conv => { lhs; unfold mrgB }; rw [if_neg (by rw [show ltH _ _ = false from hxy]; simp), if_pos (by exact hyx)]
                rw [hst, ← List.append_assoc] at hmrg
                clear hst
                simp only [List.length_cons, List.length_nil, Nat.add_zero, Nat.zero_add] at hc1 hc2 hlen hn ⊢
                have hl1 : ((a.length + 1 : Nat) : Int) ≤ 120 := by omega
                have hl2 : ((b.length + 1 : Nat) : Int) ≤ 120 := by omega
                clear hxy hyx
                have HL1 := Lib.hid hL1; have HL2 := Lib.hid hL2; have Hown := Lib.hid hown; have HBr := Lib.hid hBr; have HMrg := Lib.hid hmrg; have HN := Lib.hid hn; have HLen := Lib.hid hlen; have HC1 := Lib.hid hc1; have HC2 := Lib.hid hc2; have HHd := Lib.hid hHd; have HL1' := Lib.hid hL1'; have HCut1 := Lib.hid hcut1; have HHe := Lib.hid hHe; have HL2' := Lib.hid hL2'; have HCut2 := Lib.hid hcut2
                clear hL1 hL2 hown hBr hmrg hn hlen hc1 hc2 hHd hL1' hcut1 hHe hL2' hcut2
                go_wp2_with fail
                refine (rNone_any _).mono ?_
                rintro e x1 ⟨rfl, hx1⟩
                rw [show beV noneB = .agg #[.int .i64 (-1), .int .i64 0, .int .i64 0, .int .i64 0, .int .i64 0, .int .i64 0, .int .i64 0, .int .i64 0, .int .i64 0] from rfl]
                have Hx1 := Lib.hid hx1
                clear hx1
                go_wp2_with fail
                refine (rNone_any _).mono ?_
                rintro e x2 ⟨rfl, hx2⟩
                rw [show beV noneB = .agg #[.int .i64 (-1), .int .i64 0, .int .i64 0, .int .i64 0, .int .i64 0, .int .i64 0, .int .i64 0, .int .i64 0, .int .i64 0] from rfl]
                have hx02 := Hx1.out.trans (hx2.mono Hx1.out.size)
                obtain ⟨w3, hw3, hb3, hz3, hs3⟩ := box1 x2 (.cells #[.int .i64 0, .int .i64 0, .int .i64 (-1), .int .i64 0, .int .i64 0, .int .i64 0, .int .i64 0, .int .i64 0, .int .i64 0, .int .i64 0, .int .i64 0, .int .i64 (-1), .int .i64 0, .int .i64 0, .int .i64 0, .int .i64 0, .int .i64 0, .int .i64 0, .int .i64 0, .int .i64 0] 36)
                have hb03 := hx02.trans (hb3.mono hx02.size)
                have hb32 := hb3
                have hhd := fun V (hV : Below w3.heap.size w3 V) => HHd.out V (hb03.trans (hV.mono hb03.size))
                have hhe := fun V (hV : Below w3.heap.size w3 V) => HHe.out V (hb03.trans (hV.mono hb03.size))
                have Hb03 := Lib.hid hb03; have Hz3 := Lib.hid hz3; have HW3 := Lib.hid hw3; have HS3 := Lib.hid hs3; have Hhd := Lib.hid hhd; have Hhe := Lib.hid hhe; have HB32 := Lib.hid hb32
                clear hb03 hz3 hw3 hs3 hhd hhe hb32
                have Hx02 := Lib.hid hx02
                clear hx2 hx02 hb3
                go_wp2_with (first | (refine wpList_store_new rfl 36 (.tmp 7) (.tmp 26) rfl _ (ints [0, 0, 0, 0, 0, 0, 0, 0, 0, 0, 0, 0, 0, 0, 0, 0, 0, 0, 0, 0]) [.int .i64 0, .int .i64 0, .int .i64 (-1), .int .i64 0, .int .i64 0, .int .i64 0, .int .i64 0, .int .i64 0, .int .i64 0, .int .i64 0, .int .i64 0, .int .i64 (-1), .int .i64 0, .int .i64 0, .int .i64 0, .int .i64 0, .int .i64 0, .int .i64 0, .int .i64 0, .int .i64 0] 36 rfl rfl rfl (by kernel_rfl) (cgC_one ((0, 0), noneB, noneB)) ?_) | fail)
                rw [HW3.out]
                refine wp_planK [] 21 [0] [some 27, some 28, some 29, some 30, some 31, some 32, some 33, some 34, some 35, some 36, some 37, some 38, some 39, some 40, some 41, some 42, some 43, some 44, some 45, some 46, some 8] [[], [0], [0, 1], [0, 1, 2], [0, 1, 2, 3], [0, 1, 2, 3, 4], [0, 1, 2, 3, 4, 5], [0, 1, 2, 3, 4, 5, 6], [0, 1, 2, 3, 4, 5, 6, 7], [0, 1, 2, 3, 4, 5, 6, 7, 8], [0, 1, 2, 3, 4, 5, 6, 7, 8, 9], [0, 1, 2, 3, 4, 5, 6, 7, 8, 9, 10], [0, 1, 2, 3, 4, 5, 6, 7], [0, 1, 2, 3, 4, 5, 6, 7, 12], [0, 1, 2, 3, 4, 5, 6, 7, 12, 13], [0, 1, 2, 3, 4, 5, 6, 7, 12, 13, 14], [0, 1, 2, 3, 4, 5, 6, 7, 8, 9, 10, 11, 12, 13, 14, 15], [0, 1, 2, 3, 4, 5, 6, 7, 8, 9, 10, 11, 12, 13, 14, 15, 16], [0, 1, 2, 3, 4, 5, 6, 7, 8, 9, 10, 11, 12, 13, 14, 15, 16, 17], [0, 1, 2, 3, 4, 5, 6, 7, 8, 9, 10, 11, 12, 13, 14, 15, 16, 17, 18], [0, 1, 2, 3, 4, 5, 6, 7, 8, 9, 10, 11, 12, 13, 14, 15, 16, 17, 18, 19]] [0, 1, 2, 3, 4, 5, 6, 7, 8, 9, 10, 11, 12, 13, 14, 15, 16, 17, 18, 19, 20] (fun Lf σ V => Below w3.heap.size w3 V) mixed rfl (by kernel_rfl) (by decide) (by decide) (by decide) below_drew rfl ?_
                iterate 21 apply Exists.intro
                refine ⟨rfl, ?_, ?_⟩
                · simp only [List.take_succ_cons, List.take_zero, AllFrom.cons_eq, AllFrom.nil_eq, OpGoalK]
                  refine ⟨?_, ?_, ?_, ?_, ?_, ?_, ?_, ?_, ?_, ?_, ?_, ?_, ?_, ?_, ?_, ?_, ?_, ?_, ?_, ?_, ?_, trivial⟩
                  all_goals (intro L' σ V h1 h2 h3 hI hp; have HA1 := Lib.hid h1; have HA2 := Lib.hid h2; have HA3 := Lib.hid h3; clear h1 h2 h3; (try simp only [List.getD_cons_zero, List.getD_cons_succ, preK_cons, preK_nil] at hp); (try simp only [List.not_mem_nil, false_or, and_true] at hp); (first | (have hq : True := hp; clear hq hp) | skip); have HI := Lib.hid hI; clear hI)
                  all_goals (
                    have hd := Hhd.out V HI.out
                    have qs := hd.s; have qg := hd.g; have ql := hd.lt
                    have he := Hhe.out V HI.out
                    have ps := he.s; have pg := he.g; have pl := he.lt
                    clear hd he)
                  · (go_simp; exact ⟨.inr rfl, HI.out⟩)
                  · (go_simp; exact ⟨.inr rfl, HI.out⟩)
                  · (go_simp; exact ⟨.inr rfl, HI.out⟩)
                  · (go_simp; exact ⟨.inr rfl, HI.out⟩)
                  · (go_simp; exact ⟨.inr rfl, HI.out⟩)
                  · (go_simp; exact ⟨.inr rfl, HI.out⟩)
                  · (go_simp; exact ⟨.inr rfl, HI.out⟩)
                  · (go_simp; exact ⟨.inr rfl, HI.out⟩)
                  · (go_simp; exact ⟨.inr rfl, HI.out⟩)
                  · (go_simp; exact ⟨.inr rfl, HI.out⟩)
                  · (go_simp; exact ⟨.inr rfl, HI.out⟩)
                  · (go_simp; exact ⟨.inr rfl, HI.out⟩)
                  · (go_simp; exact ⟨.inr rfl, HI.out⟩)
                  · (go_simp; exact ⟨.inr rfl, HI.out⟩)
                  · (go_simp; exact ⟨.inr rfl, HI.out⟩)
                  · (go_simp; exact ⟨.inr rfl, HI.out⟩)
                  · (go_simp; refine (less_any _ _ _ _ _).mono ?_; rintro e V2 ⟨rfl, hb⟩; rw [HLyx.out]; exact ⟨_, rfl, .inr rfl, HI.out.trans (hb.mono HI.out.size)⟩)
                  · (go_simp; exact ⟨.inr rfl, HI.out⟩)
                  · (go_simp; exact ⟨.inr rfl, HI.out⟩)
                  · (go_simp; exact ⟨.inr rfl, HI.out⟩)
                  · (go_simp; exact ⟨.inr rfl, HI.out⟩)
                · intro L' σ V h1 hI hp
                  clear h1
                  simp only [preK_cons, preK_nil, List.getD_cons_zero, List.getD_cons_succ] at hp; simp only [List.not_mem_nil, false_or, and_true] at hp
                  have HI := Lib.hid hI
                  clear hI
                  simp only [List.drop_succ_cons, List.drop_zero]
                  go_simp
                  clear hp
                  go_wp2_with fail
                  refine ⟨rfl, ?_⟩
                  go_wp2_with fail
                  refine wp_planK [] 21 [0] [some 47, some 48, some 49, some 50, some 51, some 52, some 53, some 54, some 55, some 56, some 57, some 58, some 59, some 60, some 61, some 62, some 63, some 64, some 65, some 66, some 9] [[], [0], [0, 1], [0, 1, 2], [0, 1, 2, 3], [0, 1, 2, 3, 4], [0, 1, 2, 3, 4, 5], [0, 1, 2, 3, 4, 5, 6], [0, 1, 2, 3, 4, 5, 6, 7], [0, 1, 2, 3, 4, 5, 6, 7, 8], [0, 1, 2, 3, 4, 5, 6, 7, 8, 9], [0, 1, 2, 3, 4, 5, 6, 7, 8, 9, 10], [0, 1, 2, 3, 4, 5, 6, 7], [0, 1, 2, 3, 4, 5, 6, 7, 12], [0, 1, 2, 3, 4, 5, 6, 7, 12, 13], [0, 1, 2, 3, 4, 5, 6, 7, 12, 13, 14], [0, 1, 2, 3, 4, 5, 6, 7, 8, 9, 10, 11, 12, 13, 14, 15], [0, 1, 2, 3, 4, 5, 6, 7, 8, 9, 10, 11, 12, 13, 14, 15, 16], [0, 1, 2, 3, 4, 5, 6, 7, 8, 9, 10, 11, 12, 13, 14, 15, 16, 17], [0, 1, 2, 3, 4, 5, 6, 7, 8, 9, 10, 11, 12, 13, 14, 15, 16, 17, 18], [0, 1, 2, 3, 4, 5, 6, 7, 8, 9, 10, 11, 12, 13, 14, 15, 16, 17, 18, 19]] [0, 1, 2, 3, 4, 5, 6, 7, 8, 9, 10, 11, 12, 13, 14, 15, 16, 17, 18, 19, 20] (fun Lf σ V => Below w3.heap.size w3 V) mixed rfl (by kernel_rfl) (by decide) (by decide) (by decide) HI.out.drew rfl ?_
                  iterate 21 apply Exists.intro
                  refine ⟨rfl, ?_, ?_⟩
                  · simp only [List.take_succ_cons, List.take_zero, AllFrom.cons_eq, AllFrom.nil_eq, OpGoalK]
                    refine ⟨?_, ?_, ?_, ?_, ?_, ?_, ?_, ?_, ?_, ?_, ?_, ?_, ?_, ?_, ?_, ?_, ?_, ?_, ?_, ?_, ?_, trivial⟩
                    all_goals (intro L' σ V h1 h2 h3 hI hp; have HA1 := Lib.hid h1; have HA2 := Lib.hid h2; have HA3 := Lib.hid h3; clear h1 h2 h3; (try simp only [List.getD_cons_zero, List.getD_cons_succ, preK_cons, preK_nil] at hp); (try simp only [List.not_mem_nil, false_or, and_true] at hp); (first | (have hq : True := hp; clear hq hp) | skip); have HI := Lib.hid hI; clear hI)
                    all_goals (
                      have hd := Hhd.out V HI.out
                      have qs := hd.s; have qg := hd.g; have ql := hd.lt
                      have he := Hhe.out V HI.out
                      have ps := he.s; have pg := he.g; have pl := he.lt
                      clear hd he)
                    · (go_simp; exact ⟨.inr rfl, HI.out⟩)
                    · (go_simp; exact ⟨.inr rfl, HI.out⟩)
                    · (go_simp; exact ⟨.inr rfl, HI.out⟩)
                    · (go_simp; exact ⟨.inr rfl, HI.out⟩)
                    · (go_simp; exact ⟨.inr rfl, HI.out⟩)
                    · (go_simp; exact ⟨.inr rfl, HI.out⟩)
                    · (go_simp; exact ⟨.inr rfl, HI.out⟩)
                    · (go_simp; exact ⟨.inr rfl, HI.out⟩)
                    · (go_simp; exact ⟨.inr rfl, HI.out⟩)
                    · (go_simp; exact ⟨.inr rfl, HI.out⟩)
                    · (go_simp; exact ⟨.inr rfl, HI.out⟩)
                    · (go_simp; exact ⟨.inr rfl, HI.out⟩)
                    · (go_simp; exact ⟨.inr rfl, HI.out⟩)
                    · (go_simp; exact ⟨.inr rfl, HI.out⟩)
                    · (go_simp; exact ⟨.inr rfl, HI.out⟩)
                    · (go_simp; exact ⟨.inr rfl, HI.out⟩)
                    · (go_simp; refine (less_any _ _ _ _ _).mono ?_; rintro e V2 ⟨rfl, hb⟩; rw [HLxy.out]; exact ⟨_, rfl, .inr rfl, HI.out.trans (hb.mono HI.out.size)⟩)
                    · (go_simp; exact ⟨.inr rfl, HI.out⟩)
                    · (go_simp; exact ⟨.inr rfl, HI.out⟩)
                    · (go_simp; exact ⟨.inr rfl, HI.out⟩)
                    · (go_simp; exact ⟨.inr rfl, HI.out⟩)
                  · intro L' σ V7 h1 hI hp
                    clear h1
                    simp only [preK_cons, preK_nil, List.getD_cons_zero, List.getD_cons_succ] at hp; simp only [List.not_mem_nil, false_or, and_true] at hp
                    have HI7 := Lib.hid hI
                    clear hI
                    simp only [List.drop_succ_cons, List.drop_zero]
                    go_simp
                    clear hp
                    go_wp2_with fail
                    refine ⟨rfl, ?_⟩
                    go_wp2_with fail
                    have hst12 : ISt 9 11 x2 x2.heap.size 36 (fun z1 z2 => cgC (if z1 then (t, u) else (0, 0), noneB, if z2 then (M, b0, b1, b2, b3, b4, b5, b6, b7) else noneB)) (fun _ => false) V7.drew :=
                      ⟨(HB32.out.trans (HI7.out.mono HB32.out.size)).drew, Nat.le_refl _, blk_drew ((Mod.ofBelow HI7.out).keep Hz3.out (by simp))⟩
                    have Hst12 := Lib.hid hst12
                    clear hst12
                    refine wp_planK [] 12 [0, 4] [some 81, some 82, some 83, some 84, some 85, some 86, some 87, some 88, some 89, none, some 90, none] [[], [0], [0, 1], [0, 1, 2], [], [4], [4, 5], [4, 5, 6], [0, 1, 2, 3], [0, 1, 2, 3, 8], [0, 1, 2, 3, 4, 5, 6, 7, 8, 9], [0, 1, 2, 3, 4, 5, 6, 7, 8, 9, 10]] [0, 1, 2, 3, 4, 5, 6, 7, 8, 9, 10, 11] (fun Lf σ V => ISt 9 11 x2 x2.heap.size 36 (fun z1 z2 => cgC (if z1 then (t, u) else (0, 0), noneB, if z2 then (M, b0, b1, b2, b3, b4, b5, b6, b7) else noneB)) Lf V) mixed rfl (by kernel_rfl) (by decide) (by decide) (by decide) Hst12.out rfl ?_
                    iterate 12 apply Exists.intro
                    refine ⟨rfl, ?_, ?_⟩
                    · simp only [List.take_succ_cons, List.take_zero, AllFrom.cons_eq, AllFrom.nil_eq, OpGoalK]
                      refine ⟨?_, ?_, ?_, ?_, ?_, ?_, ?_, ?_, ?_, ?_, ?_, ?_, trivial⟩
                      all_goals (intro L' σ V h1 h2 h3 hI hp; have HA1 := Lib.hid h1; have HA2 := Lib.hid h2; have HA3 := Lib.hid h3; clear h1 h2 h3; (try simp only [List.getD_cons_zero, List.getD_cons_succ, preK_cons, preK_nil] at hp); (try simp only [List.not_mem_nil, false_or, and_true] at hp); (first | (have hq : True := hp; clear hq hp) | skip); have HI := Lib.hid hI; clear hI)
                      all_goals (
                        have hd := HHe.out V (Hx02.out.trans (HI.out.b.mono Hx02.out.size))
                        have qs := hd.s; have qg := hd.g; have ql := hd.lt
                        have t0 : V.cell? ⟨bb, bo + 2, none⟩ = some (.int .i64 M) := by have h := hd.bt 0 _ rfl; rw [Addr.add_mid] at h; exact h
                        have t1 : V.cell? ⟨bb, bo + 3, none⟩ = some (.int .i64 b0) := by have h := hd.bt 1 _ rfl; rw [Addr.add_mid] at h; exact h
                        have t2 : V.cell? ⟨bb, bo + 4, none⟩ = some (.int .i64 b1) := by have h := hd.bt 2 _ rfl; rw [Addr.add_mid] at h; exact h
                        have t3 : V.cell? ⟨bb, bo + 5, none⟩ = some (.int .i64 b2) := by have h := hd.bt 3 _ rfl; rw [Addr.add_mid] at h; exact h
                        have t4 : V.cell? ⟨bb, bo + 6, none⟩ = some (.int .i64 b3) := by have h := hd.bt 4 _ rfl; rw [Addr.add_mid] at h; exact h
                        have t5 : V.cell? ⟨bb, bo + 7, none⟩ = some (.int .i64 b4) := by have h := hd.bt 5 _ rfl; rw [Addr.add_mid] at h; exact h
                        have t6 : V.cell? ⟨bb, bo + 8, none⟩ = some (.int .i64 b5) := by have h := hd.bt 6 _ rfl; rw [Addr.add_mid] at h; exact h
                        have t7 : V.cell? ⟨bb, bo + 9, none⟩ = some (.int .i64 b6) := by have h := hd.bt 7 _ rfl; rw [Addr.add_mid] at h; exact h
                        have t8 : V.cell? ⟨bb, bo + 10, none⟩ = some (.int .i64 b7) := by have h := hd.bt 8 _ rfl; rw [Addr.add_mid] at h; exact h
                        clear hd)
                      · (go_simp; exact ⟨.inr rfl, HI.out.read (by decide) (by decide)⟩)
                      · (go_simp; exact ⟨.inr rfl, HI.out.read (by decide) (by decide)⟩)
                      · (go_simp; exact ⟨.inr rfl, HI.out.read (by decide) (by decide)⟩)
                      · (go_simp; exact ⟨.inr rfl, HI.out.read (by decide) (by decide)⟩)
                      · (go_simp; exact ⟨.inr rfl, HI.out.read (by decide) (by decide)⟩)
                      · (go_simp; exact ⟨.inr rfl, HI.out.read (by decide) (by decide)⟩)
                      · (go_simp; exact ⟨.inr rfl, HI.out.read (by decide) (by decide)⟩)
                      · (go_simp; exact ⟨.inr rfl, HI.out.read (by decide) (by decide)⟩)
                      · (go_simp; exact ⟨.inr rfl, HI.out.read (by decide) (by decide)⟩)
                      · simp only [wantedL_none, if_true, Nat.reduceAdd, Nat.zero_add]
                        have x3 := HA1.out
                        simp only [Nat.reduceAdd, Nat.zero_add] at x3
                        generalize hρ : Act.eval _ = ρ
                        refine HI.out.yr1 x3 (by decide) 0 (handleC (t, u)) 28 (.tmp 89) (.tmp 84) rfl ?_ ?_ (fun b => by rw [cgC_len, handleC_len]; omega) (by kernel_rfl) (handleC_one _) (fun b => by cases b <;> exact setL_at _ _) (fun V' hV' => PostK.mk (c := undef) (.inr rfl) hV')
                        · rw [← hρ]; go_simp
                        · rw [← hρ]; go_simp; rfl
                      · (go_simp; exact ⟨.inr rfl, HI.out.read (by decide) (by decide)⟩)
                      · simp only [wantedL_none, if_true, Nat.reduceAdd, Nat.zero_add]
                        have x3 := HA1.out
                        simp only [Nat.reduceAdd, Nat.zero_add] at x3
                        generalize hρ : Act.eval _ = ρ
                        refine HI.out.yr2 x3 (by decide) 11 (btC (M, b0, b1, b2, b3, b4, b5, b6, b7)) 31 (.tmp 90) (.tmp 88) rfl ?_ ?_ (fun b => by rw [cgC_len]; exact of_decide_eq_true rfl) (by kernel_rfl) (ints_one _) (fun b => by cases b <;> exact setL_now _ _) (fun V' hV' => PostK.mk (c := undef) (.inr rfl) hV')
                        · rw [← hρ]; go_simp
                        · rw [← hρ]; go_simp; rfl
                    · intro L12 σ12 V12 h1 hI hp
                      have hst := hI.blk
                      simp only [h1 9 (by decide), h1 11 (by decide), if_true] at hst
                      have hb9 := hI.b
                      simp only [preK_cons, preK_nil, List.getD_cons_zero, List.getD_cons_succ] at hp; simp only [List.not_mem_nil, false_or, and_true] at hp
                      have HstB := Lib.hid hst; have HB12 := Lib.hid hb9
                      clear hst hb9
                      have hcut2 := HCut2.out
                      clear h1 hI
                      simp only [List.drop_succ_cons, List.drop_zero]
                      go_simp
                      clear hp
                      go_wp2_with fail
                      refine ⟨rfl, ?_⟩
                      have hNo := blk_piece HstB.out 2 (btC noneB) (cg_old ((t, u), noneB, (M, b0, b1, b2, b3, b4, b5, b6, b7)))
                      have hNn := blk_piece HstB.out 11 (btC (M, b0, b1, b2, b3, b4, b5, b6, b7)) (cg_now ((t, u), noneB, (M, b0, b1, b2, b3, b4, b5, b6, b7)))
                      have hN3 := blk_piece HstB.out 0 (cgC ((t, u), noneB, (M, b0, b1, b2, b3, b4, b5, b6, b7))) (fun j u hu => by rw [Nat.zero_add]; exact hu)
                      have hcmp := fun w => neqBeast w noneB (M, b0, b1, b2, b3, b4, b5, b6, b7)
                      simp only [show (btC noneB).toArray = #[.int .i64 (-1), .int .i64 0, .int .i64 0, .int .i64 0, .int .i64 0, .int .i64 0, .int .i64 0, .int .i64 0, .int .i64 0] from rfl, show (btC (M, b0, b1, b2, b3, b4, b5, b6, b7)).toArray = #[.int .i64 M, .int .i64 b0, .int .i64 b1, .int .i64 b2, .int .i64 b3, .int .i64 b4, .int .i64 b5, .int .i64 b6, .int .i64 b7] from rfl] at hcmp
                      have hbrV := Hx02.out.trans (HB12.out.mono Hx02.out.size)
                      have hbV := HBr.out.trans (hbrV.mono HBr.out.size)
                      have hOV := row_mod Hown.out (Mod.ofBelow hbrV) (by simp)
                      have hlo : out.length ≤ 120 := by have := HLen.out; omega
                      have HNo := Lib.hid hNo; have HNn := Lib.hid hNn; have HN3 := Lib.hid hN3; have HBV := Lib.hid hbV; have HOV := Lib.hid hOV; have HLo := Lib.hid hlo
                      clear hNo hNn hN3 hbV hOV hlo
                      clear hbrV
                      cases he : eqB noneB (M, b0, b1, b2, b3, b4, b5, b6, b7) with
                      | true =>
                        rw [he] at hcmp
                        have Hmr := Lib.hid (show out ++ mrgB m (((s, g), (K, a0, a1, a2, a3, a4, a5, a6, a7)) :: a) b = mrgB (la.length + lb.length) la lb from by have h := HMrg.out; unfold chg at h; rw [if_pos he, List.append_nil] at h; exact h)
                        clear he
                        go_wp2_with (first
                          | (refine wpList_load_flat rfl 31 (.tmp 93) rfl ⟨x2.heap.size, 2, none⟩ rfl [.int .i64 (-1), .int .i64 0, .int .i64 0, .int .i64 0, .int .i64 0, .int .i64 0, .int .i64 0, .int .i64 0, .int .i64 0] _ Try.underlying31 rfl (by kernel_rfl) HNo.out ?_)
                          | (refine wpList_load_flat rfl 31 (.tmp 95) rfl ⟨x2.heap.size, 11, none⟩ rfl [.int .i64 M, .int .i64 b0, .int .i64 b1, .int .i64 b2, .int .i64 b3, .int .i64 b4, .int .i64 b5, .int .i64 b6, .int .i64 b7] _ Try.underlying31 rfl (by kernel_rfl) HNn.out ?_))
                        go_roundw
                        case rel => exact ⟨m, (((s, g), (K, a0, a1, a2, a3, a4, a5, a6, a7)) :: a), b, some ⟨ab, ao, none⟩, A2', c1, c2 - 1, out, rfl, rfl, by have h1 := HC1.out; have h2 := HC2.out; have h3 := HLen.out; have h4 := HN.out; (try simp only [List.length_cons, List.length_nil, List.length_append] at *); omega, by have h1 := HC1.out; have h2 := HC2.out; have h3 := HLen.out; have h4 := HN.out; (try simp only [List.length_cons, List.length_nil, List.length_append] at *); omega, HL1.out, HL2'.out, HOV.out, by have h1 := HC1.out; have h2 := HC2.out; have h3 := HLen.out; have h4 := HN.out; (try simp only [List.length_cons, List.length_nil, List.length_append] at *); omega, HBV.out, by have h1 := HC1.out; have h2 := HC2.out; have h3 := HLen.out; have h4 := HN.out; (try simp only [List.length_cons, List.length_nil, List.length_append] at *); omega, Hmr.out⟩
                        case measure => simp [lenV] <;> omega
                      | false =>
                        rw [he] at hcmp
                        have Hmr := Lib.hid (show (out ++ [((t, u), noneB, (M, b0, b1, b2, b3, b4, b5, b6, b7))]) ++ mrgB m (((s, g), (K, a0, a1, a2, a3, a4, a5, a6, a7)) :: a) b = mrgB (la.length + lb.length) la lb from by have h := HMrg.out; unfold chg at h; rw [if_neg (by rw [he]; simp)] at h; exact h)
                        clear he
                        have hN2 := new_rec (w := V12) (cs := #[.int .i64 t, .int .i64 u, .int .i64 (-1), .int .i64 0, .int .i64 0, .int .i64 0, .int .i64 0, .int .i64 0, .int .i64 0, .int .i64 0, .int .i64 0, .int .i64 M, .int .i64 b0, .int .i64 b1, .int .i64 b2, .int .i64 b3, .int .i64 b4, .int .i64 b5, .int .i64 b6, .int .i64 b7]) (t := 36) (n := V12.heap.size) (xs := cgC ((t, u), noneB, (M, b0, b1, b2, b3, b4, b5, b6, b7))) rfl rfl
                        have hOV2 : ownC (V12.alloc (.cells #[.int .i64 t, .int .i64 u, .int .i64 (-1), .int .i64 0, .int .i64 0, .int .i64 0, .int .i64 0, .int .i64 0, .int .i64 0, .int .i64 0, .int .i64 0, .int .i64 M, .int .i64 b0, .int .i64 b1, .int .i64 b2, .int .i64 b3, .int .i64 b4, .int .i64 b5, .int .i64 b6, .int .i64 b7] 36)) w.heap.size _ out := row_mod HOV.out (Mod.ofBelow ((Below.refl _ V12).alloc (Nat.le_refl _) _)) (by simp)
                        have HN2 := Lib.hid hN2; have HOV2 := Lib.hid hOV2
                        clear hN2 hOV2
                        go_wp2_with (first
                          | (refine wpList_load_flat rfl 31 (.tmp 93) rfl ⟨x2.heap.size, 2, none⟩ rfl [.int .i64 (-1), .int .i64 0, .int .i64 0, .int .i64 0, .int .i64 0, .int .i64 0, .int .i64 0, .int .i64 0, .int .i64 0] _ Try.underlying31 rfl (by kernel_rfl) HNo.out ?_)
                          | (refine wpList_load_flat rfl 31 (.tmp 95) rfl ⟨x2.heap.size, 11, none⟩ rfl [.int .i64 M, .int .i64 b0, .int .i64 b1, .int .i64 b2, .int .i64 b3, .int .i64 b4, .int .i64 b5, .int .i64 b6, .int .i64 b7] _ Try.underlying31 rfl (by kernel_rfl) HNn.out ?_)
                          | (refine wpList_load_flat rfl 36 (.tmp 7) rfl ⟨x2.heap.size, 0, none⟩ rfl [.int .i64 t, .int .i64 u, .int .i64 (-1), .int .i64 0, .int .i64 0, .int .i64 0, .int .i64 0, .int .i64 0, .int .i64 0, .int .i64 0, .int .i64 0, .int .i64 M, .int .i64 b0, .int .i64 b1, .int .i64 b2, .int .i64 b3, .int .i64 b4, .int .i64 b5, .int .i64 b6, .int .i64 b7] _ Try.underlying36 rfl (by kernel_rfl) HN3.out ?_)
                          | (refine wpList_build1 rfl 23 36 (.tmp 99) rfl [.int .i64 t, .int .i64 u, .int .i64 (-1), .int .i64 0, .int .i64 0, .int .i64 0, .int .i64 0, .int .i64 0, .int .i64 0, .int .i64 0, .int .i64 0, .int .i64 M, .int .i64 b0, .int .i64 b1, .int .i64 b2, .int .i64 b3, .int .i64 b4, .int .i64 b5, .int .i64 b6, .int .i64 b7] rfl Try.underlying23 inf_Change rfl (by omega) (by omega) ?_)
                          | (at_builtin; refine app_cg rfl _ _ rfl w.heap.size _ out ((t, u), noneB, (M, b0, b1, b2, b3, b4, b5, b6, b7)) ⟨V12.heap.size, 0, none⟩ 1 rfl HOV2.out rfl HN2.out (by have := HLo.out; omega) (by have := HBV.out.size; simp; omega) ?_; intro v' w' hown' hg'))
                        have hb' : Below w.heap.size w w' := ((HBV.out.alloc HBV.out.size _).grown hg' (by have := HBV.out.size; simp; omega) (own_ge HOV2.out))
                        have Hown' := Lib.hid hown'; have Hb' := Lib.hid hb'
                        clear hown' hb'
                        clear hg'
                        go_wp2_with fail
                        go_roundw
                        case rel => exact ⟨m, (((s, g), (K, a0, a1, a2, a3, a4, a5, a6, a7)) :: a), b, some ⟨ab, ao, none⟩, A2', c1, c2 - 1, (out ++ [((t, u), noneB, (M, b0, b1, b2, b3, b4, b5, b6, b7))]), rfl, rfl, by have h1 := HC1.out; have h2 := HC2.out; have h3 := HLen.out; have h4 := HN.out; (try simp only [List.length_cons, List.length_nil, List.length_append] at *); omega, by have h1 := HC1.out; have h2 := HC2.out; have h3 := HLen.out; have h4 := HN.out; (try simp only [List.length_cons, List.length_nil, List.length_append] at *); omega, HL1.out, HL2'.out, Hown'.out, by have h1 := HC1.out; have h2 := HC2.out; have h3 := HLen.out; have h4 := HN.out; (try simp only [List.length_cons, List.length_nil, List.length_append] at *); omega, Hb'.out, by have h1 := HC1.out; have h2 := HC2.out; have h3 := HLen.out; have h4 := HN.out; (try simp only [List.length_cons, List.length_nil, List.length_append] at *); omega, Hmr.out⟩
                        case measure => simp [lenV] <;> omega

              | false =>
                obtain ⟨A1', hcut1, hL1'⟩ := rows_tail hL1 (by simpa using hc1)
                obtain ⟨ab, ao, rfl, hal, hcell⟩ := head_at hL1
                have hHd := fun V (hV : Below wr.heap.size wr V) => headAt_of (w := wr) (V := V) (fun j u hu => (hBr.cell (p := (⟨ab, ao, none⟩ : Addr).add j) (by rw [add_block]; exact hal)).trans (hcell j u hu)) (by omega) hV
                clear hcell
                obtain ⟨⟨s, g⟩, K, a0, a1, a2, a3, a4, a5, a6, a7⟩ := x
                obtain ⟨A2', hcut2, hL2'⟩ := rows_tail hL2 (by simpa using hc2)
                obtain ⟨bb, bo, rfl, hbl, hcell⟩ := head_at hL2
                have hHe := fun V (hV : Below wr.heap.size wr V) => headAt_of (w := wr) (V := V) (fun j u hu => (hBr.cell (p := (⟨bb, bo, none⟩ : Addr).add j) (by rw [add_block]; exact hbl)).trans (hcell j u hu)) (by omega) hV
                clear hcell
                obtain ⟨⟨t, u⟩, M, b0, b1, b2, b3, b4, b5, b6, b7⟩ := y
                have e0 : (s, g) = (t, u) := ltH_tri hxy hyx
                obtain ⟨rfl, rfl⟩ := Prod.mk.inj e0
                clear e0
                have HLxy := Lib.hid hxy; have HLyx := Lib.hid hyx
                obtain ⟨m, rfl⟩ : ∃ m, n = m + 1 := ⟨n - 1, by simp only [List.length_cons] at hn; omega⟩
                have hst : mrgB (m + 1) (((s, g), (K, a0, a1, a2, a3, a4, a5, a6, a7)) :: a) (((s, g), (M, b0, b1, b2, b3, b4, b5, b6, b7)) :: b) = chg (s, g) (K, a0, a1, a2, a3, a4, a5, a6, a7) (M, b0, b1, b2, b3, b4, b5, b6, b7) ++ mrgB m a b := by conv => { lhs; unfold mrgB }; rw [if_neg (by rw [show ltH _ _ = false from hxy]; simp), if_neg (by rw [show ltH _ _ = false from hyx]; simp)]
                rw [hst, ← List.append_assoc] at hmrg
                clear hst
                simp only [List.length_cons, List.length_nil, Nat.add_zero, Nat.zero_add] at hc1 hc2 hlen hn ⊢
                have hl1 : ((a.length + 1 : Nat) : Int) ≤ 120 := by omega
                have hl2 : ((b.length + 1 : Nat) : Int) ≤ 120 := by omega
                clear hxy hyx
                have HL1 := Lib.hid hL1; have HL2 := Lib.hid hL2; have Hown := Lib.hid hown; have HBr := Lib.hid hBr; have HMrg := Lib.hid hmrg; have HN := Lib.hid hn; have HLen := Lib.hid hlen; have HC1 := Lib.hid hc1; have HC2 := Lib.hid hc2; have HHd := Lib.hid hHd; have HL1' := Lib.hid hL1'; have HCut1 := Lib.hid hcut1; have HHe := Lib.hid hHe; have HL2' := Lib.hid hL2'; have HCut2 := Lib.hid hcut2
                clear hL1 hL2 hown hBr hmrg hn hlen hc1 hc2 hHd hL1' hcut1 hHe hL2' hcut2
                go_wp2_with fail
                refine (rNone_any _).mono ?_
                rintro e x1 ⟨rfl, hx1⟩
                rw [show beV noneB = .agg #[.int .i64 (-1), .int .i64 0, .int .i64 0, .int .i64 0, .int .i64 0, .int .i64 0, .int .i64 0, .int .i64 0, .int .i64 0] from rfl]
                have Hx1 := Lib.hid hx1
                clear hx1
                go_wp2_with fail
                refine (rNone_any _).mono ?_
                rintro e x2 ⟨rfl, hx2⟩
                rw [show beV noneB = .agg #[.int .i64 (-1), .int .i64 0, .int .i64 0, .int .i64 0, .int .i64 0, .int .i64 0, .int .i64 0, .int .i64 0, .int .i64 0] from rfl]
                have hx02 := Hx1.out.trans (hx2.mono Hx1.out.size)
                obtain ⟨w3, hw3, hb3, hz3, hs3⟩ := box1 x2 (.cells #[.int .i64 0, .int .i64 0, .int .i64 (-1), .int .i64 0, .int .i64 0, .int .i64 0, .int .i64 0, .int .i64 0, .int .i64 0, .int .i64 0, .int .i64 0, .int .i64 (-1), .int .i64 0, .int .i64 0, .int .i64 0, .int .i64 0, .int .i64 0, .int .i64 0, .int .i64 0, .int .i64 0] 36)
                have hb03 := hx02.trans (hb3.mono hx02.size)
                have hb32 := hb3
                have hhd := fun V (hV : Below w3.heap.size w3 V) => HHd.out V (hb03.trans (hV.mono hb03.size))
                have hhe := fun V (hV : Below w3.heap.size w3 V) => HHe.out V (hb03.trans (hV.mono hb03.size))
                have Hb03 := Lib.hid hb03; have Hz3 := Lib.hid hz3; have HW3 := Lib.hid hw3; have HS3 := Lib.hid hs3; have Hhd := Lib.hid hhd; have Hhe := Lib.hid hhe; have HB32 := Lib.hid hb32
                clear hb03 hz3 hw3 hs3 hhd hhe hb32
                have Hx02 := Lib.hid hx02
                clear hx2 hx02 hb3
                go_wp2_with (first | (refine wpList_store_new rfl 36 (.tmp 7) (.tmp 26) rfl _ (ints [0, 0, 0, 0, 0, 0, 0, 0, 0, 0, 0, 0, 0, 0, 0, 0, 0, 0, 0, 0]) [.int .i64 0, .int .i64 0, .int .i64 (-1), .int .i64 0, .int .i64 0, .int .i64 0, .int .i64 0, .int .i64 0, .int .i64 0, .int .i64 0, .int .i64 0, .int .i64 (-1), .int .i64 0, .int .i64 0, .int .i64 0, .int .i64 0, .int .i64 0, .int .i64 0, .int .i64 0, .int .i64 0] 36 rfl rfl rfl (by kernel_rfl) (cgC_one ((0, 0), noneB, noneB)) ?_) | fail)
                rw [HW3.out]
                refine wp_planK [] 21 [0] [some 27, some 28, some 29, some 30, some 31, some 32, some 33, some 34, some 35, some 36, some 37, some 38, some 39, some 40, some 41, some 42, some 43, some 44, some 45, some 46, some 8] [[], [0], [0, 1], [0, 1, 2], [0, 1, 2, 3], [0, 1, 2, 3, 4], [0, 1, 2, 3, 4, 5], [0, 1, 2, 3, 4, 5, 6], [0, 1, 2, 3, 4, 5, 6, 7], [0, 1, 2, 3, 4, 5, 6, 7, 8], [0, 1, 2, 3, 4, 5, 6, 7, 8, 9], [0, 1, 2, 3, 4, 5, 6, 7, 8, 9, 10], [0, 1, 2, 3, 4, 5, 6, 7], [0, 1, 2, 3, 4, 5, 6, 7, 12], [0, 1, 2, 3, 4, 5, 6, 7, 12, 13], [0, 1, 2, 3, 4, 5, 6, 7, 12, 13, 14], [0, 1, 2, 3, 4, 5, 6, 7, 8, 9, 10, 11, 12, 13, 14, 15], [0, 1, 2, 3, 4, 5, 6, 7, 8, 9, 10, 11, 12, 13, 14, 15, 16], [0, 1, 2, 3, 4, 5, 6, 7, 8, 9, 10, 11, 12, 13, 14, 15, 16, 17], [0, 1, 2, 3, 4, 5, 6, 7, 8, 9, 10, 11, 12, 13, 14, 15, 16, 17, 18], [0, 1, 2, 3, 4, 5, 6, 7, 8, 9, 10, 11, 12, 13, 14, 15, 16, 17, 18, 19]] [0, 1, 2, 3, 4, 5, 6, 7, 8, 9, 10, 11, 12, 13, 14, 15, 16, 17, 18, 19, 20] (fun Lf σ V => Below w3.heap.size w3 V) mixed rfl (by kernel_rfl) (by decide) (by decide) (by decide) below_drew rfl ?_
                iterate 21 apply Exists.intro
                refine ⟨rfl, ?_, ?_⟩
                · simp only [List.take_succ_cons, List.take_zero, AllFrom.cons_eq, AllFrom.nil_eq, OpGoalK]
                  refine ⟨?_, ?_, ?_, ?_, ?_, ?_, ?_, ?_, ?_, ?_, ?_, ?_, ?_, ?_, ?_, ?_, ?_, ?_, ?_, ?_, ?_, trivial⟩
                  all_goals (intro L' σ V h1 h2 h3 hI hp; have HA1 := Lib.hid h1; have HA2 := Lib.hid h2; have HA3 := Lib.hid h3; clear h1 h2 h3; (try simp only [List.getD_cons_zero, List.getD_cons_succ, preK_cons, preK_nil] at hp); (try simp only [List.not_mem_nil, false_or, and_true] at hp); (first | (have hq : True := hp; clear hq hp) | skip); have HI := Lib.hid hI; clear hI)
                  all_goals (
                    have hd := Hhd.out V HI.out
                    have qs := hd.s; have qg := hd.g; have ql := hd.lt
                    have he := Hhe.out V HI.out
                    have ps := he.s; have pg := he.g; have pl := he.lt
                    clear hd he)
                  · (go_simp; exact ⟨.inr rfl, HI.out⟩)
                  · (go_simp; exact ⟨.inr rfl, HI.out⟩)
                  · (go_simp; exact ⟨.inr rfl, HI.out⟩)
                  · (go_simp; exact ⟨.inr rfl, HI.out⟩)
                  · (go_simp; exact ⟨.inr rfl, HI.out⟩)
                  · (go_simp; exact ⟨.inr rfl, HI.out⟩)
                  · (go_simp; exact ⟨.inr rfl, HI.out⟩)
                  · (go_simp; exact ⟨.inr rfl, HI.out⟩)
                  · (go_simp; exact ⟨.inr rfl, HI.out⟩)
                  · (go_simp; exact ⟨.inr rfl, HI.out⟩)
                  · (go_simp; exact ⟨.inr rfl, HI.out⟩)
                  · (go_simp; exact ⟨.inr rfl, HI.out⟩)
                  · (go_simp; exact ⟨.inr rfl, HI.out⟩)
                  · (go_simp; exact ⟨.inr rfl, HI.out⟩)
                  · (go_simp; exact ⟨.inr rfl, HI.out⟩)
                  · (go_simp; exact ⟨.inr rfl, HI.out⟩)
                  · (go_simp; refine (less_any _ _ _ _ _).mono ?_; rintro e V2 ⟨rfl, hb⟩; rw [HLyx.out]; exact ⟨_, rfl, .inr rfl, HI.out.trans (hb.mono HI.out.size)⟩)
                  · (go_simp; exact ⟨.inr rfl, HI.out⟩)
                  · (go_simp; exact ⟨.inr rfl, HI.out⟩)
                  · (go_simp; exact ⟨.inr rfl, HI.out⟩)
                  · (go_simp; exact ⟨.inr rfl, HI.out⟩)
                · intro L' σ V h1 hI hp
                  clear h1
                  simp only [preK_cons, preK_nil, List.getD_cons_zero, List.getD_cons_succ] at hp; simp only [List.not_mem_nil, false_or, and_true] at hp
                  have HI := Lib.hid hI
                  clear hI
                  simp only [List.drop_succ_cons, List.drop_zero]
                  go_simp
                  clear hp
                  go_wp2_with fail
                  refine ⟨rfl, ?_⟩
                  go_wp2_with fail
                  refine wp_planK [] 21 [0] [some 47, some 48, some 49, some 50, some 51, some 52, some 53, some 54, some 55, some 56, some 57, some 58, some 59, some 60, some 61, some 62, some 63, some 64, some 65, some 66, some 9] [[], [0], [0, 1], [0, 1, 2], [0, 1, 2, 3], [0, 1, 2, 3, 4], [0, 1, 2, 3, 4, 5], [0, 1, 2, 3, 4, 5, 6], [0, 1, 2, 3, 4, 5, 6, 7], [0, 1, 2, 3, 4, 5, 6, 7, 8], [0, 1, 2, 3, 4, 5, 6, 7, 8, 9], [0, 1, 2, 3, 4, 5, 6, 7, 8, 9, 10], [0, 1, 2, 3, 4, 5, 6, 7], [0, 1, 2, 3, 4, 5, 6, 7, 12], [0, 1, 2, 3, 4, 5, 6, 7, 12, 13], [0, 1, 2, 3, 4, 5, 6, 7, 12, 13, 14], [0, 1, 2, 3, 4, 5, 6, 7, 8, 9, 10, 11, 12, 13, 14, 15], [0, 1, 2, 3, 4, 5, 6, 7, 8, 9, 10, 11, 12, 13, 14, 15, 16], [0, 1, 2, 3, 4, 5, 6, 7, 8, 9, 10, 11, 12, 13, 14, 15, 16, 17], [0, 1, 2, 3, 4, 5, 6, 7, 8, 9, 10, 11, 12, 13, 14, 15, 16, 17, 18], [0, 1, 2, 3, 4, 5, 6, 7, 8, 9, 10, 11, 12, 13, 14, 15, 16, 17, 18, 19]] [0, 1, 2, 3, 4, 5, 6, 7, 8, 9, 10, 11, 12, 13, 14, 15, 16, 17, 18, 19, 20] (fun Lf σ V => Below w3.heap.size w3 V) mixed rfl (by kernel_rfl) (by decide) (by decide) (by decide) HI.out.drew rfl ?_
                  iterate 21 apply Exists.intro
                  refine ⟨rfl, ?_, ?_⟩
                  · simp only [List.take_succ_cons, List.take_zero, AllFrom.cons_eq, AllFrom.nil_eq, OpGoalK]
                    refine ⟨?_, ?_, ?_, ?_, ?_, ?_, ?_, ?_, ?_, ?_, ?_, ?_, ?_, ?_, ?_, ?_, ?_, ?_, ?_, ?_, ?_, trivial⟩
                    all_goals (intro L' σ V h1 h2 h3 hI hp; have HA1 := Lib.hid h1; have HA2 := Lib.hid h2; have HA3 := Lib.hid h3; clear h1 h2 h3; (try simp only [List.getD_cons_zero, List.getD_cons_succ, preK_cons, preK_nil] at hp); (try simp only [List.not_mem_nil, false_or, and_true] at hp); (first | (have hq : True := hp; clear hq hp) | skip); have HI := Lib.hid hI; clear hI)
                    all_goals (
                      have hd := Hhd.out V HI.out
                      have qs := hd.s; have qg := hd.g; have ql := hd.lt
                      have he := Hhe.out V HI.out
                      have ps := he.s; have pg := he.g; have pl := he.lt
                      clear hd he)
                    · (go_simp; exact ⟨.inr rfl, HI.out⟩)
                    · (go_simp; exact ⟨.inr rfl, HI.out⟩)
                    · (go_simp; exact ⟨.inr rfl, HI.out⟩)
                    · (go_simp; exact ⟨.inr rfl, HI.out⟩)
                    · (go_simp; exact ⟨.inr rfl, HI.out⟩)
                    · (go_simp; exact ⟨.inr rfl, HI.out⟩)
                    · (go_simp; exact ⟨.inr rfl, HI.out⟩)
                    · (go_simp; exact ⟨.inr rfl, HI.out⟩)
                    · (go_simp; exact ⟨.inr rfl, HI.out⟩)
                    · (go_simp; exact ⟨.inr rfl, HI.out⟩)
                    · (go_simp; exact ⟨.inr rfl, HI.out⟩)
                    · (go_simp; exact ⟨.inr rfl, HI.out⟩)
                    · (go_simp; exact ⟨.inr rfl, HI.out⟩)
                    · (go_simp; exact ⟨.inr rfl, HI.out⟩)
                    · (go_simp; exact ⟨.inr rfl, HI.out⟩)
                    · (go_simp; exact ⟨.inr rfl, HI.out⟩)
                    · (go_simp; refine (less_any _ _ _ _ _).mono ?_; rintro e V2 ⟨rfl, hb⟩; rw [HLxy.out]; exact ⟨_, rfl, .inr rfl, HI.out.trans (hb.mono HI.out.size)⟩)
                    · (go_simp; exact ⟨.inr rfl, HI.out⟩)
                    · (go_simp; exact ⟨.inr rfl, HI.out⟩)
                    · (go_simp; exact ⟨.inr rfl, HI.out⟩)
                    · (go_simp; exact ⟨.inr rfl, HI.out⟩)
                  · intro L' σ V7 h1 hI hp
                    clear h1
                    simp only [preK_cons, preK_nil, List.getD_cons_zero, List.getD_cons_succ] at hp; simp only [List.not_mem_nil, false_or, and_true] at hp
                    have HI7 := Lib.hid hI
                    clear hI
                    simp only [List.drop_succ_cons, List.drop_zero]
                    go_simp
                    clear hp
                    go_wp2_with fail
                    refine ⟨rfl, ?_⟩
                    go_wp2_with fail
                    have hst9 : ISt 9 11 x2 x2.heap.size 36 (fun z1 z2 => cgC (if z1 then (s, g) else (0, 0), if z2 then (K, a0, a1, a2, a3, a4, a5, a6, a7) else noneB, noneB)) (fun _ => false) V7.drew :=
                      ⟨(HB32.out.trans (HI7.out.mono HB32.out.size)).drew, Nat.le_refl _, blk_drew ((Mod.ofBelow HI7.out).keep Hz3.out (by simp))⟩
                    have Hst9 := Lib.hid hst9
                    clear hst9
                    refine wp_planK [] 12 [0, 4] [some 68, some 69, some 70, some 71, some 72, some 73, some 74, some 75, some 76, none, some 77, none] [[], [0], [0, 1], [0, 1, 2], [], [4], [4, 5], [4, 5, 6], [0, 1, 2, 3], [0, 1, 2, 3, 8], [0, 1, 2, 3, 4, 5, 6, 7, 8, 9], [0, 1, 2, 3, 4, 5, 6, 7, 8, 9, 10]] [0, 1, 2, 3, 4, 5, 6, 7, 8, 9, 10, 11] (fun Lf σ V => ISt 9 11 x2 x2.heap.size 36 (fun z1 z2 => cgC (if z1 then (s, g) else (0, 0), if z2 then (K, a0, a1, a2, a3, a4, a5, a6, a7) else noneB, noneB)) Lf V) mixed rfl (by kernel_rfl) (by decide) (by decide) (by decide) Hst9.out rfl ?_
                    iterate 12 apply Exists.intro
                    refine ⟨rfl, ?_, ?_⟩
                    · simp only [List.take_succ_cons, List.take_zero, AllFrom.cons_eq, AllFrom.nil_eq, OpGoalK]
                      refine ⟨?_, ?_, ?_, ?_, ?_, ?_, ?_, ?_, ?_, ?_, ?_, ?_, trivial⟩
                      all_goals (intro L' σ V h1 h2 h3 hI hp; have HA1 := Lib.hid h1; have HA2 := Lib.hid h2; have HA3 := Lib.hid h3; clear h1 h2 h3; (try simp only [List.getD_cons_zero, List.getD_cons_succ, preK_cons, preK_nil] at hp); (try simp only [List.not_mem_nil, false_or, and_true] at hp); (first | (have hq : True := hp; clear hq hp) | skip); have HI := Lib.hid hI; clear hI)
                      all_goals (
                        have hd := HHd.out V (Hx02.out.trans (HI.out.b.mono Hx02.out.size))
                        have qs := hd.s; have qg := hd.g; have ql := hd.lt
                        have t0 : V.cell? ⟨ab, ao + 2, none⟩ = some (.int .i64 K) := by have h := hd.bt 0 _ rfl; rw [Addr.add_mid] at h; exact h
                        have t1 : V.cell? ⟨ab, ao + 3, none⟩ = some (.int .i64 a0) := by have h := hd.bt 1 _ rfl; rw [Addr.add_mid] at h; exact h
                        have t2 : V.cell? ⟨ab, ao + 4, none⟩ = some (.int .i64 a1) := by have h := hd.bt 2 _ rfl; rw [Addr.add_mid] at h; exact h
                        have t3 : V.cell? ⟨ab, ao + 5, none⟩ = some (.int .i64 a2) := by have h := hd.bt 3 _ rfl; rw [Addr.add_mid] at h; exact h
                        have t4 : V.cell? ⟨ab, ao + 6, none⟩ = some (.int .i64 a3) := by have h := hd.bt 4 _ rfl; rw [Addr.add_mid] at h; exact h
                        have t5 : V.cell? ⟨ab, ao + 7, none⟩ = some (.int .i64 a4) := by have h := hd.bt 5 _ rfl; rw [Addr.add_mid] at h; exact h
                        have t6 : V.cell? ⟨ab, ao + 8, none⟩ = some (.int .i64 a5) := by have h := hd.bt 6 _ rfl; rw [Addr.add_mid] at h; exact h
                        have t7 : V.cell? ⟨ab, ao + 9, none⟩ = some (.int .i64 a6) := by have h := hd.bt 7 _ rfl; rw [Addr.add_mid] at h; exact h
                        have t8 : V.cell? ⟨ab, ao + 10, none⟩ = some (.int .i64 a7) := by have h := hd.bt 8 _ rfl; rw [Addr.add_mid] at h; exact h
                        clear hd)
                      · (go_simp; exact ⟨.inr rfl, HI.out.read (by decide) (by decide)⟩)
                      · (go_simp; exact ⟨.inr rfl, HI.out.read (by decide) (by decide)⟩)
                      · (go_simp; exact ⟨.inr rfl, HI.out.read (by decide) (by decide)⟩)
                      · (go_simp; exact ⟨.inr rfl, HI.out.read (by decide) (by decide)⟩)
                      · (go_simp; exact ⟨.inr rfl, HI.out.read (by decide) (by decide)⟩)
                      · (go_simp; exact ⟨.inr rfl, HI.out.read (by decide) (by decide)⟩)
                      · (go_simp; exact ⟨.inr rfl, HI.out.read (by decide) (by decide)⟩)
                      · (go_simp; exact ⟨.inr rfl, HI.out.read (by decide) (by decide)⟩)
                      · (go_simp; exact ⟨.inr rfl, HI.out.read (by decide) (by decide)⟩)
                      · simp only [wantedL_none, if_true, Nat.reduceAdd, Nat.zero_add]
                        have x3 := HA1.out
                        simp only [Nat.reduceAdd, Nat.zero_add] at x3
                        generalize hρ : Act.eval _ = ρ
                        refine HI.out.yr1 x3 (by decide) 0 (handleC (s, g)) 28 (.tmp 76) (.tmp 71) rfl ?_ ?_ (fun b => by rw [cgC_len, handleC_len]; omega) (by kernel_rfl) (handleC_one _) (fun b => by cases b <;> exact setL_at _ _) (fun V' hV' => PostK.mk (c := undef) (.inr rfl) hV')
                        · rw [← hρ]; go_simp
                        · rw [← hρ]; go_simp; rfl
                      · (go_simp; exact ⟨.inr rfl, HI.out.read (by decide) (by decide)⟩)
                      · simp only [wantedL_none, if_true, Nat.reduceAdd, Nat.zero_add]
                        have x3 := HA1.out
                        simp only [Nat.reduceAdd, Nat.zero_add] at x3
                        generalize hρ : Act.eval _ = ρ
                        refine HI.out.yr2 x3 (by decide) 2 (btC (K, a0, a1, a2, a3, a4, a5, a6, a7)) 31 (.tmp 77) (.tmp 75) rfl ?_ ?_ (fun b => by rw [cgC_len]; exact of_decide_eq_true rfl) (by kernel_rfl) (ints_one _) (fun b => by cases b <;> exact setL_old _ _) (fun V' hV' => PostK.mk (c := undef) (.inr rfl) hV')
                        · rw [← hρ]; go_simp
                        · rw [← hρ]; go_simp; rfl
                    · intro L9 σ9 V9 h1 hI hp
                      have hst := hI.blk
                      rw [h1 9 (by decide), h1 11 (by decide)] at hst
                      simp only [if_true] at hst
                      have hb9 := hI.b
                      simp only [preK_cons, preK_nil, List.getD_cons_zero, List.getD_cons_succ] at hp; simp only [List.not_mem_nil, false_or, and_true] at hp
                      have HstA := Lib.hid hst; have HB9 := Lib.hid hb9
                      clear hst hb9
                      have hcut1 := HCut1.out
                      clear h1 hI
                      simp only [List.drop_succ_cons, List.drop_zero]
                      go_simp
                      clear hp
                      go_wp2_with fail
                      refine ⟨rfl, ?_⟩
                      go_wp2_with fail
                      clear hcut1
                      have hst12 : ISt 9 11 x2 x2.heap.size 36 (fun z1 z2 => cgC ((s, g), (K, a0, a1, a2, a3, a4, a5, a6, a7), if z2 then (M, b0, b1, b2, b3, b4, b5, b6, b7) else noneB)) (fun _ => false) V9.drew :=
                        ⟨HB9.out.drew, Nat.le_refl _, blk_drew HstA.out⟩
                      have Hst12 := Lib.hid hst12
                      clear hst12
                      refine wp_planK [] 12 [0, 4] [some 81, some 82, some 83, some 84, some 85, some 86, some 87, some 88, some 89, none, some 90, none] [[], [0], [0, 1], [0, 1, 2], [], [4], [4, 5], [4, 5, 6], [0, 1, 2, 3], [0, 1, 2, 3, 8], [0, 1, 2, 3, 4, 5, 6, 7, 8, 9], [0, 1, 2, 3, 4, 5, 6, 7, 8, 9, 10]] [0, 1, 2, 3, 4, 5, 6, 7, 8, 9, 10, 11] (fun Lf σ V => ISt 9 11 x2 x2.heap.size 36 (fun z1 z2 => cgC ((s, g), (K, a0, a1, a2, a3, a4, a5, a6, a7), if z2 then (M, b0, b1, b2, b3, b4, b5, b6, b7) else noneB)) Lf V) mixed rfl (by kernel_rfl) (by decide) (by decide) (by decide) Hst12.out rfl ?_
                      iterate 12 apply Exists.intro
                      refine ⟨rfl, ?_, ?_⟩
                      · simp only [List.take_succ_cons, List.take_zero, AllFrom.cons_eq, AllFrom.nil_eq, OpGoalK]
                        refine ⟨?_, ?_, ?_, ?_, ?_, ?_, ?_, ?_, ?_, ?_, ?_, ?_, trivial⟩
                        all_goals (intro L' σ V h1 h2 h3 hI hp; have HA1 := Lib.hid h1; have HA2 := Lib.hid h2; have HA3 := Lib.hid h3; clear h1 h2 h3; (try simp only [List.getD_cons_zero, List.getD_cons_succ, preK_cons, preK_nil] at hp); (try simp only [List.not_mem_nil, false_or, and_true] at hp); (first | (have hq : True := hp; clear hq hp) | skip); have HI := Lib.hid hI; clear hI)
                        all_goals (
                          have hd := HHe.out V (Hx02.out.trans (HI.out.b.mono Hx02.out.size))
                          have qs := hd.s; have qg := hd.g; have ql := hd.lt
                          have t0 : V.cell? ⟨bb, bo + 2, none⟩ = some (.int .i64 M) := by have h := hd.bt 0 _ rfl; rw [Addr.add_mid] at h; exact h
                          have t1 : V.cell? ⟨bb, bo + 3, none⟩ = some (.int .i64 b0) := by have h := hd.bt 1 _ rfl; rw [Addr.add_mid] at h; exact h
                          have t2 : V.cell? ⟨bb, bo + 4, none⟩ = some (.int .i64 b1) := by have h := hd.bt 2 _ rfl; rw [Addr.add_mid] at h; exact h
                          have t3 : V.cell? ⟨bb, bo + 5, none⟩ = some (.int .i64 b2) := by have h := hd.bt 3 _ rfl; rw [Addr.add_mid] at h; exact h
                          have t4 : V.cell? ⟨bb, bo + 6, none⟩ = some (.int .i64 b3) := by have h := hd.bt 4 _ rfl; rw [Addr.add_mid] at h; exact h
                          have t5 : V.cell? ⟨bb, bo + 7, none⟩ = some (.int .i64 b4) := by have h := hd.bt 5 _ rfl; rw [Addr.add_mid] at h; exact h
                          have t6 : V.cell? ⟨bb, bo + 8, none⟩ = some (.int .i64 b5) := by have h := hd.bt 6 _ rfl; rw [Addr.add_mid] at h; exact h
                          have t7 : V.cell? ⟨bb, bo + 9, none⟩ = some (.int .i64 b6) := by have h := hd.bt 7 _ rfl; rw [Addr.add_mid] at h; exact h
                          have t8 : V.cell? ⟨bb, bo + 10, none⟩ = some (.int .i64 b7) := by have h := hd.bt 8 _ rfl; rw [Addr.add_mid] at h; exact h
                          clear hd)
                        · (go_simp; exact ⟨.inr rfl, HI.out.read (by decide) (by decide)⟩)
                        · (go_simp; exact ⟨.inr rfl, HI.out.read (by decide) (by decide)⟩)
                        · (go_simp; exact ⟨.inr rfl, HI.out.read (by decide) (by decide)⟩)
                        · (go_simp; exact ⟨.inr rfl, HI.out.read (by decide) (by decide)⟩)
                        · (go_simp; exact ⟨.inr rfl, HI.out.read (by decide) (by decide)⟩)
                        · (go_simp; exact ⟨.inr rfl, HI.out.read (by decide) (by decide)⟩)
                        · (go_simp; exact ⟨.inr rfl, HI.out.read (by decide) (by decide)⟩)
                        · (go_simp; exact ⟨.inr rfl, HI.out.read (by decide) (by decide)⟩)
                        · (go_simp; exact ⟨.inr rfl, HI.out.read (by decide) (by decide)⟩)
                        · simp only [wantedL_none, if_true, Nat.reduceAdd, Nat.zero_add]
                          have x3 := HA1.out
                          simp only [Nat.reduceAdd, Nat.zero_add] at x3
                          generalize hρ : Act.eval _ = ρ
                          refine HI.out.yr1 x3 (by decide) 0 (handleC (s, g)) 28 (.tmp 89) (.tmp 84) rfl ?_ ?_ (fun b => by rw [cgC_len, handleC_len]; omega) (by kernel_rfl) (handleC_one _) (fun b => by cases b <;> exact setL_at _ _) (fun V' hV' => PostK.mk (c := undef) (.inr rfl) hV')
                          · rw [← hρ]; go_simp
                          · rw [← hρ]; go_simp; rfl
                        · (go_simp; exact ⟨.inr rfl, HI.out.read (by decide) (by decide)⟩)
                        · simp only [wantedL_none, if_true, Nat.reduceAdd, Nat.zero_add]
                          have x3 := HA1.out
                          simp only [Nat.reduceAdd, Nat.zero_add] at x3
                          generalize hρ : Act.eval _ = ρ
                          refine HI.out.yr2 x3 (by decide) 11 (btC (M, b0, b1, b2, b3, b4, b5, b6, b7)) 31 (.tmp 90) (.tmp 88) rfl ?_ ?_ (fun b => by rw [cgC_len]; exact of_decide_eq_true rfl) (by kernel_rfl) (ints_one _) (fun b => by cases b <;> exact setL_now _ _) (fun V' hV' => PostK.mk (c := undef) (.inr rfl) hV')
                          · rw [← hρ]; go_simp
                          · rw [← hρ]; go_simp; rfl
                      · intro L12 σ12 V12 h1 hI hp
                        have hst := hI.blk
                        simp only [h1 9 (by decide), h1 11 (by decide), if_true] at hst
                        have hb9 := hI.b
                        simp only [preK_cons, preK_nil, List.getD_cons_zero, List.getD_cons_succ] at hp; simp only [List.not_mem_nil, false_or, and_true] at hp
                        have HstB := Lib.hid hst; have HB12 := Lib.hid hb9
                        clear hst hb9
                        have hcut2 := HCut2.out
                        clear h1 hI
                        simp only [List.drop_succ_cons, List.drop_zero]
                        go_simp
                        clear hp
                        go_wp2_with fail
                        refine ⟨rfl, ?_⟩
                        have hNo := blk_piece HstB.out 2 (btC (K, a0, a1, a2, a3, a4, a5, a6, a7)) (cg_old ((s, g), (K, a0, a1, a2, a3, a4, a5, a6, a7), (M, b0, b1, b2, b3, b4, b5, b6, b7)))
                        have hNn := blk_piece HstB.out 11 (btC (M, b0, b1, b2, b3, b4, b5, b6, b7)) (cg_now ((s, g), (K, a0, a1, a2, a3, a4, a5, a6, a7), (M, b0, b1, b2, b3, b4, b5, b6, b7)))
                        have hN3 := blk_piece HstB.out 0 (cgC ((s, g), (K, a0, a1, a2, a3, a4, a5, a6, a7), (M, b0, b1, b2, b3, b4, b5, b6, b7))) (fun j u hu => by rw [Nat.zero_add]; exact hu)
                        have hcmp := fun w => neqBeast w (K, a0, a1, a2, a3, a4, a5, a6, a7) (M, b0, b1, b2, b3, b4, b5, b6, b7)
                        simp only [show (btC (K, a0, a1, a2, a3, a4, a5, a6, a7)).toArray = #[.int .i64 K, .int .i64 a0, .int .i64 a1, .int .i64 a2, .int .i64 a3, .int .i64 a4, .int .i64 a5, .int .i64 a6, .int .i64 a7] from rfl, show (btC (M, b0, b1, b2, b3, b4, b5, b6, b7)).toArray = #[.int .i64 M, .int .i64 b0, .int .i64 b1, .int .i64 b2, .int .i64 b3, .int .i64 b4, .int .i64 b5, .int .i64 b6, .int .i64 b7] from rfl] at hcmp
                        have hbrV := Hx02.out.trans (HB12.out.mono Hx02.out.size)
                        have hbV := HBr.out.trans (hbrV.mono HBr.out.size)
                        have hOV := row_mod Hown.out (Mod.ofBelow hbrV) (by simp)
                        have hlo : out.length ≤ 120 := by have := HLen.out; omega
                        have HNo := Lib.hid hNo; have HNn := Lib.hid hNn; have HN3 := Lib.hid hN3; have HBV := Lib.hid hbV; have HOV := Lib.hid hOV; have HLo := Lib.hid hlo
                        clear hNo hNn hN3 hbV hOV hlo
                        clear hbrV
                        cases he : eqB (K, a0, a1, a2, a3, a4, a5, a6, a7) (M, b0, b1, b2, b3, b4, b5, b6, b7) with
                        | true =>
                          rw [he] at hcmp
                          have Hmr := Lib.hid (show out ++ mrgB m a b = mrgB (la.length + lb.length) la lb from by have h := HMrg.out; unfold chg at h; rw [if_pos he, List.append_nil] at h; exact h)
                          clear he
                          go_wp2_with (first
                            | (refine wpList_load_flat rfl 31 (.tmp 93) rfl ⟨x2.heap.size, 2, none⟩ rfl [.int .i64 K, .int .i64 a0, .int .i64 a1, .int .i64 a2, .int .i64 a3, .int .i64 a4, .int .i64 a5, .int .i64 a6, .int .i64 a7] _ Try.underlying31 rfl (by kernel_rfl) HNo.out ?_)
                            | (refine wpList_load_flat rfl 31 (.tmp 95) rfl ⟨x2.heap.size, 11, none⟩ rfl [.int .i64 M, .int .i64 b0, .int .i64 b1, .int .i64 b2, .int .i64 b3, .int .i64 b4, .int .i64 b5, .int .i64 b6, .int .i64 b7] _ Try.underlying31 rfl (by kernel_rfl) HNn.out ?_))
                          go_roundw
                          case rel => exact ⟨m, a, b, A1', A2', c1 - 1, c2 - 1, out, rfl, rfl, by have h1 := HC1.out; have h2 := HC2.out; have h3 := HLen.out; have h4 := HN.out; (try simp only [List.length_cons, List.length_nil, List.length_append] at *); omega, by have h1 := HC1.out; have h2 := HC2.out; have h3 := HLen.out; have h4 := HN.out; (try simp only [List.length_cons, List.length_nil, List.length_append] at *); omega, HL1'.out, HL2'.out, HOV.out, by have h1 := HC1.out; have h2 := HC2.out; have h3 := HLen.out; have h4 := HN.out; (try simp only [List.length_cons, List.length_nil, List.length_append] at *); omega, HBV.out, by have h1 := HC1.out; have h2 := HC2.out; have h3 := HLen.out; have h4 := HN.out; (try simp only [List.length_cons, List.length_nil, List.length_append] at *); omega, Hmr.out⟩
                          case measure => simp [lenV] <;> omega
                        | false =>
                          rw [he] at hcmp
                          have Hmr := Lib.hid (show (out ++ [((s, g), (K, a0, a1, a2, a3, a4, a5, a6, a7), (M, b0, b1, b2, b3, b4, b5, b6, b7))]) ++ mrgB m a b = mrgB (la.length + lb.length) la lb from by have h := HMrg.out; unfold chg at h; rw [if_neg (by rw [he]; simp)] at h; exact h)
                          clear he
                          have hN2 := new_rec (w := V12) (cs := #[.int .i64 s, .int .i64 g, .int .i64 K, .int .i64 a0, .int .i64 a1, .int .i64 a2, .int .i64 a3, .int .i64 a4, .int .i64 a5, .int .i64 a6, .int .i64 a7, .int .i64 M, .int .i64 b0, .int .i64 b1, .int .i64 b2, .int .i64 b3, .int .i64 b4, .int .i64 b5, .int .i64 b6, .int .i64 b7]) (t := 36) (n := V12.heap.size) (xs := cgC ((s, g), (K, a0, a1, a2, a3, a4, a5, a6, a7), (M, b0, b1, b2, b3, b4, b5, b6, b7))) rfl rfl
                          have hOV2 : ownC (V12.alloc (.cells #[.int .i64 s, .int .i64 g, .int .i64 K, .int .i64 a0, .int .i64 a1, .int .i64 a2, .int .i64 a3, .int .i64 a4, .int .i64 a5, .int .i64 a6, .int .i64 a7, .int .i64 M, .int .i64 b0, .int .i64 b1, .int .i64 b2, .int .i64 b3, .int .i64 b4, .int .i64 b5, .int .i64 b6, .int .i64 b7] 36)) w.heap.size _ out := row_mod HOV.out (Mod.ofBelow ((Below.refl _ V12).alloc (Nat.le_refl _) _)) (by simp)
                          have HN2 := Lib.hid hN2; have HOV2 := Lib.hid hOV2
                          clear hN2 hOV2
                          go_wp2_with (first
                            | (refine wpList_load_flat rfl 31 (.tmp 93) rfl ⟨x2.heap.size, 2, none⟩ rfl [.int .i64 K, .int .i64 a0, .int .i64 a1, .int .i64 a2, .int .i64 a3, .int .i64 a4, .int .i64 a5, .int .i64 a6, .int .i64 a7] _ Try.underlying31 rfl (by kernel_rfl) HNo.out ?_)
                            | (refine wpList_load_flat rfl 31 (.tmp 95) rfl ⟨x2.heap.size, 11, none⟩ rfl [.int .i64 M, .int .i64 b0, .int .i64 b1, .int .i64 b2, .int .i64 b3, .int .i64 b4, .int .i64 b5, .int .i64 b6, .int .i64 b7] _ Try.underlying31 rfl (by kernel_rfl) HNn.out ?_)
                            | (refine wpList_load_flat rfl 36 (.tmp 7) rfl ⟨x2.heap.size, 0, none⟩ rfl [.int .i64 s, .int .i64 g, .int .i64 K, .int .i64 a0, .int .i64 a1, .int .i64 a2, .int .i64 a3, .int .i64 a4, .int .i64 a5, .int .i64 a6, .int .i64 a7, .int .i64 M, .int .i64 b0, .int .i64 b1, .int .i64 b2, .int .i64 b3, .int .i64 b4, .int .i64 b5, .int .i64 b6, .int .i64 b7] _ Try.underlying36 rfl (by kernel_rfl) HN3.out ?_)
                            | (refine wpList_build1 rfl 23 36 (.tmp 99) rfl [.int .i64 s, .int .i64 g, .int .i64 K, .int .i64 a0, .int .i64 a1, .int .i64 a2, .int .i64 a3, .int .i64 a4, .int .i64 a5, .int .i64 a6, .int .i64 a7, .int .i64 M, .int .i64 b0, .int .i64 b1, .int .i64 b2, .int .i64 b3, .int .i64 b4, .int .i64 b5, .int .i64 b6, .int .i64 b7] rfl Try.underlying23 inf_Change rfl (by omega) (by omega) ?_)
                            | (at_builtin; refine app_cg rfl _ _ rfl w.heap.size _ out ((s, g), (K, a0, a1, a2, a3, a4, a5, a6, a7), (M, b0, b1, b2, b3, b4, b5, b6, b7)) ⟨V12.heap.size, 0, none⟩ 1 rfl HOV2.out rfl HN2.out (by have := HLo.out; omega) (by have := HBV.out.size; simp; omega) ?_; intro v' w' hown' hg'))
                          have hb' : Below w.heap.size w w' := ((HBV.out.alloc HBV.out.size _).grown hg' (by have := HBV.out.size; simp; omega) (own_ge HOV2.out))
                          have Hown' := Lib.hid hown'; have Hb' := Lib.hid hb'
                          clear hown' hb'
                          clear hg'
                          go_wp2_with fail
                          go_roundw
                          case rel => exact ⟨m, a, b, A1', A2', c1 - 1, c2 - 1, (out ++ [((s, g), (K, a0, a1, a2, a3, a4, a5, a6, a7), (M, b0, b1, b2, b3, b4, b5, b6, b7))]), rfl, rfl, by have h1 := HC1.out; have h2 := HC2.out; have h3 := HLen.out; have h4 := HN.out; (try simp only [List.length_cons, List.length_nil, List.length_append] at *); omega, by have h1 := HC1.out; have h2 := HC2.out; have h3 := HLen.out; have h4 := HN.out; (try simp only [List.length_cons, List.length_nil, List.length_append] at *); omega, HL1'.out, HL2'.out, Hown'.out, by have h1 := HC1.out; have h2 := HC2.out; have h3 := HLen.out; have h4 := HN.out; (try simp only [List.length_cons, List.length_nil, List.length_append] at *); omega, Hb'.out, by have h1 := HC1.out; have h2 := HC2.out; have h3 := HLen.out; have h4 := HN.out; (try simp only [List.length_cons, List.length_nil, List.length_append] at *); omega, Hmr.out⟩
                          case measure => simp [lenV] <;> omega

end Go.Proofs.Ytfbcdblgfhekpaa
