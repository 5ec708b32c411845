/- The reference's slots: All, Is. -/
import Derived.Test.YtkcpmoinpdojjaaSlot1
namespace Go.Proofs.Ytkcpmoinpdojjaa
open Go.RowKit

theorem flat2_set {α : Type} {enc : α → List Value} (hf : ∀ x, (enc x).length = 2) (y : α) (u v : Value) (hy : enc y = [u, v]) : ∀ (l : List α) (k : Nat), k < l.length →
    ((l.flatMap enc).set (k * 2) u).set (k * 2 + 1) v = (l.set k y).flatMap enc
  | x :: l, 0, _ => by
    obtain ⟨a, b, hx⟩ : ∃ a b, enc x = [a, b] := by
      match h : enc x, hf x with
      | [a, b], _ => exact ⟨a, b, rfl⟩
    simp [hx, hy]
  | x :: l, k + 1, hk => by
    have ih := flat2_set hf y u v hy l k (by simpa using hk)
    have hx := hf x
    simp only [List.flatMap_cons, List.set_cons_succ]
    rw [List.set_append_right _ _ (by omega), List.set_append_right _ _ (by omega), hx, show (k + 1) * 2 - 2 = k * 2 by omega, show (k + 1) * 2 + 1 - 2 = k * 2 + 1 by omega, ih]
/-- The program's slots, opened at slot n. -/
theorem RepS.at_ {w : World} {p : Nat} {l : Sl} {F : List Nat} (h : RepS w p l F) {n : Nat} (hn : n < l.length) : ∃ g0 cap, w.heap[p]? = some (.cells #[.slice (some ⟨g0, 0, none⟩) l.length cap] 146 (0, 0)) ∧ g0 ∈ F ∧ g0 < w.heap.size ∧
    w.cell? ⟨g0, n * 2, none⟩ = some (.int .i64 l[n].1) ∧ w.cell? ⟨g0, n * 2 + 1, none⟩ = some (.bool l[n].2) ∧ (∀ i, w.frozen? ⟨g0, i, none⟩ = false) ∧
    (∀ y : Int × Bool, RepS ((w.setCell ⟨g0, n * 2, none⟩ (.int .i64 y.1)).setCell ⟨g0, n * 2 + 1, none⟩ (.bool y.2)) p (l.set n y) F) ∧ (∀ b : Bool, RepS (w.setCell ⟨g0, n * 2 + 1, none⟩ (.bool b)) p (l.set n (l[n].1, b)) F) := by
  obtain ⟨v, hp, hrow, rfl, hne⟩ := h
  obtain ⟨g0, cap, cur, rfl, -, hblk, -⟩ := row_some hrow (by omega)
  obtain ⟨g0', cap', he, hcell⟩ := row_rec slotC_len hrow hn
  cases he
  have hpg : p ≠ g0 := by
    intro e
    simp [Value.ownBlock, e] at hne
  refine ⟨g0, cap, hp, by simp [Value.ownBlock], blk_lt hblk, hcell 0 _ rfl, hcell 1 _ rfl, blk_free hblk, fun y => ?_, fun b => ?_⟩
  · refine ⟨_, ?_, ?_, rfl, hne⟩
    · rw [blk_set_ne (by simpa using hpg), blk_set_ne (by simpa using hpg)]; exact hp
    · have h2 := row_set (row_set hrow (n * 2) (.int .i64 y.1)) (n * 2 + 1) (.bool y.2)
      rw [flat2_set slotC_len y _ _ rfl l n hn] at h2
      rw [List.length_set]; exact h2
  · refine ⟨_, ?_, ?_, rfl, hne⟩
    · rw [blk_set_ne (by simpa using hpg)]; exact hp
    · have h2 := row_set hrow (n * 2 + 1) (.bool b)
      rw [flatV_set slotC_len l n hn 1 _ (l[n].1, b) (by omega) rfl] at h2
      rw [List.length_set]; exact h2
def bools (bs : List Bool) : List Value := bs.map (.bool ·)
/-- The reference's slots l lie at block q; F: the blocks that they take. -/
def RepRS (w : World) (q : Nat) (l : Sl) (F : List Nat) : Prop :=
  ∃ vg vl, w.heap[q]? = some (.cells #[vg, vl] 69 (0, 0)) ∧ w.ownsRow 0 3 1 vg l.length (ints (gensS l)) ∧ w.ownsRow 0 4 1 vl l.length (bools (livesS l)) ∧
    F = q :: (vg.ownBlock.toList ++ vl.ownBlock.toList) ∧ F.Nodup
theorem RepRS.mod {w w' : World} {q : Nat} {l : Sl} {F G : List Nat} (h : RepRS w q l F) (hm : Mod G w w') (hd : ∀ k ∈ F, k ∉ G) : RepRS w' q l F := by
  obtain ⟨vg, vl, h1, h2, h3, rfl, h4⟩ := h
  exact ⟨vg, vl, hm.keep h1 (hd q (by simp)), row_mod h2 hm (fun k hk => hd k (by simp [hk])), row_mod h3 hm (fun k hk => hd k (by simp [hk])), rfl, h4⟩
theorem RepRS.lt {w : World} {p : Nat} {l : Sl} {F : List Nat} (h : RepRS w p l F) : ∀ k ∈ F, k < w.heap.size := by
  obtain ⟨vg, vl, h1, h2, h3, rfl, h4⟩ := h
  intro k hk
  rcases List.mem_cons.1 hk with rfl | hk
  · exact blk_lt h1
  · rcases List.mem_append.1 hk with hk | hk
    · exact row_lt h2 k (by simpa using hk)
    · exact row_lt h3 k (by simpa using hk)
theorem gens_get (l : Sl) (k : Nat) (h : k < l.length) : (ints (gensS l))[k]? = some (.int .i64 l[k].1) := by simp [ints, gensS, h]
theorem lives_get (l : Sl) (k : Nat) (h : k < l.length) : (bools (livesS l))[k]? = some (.bool l[k].2) := by simp [bools, livesS, h]

set_option maxHeartbeats 1000000 in
theorem rall_any (p : Nat) (l : Sl) (F : List Nat) (w : World) (h : RepRS w p l F) (hl : l.length ≤ 60) :
    Calls Try.prog 197 #[.pointer (some ⟨p, 0, none⟩)] w (MadeRecs 45 2 handleC (allS l) w) := by
  obtain ⟨vg, vl, hp, hg, hv, rfl, hne⟩ := h
  obtain ⟨A, cap, rfl, hc1, hc2⟩ := row_slice hg
  obtain ⟨A', cap', rfl, hc1', hc2'⟩ := row_slice hv
  have hc := blk_cell hp 0
  have hc' := blk_cell hp 1
  have hpl := blk_lt hp
  simp at hc hc'
  clear hp hne hc2 hc2'
  go_enter Try.func197, Try.ntmps197
  go_wp2
  go_loopw [3, 11] (fun v i wr => ∃ k : Nat, k ≤ l.length ∧ i = .int .i64 k ∧ wr.ownsRow w.heap.size 45 2 v (allS (l.take k)).length ((allS (l.take k)).flatMap handleC) ∧ Below w.heap.size w wr) (fun _ i _ => l.length - (intOf i).toNat)
  case atStart => exact ⟨0, by omega, rfl, ⟨rfl, .inl ⟨rfl, rfl⟩⟩, Below.refl _ _⟩
  case round =>
    obtain ⟨k, hk, rfl, hown, hbel⟩ := hrel
    have hsz := hbel.size
    by_cases hlt : k < l.length
    · obtain ⟨g0, cap0, cur0, he, -⟩ := row_some hg (by omega)
      cases he
      obtain ⟨g1, cap1, cur1, he, -⟩ := row_some hv (by omega)
      cases he
      have hgl := row_lt hg g0 rfl
      have hgl1 := row_lt hv g1 rfl
      have hs := allS_take_succ l k hlt
      have hlen := allS_len (l.take k)
      rw [List.length_take] at hlen
      have c0 := (hbel.cell (p := ⟨g0, k, none⟩) hgl).trans (row_cell hg (gens_get l k hlt))
      have c1 := (hbel.cell (p := ⟨g1, k, none⟩) hgl1).trans (row_cell hv (lives_get l k hlt))
      have c2 := (hbel.cell (p := ⟨p, 0, none⟩) hpl).trans hc
      clear hg hv hc hc'
      generalize allS (l.take k) = L at *
      generalize l[k] = x at *
      obtain ⟨a, b⟩ := x
      simp only at c0 c1 hs
      have Hs := Lib.hid hs
      clear hs
      cases b with
      | false =>
        have Hs2 := Lib.hid (show allS (l.take (k + 1)) = L by rw [Hs.out]; simp)
        go_wp2
        go_roundw
        case rel => exact ⟨k + 1, by omega, by go_num, by rw [Hs2.out]; exact hown, hbel⟩
        case measure => simp [intOf]; omega
      | true =>
        have Hs2 := Lib.hid (show allS (l.take (k + 1)) = L ++ [((k : Int), a)] by rw [Hs.out]; simp)
        go_wp2_with (at_builtin; refine app_handle rfl _ _ rfl w.heap.size _ L ((k : Int), a) ⟨wr.heap.size, 0, none⟩ 1 rfl (hown.alloc _) rfl (new_rec (by simp) rfl) (by omega) (by simp; omega) ?_; intro v' w1 hown2 hb1)
        go_roundw
        case rel => exact ⟨k + 1, by omega, by go_num, by rw [Hs2.out]; exact hown2, (hbel.alloc hsz _).trans hb1⟩
        case measure => simp [intOf]; omega
    · obtain rfl : k = l.length := by omega
      rw [List.take_length] at hown
      clear hg hv hc hc'
      go_wp2
      go_ret
      exact ⟨_, rfl, hown, hbel⟩

attribute [local go_sem] AllFrom.cons_eq AllFrom.nil_eq putF_nil putF_cons wantedL_none wantedL_some OpGoalT YieldsR preF_nil preF_cons

set_option maxHeartbeats 1000000 in
theorem is_any (p : Nat) (l : Sl) (F : List Nat) (s g : Int) (w : World) (h : RepRS w p l F) (hl : l.length ≤ 60) :
    Calls Try.prog 167 #[.pointer (some ⟨p, 0, none⟩), .agg #[.int .i64 s, .int .i64 g]] w fun e w' => e = .returned (.bool (liveB l s g)) ∧ Below w.heap.size w w' := by
  have hlen := allS_len l
  rw [← hasB_all]
  have h1 : ∀ w1, Below w.heap.size w w1 → Calls Try.prog 197 #[.pointer (some ⟨p, 0, none⟩)] w1 (MadeRecs 45 2 handleC (allS l) w1) := fun w1 hb =>
    rall_any p l F w1 (h.mod (Mod.ofBelow hb) (by simp)) hl
  have h2 : ∀ v w, rowV 0 45 2 (allS l).length ((allS l).flatMap handleC) v w → Calls Try.prog 138 #[v, .agg #[.int .i64 s, .int .i64 g]] w fun e w' => e = .returned (.bool (hasB (allS l) (s, g))) ∧ Below w.heap.size w w' := by
    intro v w hv
    obtain ⟨A, c, rfl, hc, hl⟩ := own_lies hv
    exact hasHandle_any A c (allS l) s g w (by omega) hl
  generalize hasB (allS l) (s, g) = r at *
  generalize allS l = L at *
  have H1 := Lib.hid h1; have H2 := Lib.hid h2
  clear h1 h2 h
  go_enter Try.func167, Try.ntmps167
  go_wp2
  refine wp_planE [some 5, some 6, some 7, some 8, some 4] [[], [0], [], [0, 1, 2], [0, 1, 2, 3]] [0, 1, 2, 3, 4] 5 (fun vs => [isV (vs.getD 0 undef), (rowV 0 45 2 L.length (L.flatMap handleC)), isV (vs.getD 2 undef), (isV (.bool r)), isV (vs.getD 4 undef)])
    Grow (fun _ w' => Below (w.heap.size + 1) (w.alloc (.cells #[.int .i64 s, .int .i64 g] 45)) w') mixed rfl (by kernel_rfl) (Below.refl _ _).drew rfl ?_
  iterate 5 apply Exists.intro
  refine ⟨?_, ?_, by repeat (first | exact allStab_nil | refine allStab_isV ?_ | refine allStab_rowV ?_)⟩
  · simp only [AllFrom.cons_eq, AllFrom.nil_eq, OpGoalT]
    refine ⟨?_, ?_, ?_, ?_, ?_, trivial⟩
    all_goals (intro L' σ w1 h1 h2 h3 hI hp; clear h1 h2 h3; (try simp only [List.getD_cons_zero, List.getD_cons_succ, preF_cons, preF_nil, isV, and_true] at hp); (first | (have hq : True := hp; clear hq hp) | skip))
    all_goals (
      have d0 : w1.cell? ⟨w.heap.size, 0, none⟩ = some (.int .i64 s) := (hI.cell (p := ⟨w.heap.size, 0, none⟩) (by simp)).trans (by simp)
      have d1 : w1.cell? ⟨w.heap.size, 1, none⟩ = some (.int .i64 g) := (hI.cell (p := ⟨w.heap.size, 1, none⟩) (by simp)).trans (by simp))
    all_goals (try (go_simp; exact ⟨rfl, hI, Grow.refl _⟩))
    · go_simp
      refine (H1.out w1 (((Below.refl w.heap.size w).alloc (Nat.le_refl _) _).trans (hI.mono (by omega)))).mono ?_
      rintro e w2 ⟨v, rfl, hown, hb⟩
      have hsz := hI.size
      simp only [World.size_alloc] at hsz
      exact ⟨_, rfl, row_base hown (by simp), hI.trans (hb.mono hsz), hb⟩
    · have hc := H2.out _ _ hp.2.1
      go_simp
      refine hc.mono ?_
      rintro e w2 ⟨rfl, hb⟩
      have hsz := hI.size
      simp only [World.size_alloc] at hsz
      exact ⟨_, rfl, rfl, hI.trans (hb.mono hsz), hb⟩
  · intro L' σ w1 h1 hI hp
    clear h1
    simp only [List.getD_cons_zero, List.getD_cons_succ, preF_cons, preF_nil, isV, and_true] at hp
    go_simp
    go_wp2
    go_ret
    exact ⟨rfl, ((Below.refl w.heap.size w).alloc (Nat.le_refl _) _).trans (hI.mono (by omega))⟩
  all_goals exact undef
end Go.Proofs.Ytkcpmoinpdojjaa
