import Derived.Test.YtfbcdblgfhekpaaDiffBetweensJ9
import Derived.Lib.LazyBuf
import Derived.Deep.QuietTactic
import Derived.BigQuiet
/- Lists of changes: Clone, Reverse, Invert. -/
namespace Go.Proofs.Ytfbcdblgfhekpaa
open Go Go.RowKit

/-- A change the other way round. -/
def invC (c : Cg) : Cg := (c.1, c.2.2, c.2.1)

/-- The elements 0 .. k - 1 changed with those at the end. -/
def revK {α : Type} (l : List α) (k : Nat) : List α := l.mapIdx fun i x => if i < k ∨ l.length - k ≤ i then l.getD (l.length - 1 - i) x else x
theorem revK_length {α : Type} (l : List α) (k : Nat) : (revK l k).length = l.length := by simp [revK]
theorem revK_zero {α : Type} (l : List α) : revK l 0 = l := by
  unfold revK
  apply List.ext_getElem (by simp)
  intro i h1 h2
  simp only [List.getElem_mapIdx]
  rw [if_neg (by simp at h1 ⊢; omega)]
theorem revK_get {α : Type} (l : List α) (k i : Nat) (h : i < l.length) : (revK l k)[i]'(by rw [revK_length]; exact h) = if i < k ∨ l.length - k ≤ i then l[l.length - 1 - i] else l[i] := by
  unfold revK
  simp only [List.getElem_mapIdx]
  split
  · rw [List.getD_eq_getElem?_getD, List.getElem?_eq_getElem (by omega)]; rfl
  · rfl
theorem revK_end {α : Type} (l : List α) (k : Nat) (h : l.length ≤ 2 * k + 1) (hk : k ≤ l.length) : revK l k = l.reverse := by
  apply List.ext_getElem (by rw [revK_length, List.length_reverse])
  intro i h1 h2
  rw [revK_length] at h1
  rw [revK_get l k i h1, List.getElem_reverse]
  split
  · rfl
  · congr 1; omega
theorem revK_step {α : Type} (l : List α) (k : Nat) (h : 2 * k + 1 < l.length) : ((revK l k).set k (l[l.length - 1 - k])).set (l.length - 1 - k) l[k] = revK l (k + 1) := by
  apply List.ext_getElem (by simp [revK_length])
  intro i h1 h2
  rw [revK_length] at h2
  rw [revK_get l (k + 1) i h2]
  by_cases e : i = l.length - 1 - k
  · subst e
    rw [List.getElem_set_self, if_pos (by omega)]
    congr 1; omega
  · rw [List.getElem_set_ne (Ne.symm e)]
    by_cases e2 : i = k
    · subst e2
      rw [List.getElem_set_self, if_pos (by omega)]
    · rw [List.getElem_set_ne (Ne.symm e2), revK_get l k i h2]
      by_cases h3 : i < k ∨ l.length - k ≤ i
      · rw [if_pos h3, if_pos (by omega)]
      · rw [if_neg h3, if_neg (by omega)]

theorem revK_at {α : Type} (l : List α) (k m : Nat) (h : k + m + 1 = l.length) (hkm : k < m) : ((revK l k).set k (l[m])).set m (l[k]) = revK l (k + 1) := by
  have := revK_step l k (by omega)
  have e : l.length - 1 - k = m := by omega
  simpa only [e] using this

/-- A list of changes of one's own. -/
def ownC (w : World) (B : Nat) (v : Value) (l : List Cg) : Prop := w.ownsRow B 36 20 v l.length (l.flatMap cgC)

def MadeC (l : List Cg) (w : World) (e : Ending) (w' : World) : Prop := ∃ v, e = .returned v ∧ ownC w' w.heap.size v l ∧ Below w.heap.size w w'

/-- Element k of such a list is stored. -/
theorem ownC_set {w : World} {B g cap n : Nat} {l : List Cg} (hn : l.length = n) (h : w.ownsRow B 36 20 (.slice (some ⟨g, 0, none⟩) n cap) n (l.flatMap cgC)) {k : Nat} (hk : k < n) (y : Cg) :
    (w.setCells g (k * 20) (cgC y)).ownsRow B 36 20 (.slice (some ⟨g, 0, none⟩) n cap) n ((l.set k y).flatMap cgC) ∧ w.there g (k * 20) (cgC y).length := by
  subst hn
  have hlen := flatV_length cgC_len l
  have hb : (k + 1) * 20 ≤ l.length * 20 := Nat.mul_le_mul_right _ hk
  refine ⟨?_, row_there h (by rw [hlen]; show k * 20 + 20 ≤ _; omega)⟩
  have h2 := row_setCells (w := w) (cgC y) (k * 20) w _ h
  rw [show k * 20 = k * 20 + 0 from rfl, setL_flat cgC_len l k hk 0 (cgC y) y (by rw [cgC_len]; omega) (setL_all _ _ (by rw [cgC_len, cgC_len]))] at h2
  exact h2
theorem ownC_load {w : World} {B g cap n : Nat} {l : List Cg} (hn : l.length = n) (h : w.ownsRow B 36 20 (.slice (some ⟨g, 0, none⟩) n cap) n (l.flatMap cgC)) {k : Nat} (hk : k < n) (x : Cg) (hx : l[k]'(by omega) = x) : ∀ j u, (cgC x)[j]? = some u → w.cell? ((⟨g, k * 20, none⟩ : Addr).add j) = some u := by
  subst hn; subst hx
  exact row_piece cgC_len h hk 0 (cgC l[k]) (fun j u hu => by rw [Nat.zero_add]; exact hu)

attribute [local go_sem] AllFrom.cons_eq AllFrom.nil_eq putF_nil putF_cons wantedL_none wantedL_some OpGoalQ YieldsR preF_nil preF_cons

end Go.Proofs.Ytfbcdblgfhekpaa

/- Invert. -/
namespace Go.Proofs.Ytfbcdblgfhekpaa
open Go Go.RowKit

/-- A piece of a change is stored: its beasts. -/
theorem cg_split (c : Cg) : cgC c = handleC c.1 ++ btC c.2.1 ++ btC c.2.2 := by rw [cgC_parts, List.append_assoc]
theorem setL_old (c : Cg) (b : Bt) : setL (cgC c) 2 (btC b) = cgC (c.1, b, c.2.2) := by
  rw [cg_split, cg_split, show (2 : Nat) = (handleC c.1).length + 0 from rfl, setL_mid _ _ _ _ _ (by rw [btC_len, btC_len]; omega), setL_all _ _ (by rw [btC_len, btC_len])]
theorem setL_now (c : Cg) (b : Bt) : setL (cgC c) 11 (btC b) = cgC (c.1, c.2.1, b) := by
  have h := setL_mid (btC b) (handleC c.1 ++ btC c.2.1) (btC c.2.2) [] 0 (by rw [btC_len, btC_len]; omega)
  rw [List.append_nil, List.append_nil] at h
  rw [cg_split, cg_split, show (11 : Nat) = (handleC c.1 ++ btC c.2.1).length + 0 from rfl, h, setL_all _ _ (by rw [btC_len, btC_len])]
theorem cg_old (c : Cg) : ∀ j u, (btC c.2.1)[j]? = some u → (cgC c)[2 + j]? = some u := by
  intro j u hu
  rw [cgC_parts, List.getElem?_append_right (by show 2 ≤ 2 + j; omega), show 2 + j - (handleC c.1).length = j by show 2 + j - 2 = j; omega, List.getElem?_append_left (by have := (List.getElem?_eq_some_iff.1 hu).1; exact this)]
  exact hu
theorem cg_now (c : Cg) : ∀ j u, (btC c.2.2)[j]? = some u → (cgC c)[11 + j]? = some u := by
  intro j u hu
  rw [cg_split, List.getElem?_append_right (by show 11 ≤ 11 + j; omega), show 11 + j - (handleC c.1 ++ btC c.2.1).length = j by show 11 + j - 11 = j; omega]
  exact hu

/-- The changes of which the first k are turned. -/
def invK (l : List Cg) (k : Nat) : List Cg := (l.take k).map invC ++ l.drop k
theorem invK_length (l : List Cg) (k : Nat) : (invK l k).length = l.length := by unfold invK; simp; omega
theorem invK_get (l : List Cg) (k : Nat) (h : k < l.length) : (invK l k)[k]'(by rw [invK_length]; exact h) = l[k] := by
  unfold invK
  rw [List.getElem_append_right (by simp; omega)]
  simp [Nat.min_eq_left (Nat.le_of_lt h)]
theorem invK_step (l : List Cg) (k : Nat) (h : k < l.length) : (invK l k).set k (invC l[k]) = invK l (k + 1) := by
  unfold invK
  have e1 : ((l.take k).map invC).length = k := by simp; omega
  rw [List.set_append_right _ _ (by omega), e1, Nat.sub_self, take_succ_get l k h, List.map_append, List.append_assoc]
  congr 1
  rw [List.drop_eq_getElem_cons h]
  rfl

theorem ownC_piece {w : World} {B g cap n : Nat} {l : List Cg} (hn : l.length = n) (h : w.ownsRow B 36 20 (.slice (some ⟨g, 0, none⟩) n cap) n (l.flatMap cgC)) {k : Nat} (hk : k < n) (o : Nat) (ho : o + 9 ≤ 20) (b : Bt) (y : Cg) (hy : setL (cgC (l[k]'(by omega))) o (btC b) = cgC y) :
    (w.setCells g (k * 20 + o) (btC b)).ownsRow B 36 20 (.slice (some ⟨g, 0, none⟩) n cap) n ((l.set k y).flatMap cgC) ∧ w.there g (k * 20 + o) (btC b).length := by
  subst hn
  have hlen := flatV_length cgC_len l
  have hb : (k + 1) * 20 ≤ l.length * 20 := Nat.mul_le_mul_right _ hk
  refine ⟨?_, row_there h (by rw [hlen]; show k * 20 + o + 9 ≤ _; omega)⟩
  have h2 := row_setCells (w := w) (btC b) (k * 20 + o) w _ h
  rw [setL_flat cgC_len l k hk o (btC b) y (by rw [btC_len]; exact ho) hy] at h2
  exact h2

attribute [local go_sem] AllFrom.cons_eq AllFrom.nil_eq putF_nil putF_cons wantedL_none wantedL_some OpGoalQ YieldsR preF_nil preF_cons

end Go.Proofs.Ytfbcdblgfhekpaa

/- Between at one row that may not be. -/
namespace Go.Proofs.Ytfbcdblgfhekpaa
open Go Go.RowKit

def withinB (n lo hi : Int) : Bool := decide (lo ≤ n) && decide (n ≤ hi)
theorem within_any (n lo hi : Int) (w : World) : Calls Try.prog 27 #[.int .i64 n, .int .i64 lo, .int .i64 hi] w fun e w' => e = .returned (.bool (withinB n lo hi)) ∧ w = w' := by
  by_cases h : lo ≤ n
  · have hd : decide (lo ≤ n) = true := by simpa using h
    have H := Lib.hid (show withinB n lo hi = decide (n ≤ hi) by unfold withinB; rw [hd]; rfl)
    clear h
    go_enter Try.func27, Try.ntmps27
    go_wp2
    go_ret
    exact ⟨by rw [H.out]; rfl, rfl⟩
  · have hd : decide (lo ≤ n) = false := by simpa using h
    have H := Lib.hid (show withinB n lo hi = false by unfold withinB; rw [hd]; rfl)
    clear h
    go_enter Try.func27, Try.ntmps27
    go_wp2
    go_ret
    exact ⟨by rw [H.out]; rfl, rfl⟩

def badRow : List Value := ints [-1, 0, 0, 0, 0, 0, 0, 0, 0, 0, 0]
attribute [local go_sem] AllFrom.cons_eq AllFrom.nil_eq putF_nil putF_cons wantedL_none wantedL_some OpGoalQ YieldsR preF_nil preF_cons

set_option maxRecDepth 100000 in
set_option maxHeartbeats 4000000 in
theorem may_bad (b : Nat) (w : World) (hb : w.heap[b]? = some (.cells badRow.toArray 33 (0, 0))) :
    Calls Try.prog 11 #[.slice (some ⟨b, 0, none⟩) 1 1] w fun e w' => e = .returned (.bool false) ∧ Below w.heap.size w w' := by
  have hlt := blk_lt hb
  have hc : ∀ j u, badRow[j]? = some u → w.cell? ((⟨b, 0, none⟩ : Addr).add j) = some u := fun j u hu => by
    rw [Addr.add_mid, blk_cell hb]; simpa using hu
  have HC := Lib.hid hc
  have H1 := Lib.hid (show ∀ w, Calls Try.prog 27 #[.int .i64 (-1), .int .i64 0, .int .i64 59] w fun e w' => e = .returned (.bool false) ∧ w = w' from fun w => within_any (-1) 0 59 w)
  have H2 := Lib.hid (show ∀ w, Calls Try.prog 27 #[.int .i64 (-1), .int .i64 0, .int .i64 59] w fun e w' => e = .returned (.bool false) ∧ w' = w from fun w => (H1.out w).mono fun e w' ⟨h, h'⟩ => ⟨h, h'.symm⟩)
  have HO := Lib.hid (show ∀ u ∈ badRow, u.oneCell' = true from ints_one _)
  have HZ := Lib.hid (show (Try.prog.info? 33).map (·.size) = some badRow.length from info_of inf_Row)
  clear hb hc
  go_enter Try.func11, Try.ntmps11
  go_wp2
  go_loopw [7] (fun i wr => i = .int .i64 0 ∧ wr = w) (fun _ _ => 1)
  case atStart => exact ⟨rfl, rfl⟩
  case round =>
    obtain ⟨rfl, rfl⟩ := hrel
    go_wp2_with (first | (refine wpList_load_flat rfl 33 (.tmp 10) rfl _ rfl badRow _ Try.underlying33 rfl HZ.out HC.out ?_) | (refine wpList_store_new rfl 33 (.tmp 4) (.tmp 11) rfl wr (ints [0, 0, 0, 0, 0, 0, 0, 0, 0, 0, 0]) badRow 33 rfl rfl rfl HZ.out HO.out ?_))
    have hnew := heap_alloc_new wr (.cells badRow.toArray 33)
    have c0 : (wr.alloc (.cells badRow.toArray 33)).cell? ⟨wr.heap.size, 0, none⟩ = some (.int .i64 (-1)) := by rw [blk_cell hnew]; rfl
    have hbel : Below wr.heap.size wr (wr.alloc (.cells badRow.toArray 33)) := (Below.refl _ _).alloc (Nat.le_refl _) _
    have HB := Lib.hid hbel
    generalize wr.alloc (.cells badRow.toArray 33) = w1 at *
    clear hnew hbel
    go_wp2
    refine wp_planR 35 [] [some 12, some 13, some 14, some 15, some 16, some 17, some 18, some 19, some 20, some 21, some 22, some 23, some 24, some 25, some 26, some 27, some 28, some 29, some 30, some 31, some 32, some 33, some 34, some 35, some 36, some 37, some 38, some 39, some 40, some 41, some 42, some 43, some 44, some 45, some 46] [[], [0], [0, 1], [0, 1, 2], [0, 1, 2, 3], [0, 1, 2, 3, 4], [0, 1, 2, 3, 4, 5], [0, 1, 2, 3, 4, 5, 6], [0, 1, 2, 3, 4, 5, 6, 7], [0, 1, 2, 3, 4, 5, 6, 7, 8], [0, 1, 2, 3, 4, 5, 6, 7, 8, 9], [0, 1, 2, 3, 4, 5, 6, 7, 8, 9, 10], [0, 1, 2, 3, 4, 5, 6, 7, 8, 9, 10, 11], [0, 1, 2, 3, 4, 5, 6, 7, 8, 9, 10, 11, 12], [0, 1, 2, 3, 4, 5, 6, 7, 8, 9, 10, 11, 12, 13], [0, 1, 2, 3, 4, 5, 6, 7, 8, 9, 10, 11, 12, 13, 14], [0, 1, 2, 3, 4, 5, 6, 7, 8, 9, 10, 11, 12, 13, 14, 15], [0, 1, 2, 3, 4, 5, 6, 7, 8, 9, 10, 11, 12, 13, 14, 15, 16], [0, 1, 2, 3, 4, 5, 6, 7, 8, 9, 10, 11, 12, 13, 14, 15, 16, 17], [0, 1, 2, 3, 4, 5, 6, 7, 8, 9, 10, 11, 12, 13, 14, 15, 16, 17, 18], [0, 1, 2, 3, 4, 5, 6, 7, 8, 9, 10, 11, 12, 13, 14, 15, 16, 17, 18, 19], [0, 1, 2, 3, 4, 5, 6, 7, 8, 9, 10, 11, 12, 13, 14, 15, 16, 17, 18, 19, 20], [0, 1, 2, 3, 4, 5, 6, 7, 8, 9, 10, 11, 12, 13, 14, 15, 16, 17, 18, 19, 20, 21], [0, 1, 2, 3, 4, 5, 6, 7, 8, 9, 10, 11, 12, 13, 14, 15, 16, 17, 18, 19, 20, 21, 22], [0, 1, 2, 3, 4, 5, 6, 7, 8, 9, 10, 11, 12, 13, 14, 15, 16, 17, 18, 19, 20, 21, 22, 23], [0, 1, 2, 3, 4, 5, 6, 7, 8, 9, 10, 11, 12, 13, 14, 15, 16, 17, 18, 19, 20, 21], [0, 1, 2, 3, 4, 5, 6, 7, 8, 9, 10, 11, 12, 13, 14, 15, 16, 17, 18, 19, 20, 21], [0, 1, 2, 3, 4, 5, 6, 7, 8, 9, 10, 11, 12, 13, 14, 15, 16, 17, 18, 19, 20, 21, 26], [0, 1, 2, 3, 4, 5, 6, 7, 8, 9, 10, 11, 12, 13, 14, 15, 16, 17, 18, 19, 20, 21, 25, 26, 27], [0, 1, 2, 3, 4, 5, 6, 7, 8, 9, 10, 11, 12, 13, 14, 15, 16, 17, 18, 19, 20, 21, 25, 26, 27, 28], [0, 1, 2, 3, 4, 5, 6, 7, 8, 9, 10, 11, 12, 13, 14, 15, 16, 17, 18, 19, 20, 21, 25, 26, 27, 28, 29], [0, 1, 2, 3, 4, 5, 6, 7, 8, 9, 10, 11, 12, 13, 14, 15, 16, 17, 18, 19, 20, 21, 25, 26, 27, 28, 29, 30], [0, 1, 2, 3, 4, 5, 6, 7, 8, 9, 10, 11, 12, 13, 14, 15, 16, 17, 18, 19, 20, 21, 22, 23, 24, 25, 26, 27, 28, 29, 30, 31], [0, 1, 2, 3, 4, 5, 6, 7, 8, 9, 10, 11, 12, 13, 14, 15, 16, 17, 18, 19, 20, 21, 22, 23, 24, 25, 26, 27, 28, 29, 30, 31, 32], [0, 1, 2, 3, 4, 5, 6, 7, 8, 9, 10, 11, 12, 13, 14, 15, 16, 17, 18, 19, 20, 21, 22, 23, 24, 25, 26, 27, 28, 29, 30, 31, 32, 33]] [0, 1, 2, 3, 4, 5, 6, 7, 8, 9, 10, 11, 12, 13, 14, 15, 16, 17, 18, 19, 20, 21, 22, 23, 24, 25, 26, 27, 28, 29, 30, 31, 32, 33, 34] mixed rfl (by kernel_rfl) (by decide) (by decide) rfl ?_
    iterate 35 apply Exists.intro
    refine ⟨rfl, ?_, ?_⟩
    · simp only [List.take_succ_cons, List.take_zero, AllFrom.cons_eq, AllFrom.nil_eq, OpGoalQ]
      refine ⟨?_, ?_, ?_, ?_, ?_, ?_, ?_, ?_, ?_, ?_, ?_, ?_, ?_, ?_, ?_, ?_, ?_, ?_, ?_, ?_, ?_, ?_, ?_, ?_, ?_, ?_, ?_, ?_, ?_, ?_, ?_, ?_, ?_, ?_, ?_, trivial⟩
      all_goals (intro σ hp; (try simp only [List.getD_cons_zero, List.getD_cons_succ, List.map_cons, List.map_nil, preF_cons, preF_nil, isV, and_true] at hp); (first | (have hq : True := hp; clear hq hp) | skip))
      · (go_simp; exact ⟨rfl, rfl⟩)
      · (go_simp; exact ⟨rfl, rfl⟩)
      · (go_simp; exact ⟨rfl, rfl⟩)
      · (go_simp; refine (H1.out _).mono ?_; rintro e w4 ⟨rfl, rfl⟩; exact ⟨_, rfl, rfl, rfl⟩)
      · (go_simp; exact ⟨rfl, rfl⟩)
      · (go_simp; exact ⟨rfl, rfl⟩)
      · (go_simp; exact ⟨rfl, rfl⟩)
      · (go_simp; exact ⟨rfl, rfl⟩)
      · (go_simp; exact ⟨rfl, rfl⟩)
      · (go_simp; exact ⟨rfl, rfl⟩)
      · (go_simp; exact ⟨rfl, rfl⟩)
      · (go_simp; exact ⟨rfl, rfl⟩)
      · (go_simp; exact ⟨rfl, rfl⟩)
      · (go_simp; exact ⟨rfl, rfl⟩)
      · (go_simp; exact ⟨rfl, rfl⟩)
      · (go_simp; exact ⟨rfl, rfl⟩)
      · (go_simp; exact ⟨rfl, rfl⟩)
      · (go_simp; exact ⟨rfl, rfl⟩)
      · (go_simp; exact ⟨rfl, rfl⟩)
      · (go_simp; exact ⟨rfl, rfl⟩)
      · (go_simp; exact ⟨rfl, rfl⟩)
      · (go_simp; exact ⟨rfl, rfl⟩)
      · (go_simp; exact ⟨rfl, rfl⟩)
      · (go_simp; exact ⟨rfl, rfl⟩)
      · (go_simp; exact ⟨rfl, rfl⟩)
      · (go_simp; exact ⟨rfl, rfl⟩)
      · (go_simp; exact ⟨rfl, rfl⟩)
      · (go_simp; exact ⟨rfl, rfl⟩)
      · (go_simp; exact ⟨rfl, rfl⟩)
      · (go_simp; exact ⟨rfl, rfl⟩)
      · (go_simp; exact ⟨rfl, rfl⟩)
      · (go_simp; exact ⟨rfl, rfl⟩)
      · (go_simp; exact ⟨rfl, rfl⟩)
      · (go_simp; exact ⟨rfl, rfl⟩)
      · (go_simp; exact ⟨rfl, rfl⟩)
    intro σ hp
    simp only [List.getD_cons_zero, List.getD_cons_succ, List.map_cons, List.map_nil, preF_cons, preF_nil, isV, and_true] at hp
    simp only [List.drop_succ_cons, List.drop_zero]
    go_simp
    clear hp
    refine ⟨rfl, ?_⟩
    go_wp2
    go_ret
    exact ⟨rfl, HB.out.drew⟩

set_option maxRecDepth 100000 in
set_option maxHeartbeats 1000000 in
theorem between_bad (b : Nat) (w : World) (hb : w.heap[b]? = some (.cells badRow.toArray 33 (0, 0))) :
    Calls Try.prog 5 #[.slice (some ⟨b, 0, none⟩) 1 1, .slice none 0 0] w fun e w' => e = .returned (.tuple #[.slice none 0 0, .int .i64 4]) ∧ Below w.heap.size w w' := by
  have H := Lib.hid (may_bad b w hb)
  clear hb
  go_enter Try.func5, Try.ntmps5
  go_wp2_with fail
  refine H.out.mono ?_
  rintro e w1 ⟨rfl, hb1⟩
  have HB := Lib.hid hb1
  clear hb1
  go_wp2
  go_ret2
  exact ⟨rfl, HB.out⟩
end Go.Proofs.Ytfbcdblgfhekpaa

/- The contract of Eq at lists of changes. -/
namespace Go.Proofs.Ytfbcdblgfhekpaa
open Go Go.RowKit

attribute [local go_sem] AllFrom.cons_eq AllFrom.nil_eq putF_nil putF_cons wantedL_none wantedL_some OpGoalQ YieldsR preF_nil preF_cons

set_option maxRecDepth 20000 in
set_option maxHeartbeats 1000000 in
theorem eqChange_any (A : Option Addr) (c : Nat) (A' : Option Addr) (c' : Nat) (l l' : List Cg) (w : World) (hl : l.length ≤ 9223372036854775807) (hl' : l'.length ≤ 9223372036854775807)
    (hA : Lies w w.heap.size A (l.flatMap cgC)) (hA' : Lies w w.heap.size A' (l'.flatMap cgC)) :
    Calls Try.prog 7 #[.slice A l.length c, .slice A' l'.length c'] w fun e w' => e = .returned (.bool (eqB l l')) ∧ Below w.heap.size w w' := by
  by_cases hlen : l.length = l'.length
  · have hb : ((l.length : Int) != (l'.length : Int)) = false := by simp [hlen]
    have Hlen := Lib.hid hlen
    clear hlen
    go_enter Try.func7, Try.ntmps7
    go_wp2
    go_loopw [14] (fun i wr => ∃ k : Nat, k ≤ l.length ∧ i = .int .i64 k ∧ l.take k = l'.take k ∧ Below w.heap.size w wr) (fun i _ => l.length - (intOf i).toNat)
    case atStart => exact ⟨0, by omega, rfl, rfl, Below.refl _ _⟩
    case round =>
      obtain ⟨k, hk, rfl, heq, hbel⟩ := hrel
      have Heq := Lib.hid heq
      clear heq hb
      have hsz := hbel.size
      by_cases hlt : k < l.length
      · have hlt' : k < l'.length := by rw [← Hlen.out]; exact hlt
        obtain ⟨ab, ao, rfl, hal, hc⟩ := hA.rec_at cgC_len (by omega) hlt
        obtain ⟨bb, bo, rfl, hbl, hc'⟩ := hA'.rec_at cgC_len (by omega) hlt'
        have hs := take_succ_get l k hlt
        have hs' := take_succ_get l' k hlt'
        have hne : l[k] ≠ l'[k] → l ≠ l' := by
          intro h e; subst e; exact h rfl
        have hc1 : ∀ j u, (cgC l[k])[j]? = some u → wr.cell? ((⟨ab, ao + k * 20, none⟩ : Addr).add j) = some u := fun j u hu => by
          have := (hbel.cell (p := ⟨ab, ao + k * 20 + j, none⟩) hal).trans (hc j u hu)
          rw [Addr.add_mid]; exact this
        have hc2 : ∀ j u, (cgC l'[k])[j]? = some u → wr.cell? ((⟨bb, bo + k * 20, none⟩ : Addr).add j) = some u := fun j u hu => by
          have := (hbel.cell (p := ⟨bb, bo + k * 20 + j, none⟩) hbl).trans (hc' j u hu)
          rw [Addr.add_mid]; exact this
        have hal2 : ab < wr.heap.size := by omega
        have hbl2 : bb < wr.heap.size := by omega
        have hin : (k : Int) < (l'.length : Int) := by omega
        generalize l[k] = x at *
        generalize l'[k] = y at *
        have Hs := Lib.hid hs; have Hs' := Lib.hid hs'; have Hne := Lib.hid hne; have Hc1 := Lib.hid hc1; have Hc2 := Lib.hid hc2; have Hbel := Lib.hid hbel
        have he := fun w => neqChange w x y
        clear hs hs' hne hc hc' hA hA' hc1 hc2 hbel
        generalize hr : eqB x y = r at *
        have Hr := Lib.hid hr
        clear hr
        have hDa : ∀ u ∈ cgC x, u.oneCell' = true := cgC_one x
        have HDa := Lib.hid hDa
        clear hDa
        go_wp2_with (first | (refine wpList_load_flat rfl 36 (.tmp 17) rfl _ rfl (cgC x) _ Try.underlying36 rfl (sz_Change _) Hc1.out ?_) | (refine wpList_store_new rfl 36 (.tmp 6) (.tmp 18) rfl wr (ints [0, 0, 0, 0, 0, 0, 0, 0, 0, 0, 0, 0, 0, 0, 0, 0, 0, 0, 0, 0]) (cgC x) 36 rfl rfl rfl (sz_Change _) HDa.out ?_))
        have hnew : ∀ j u, (cgC x)[j]? = some u → (wr.alloc (.cells (cgC x).toArray 36)).drew.cell? ((⟨wr.heap.size, 0, none⟩ : Addr).add j) = some u := fun j u hu => new_rec rfl (by simp) j u hu
        have hold : ∀ j u, (cgC y)[j]? = some u → (wr.alloc (.cells (cgC x).toArray 36)).drew.cell? ((⟨bb, bo + k * 20, none⟩ : Addr).add j) = some u := fun j u hu => by
          have := Hc2.out j u hu
          rw [Addr.add_mid] at this ⊢
          exact (((Below.refl wr.heap.size wr).alloc (Nat.le_refl _) _).cell (p := ⟨bb, bo + k * 20 + j, none⟩) hbl2).trans this
        have Hnew := Lib.hid hnew; have Hold := Lib.hid hold
        clear hnew hold
        refine wp_planR 6 [1, 2] [some 19, some 20, some 21, some 22, some 23, some 24] [[], [], [], [1, 2], [1, 2, 3], [0, 1, 2, 3, 4]] [0, 1, 2, 3, 4, 5] mixed rfl (by kernel_rfl) (by decide) (by decide) rfl ?_
        iterate 6 apply Exists.intro
        refine ⟨rfl, ?_, ?_⟩
        · simp only [List.take_succ_cons, List.take_zero, AllFrom.cons_eq, AllFrom.nil_eq, OpGoalQ]
          refine ⟨?_, ?_, ?_, ?_, ?_, ?_, trivial⟩
          all_goals (intro σ hp; (try simp only [List.getD_cons_zero, List.getD_cons_succ, List.map_cons, List.map_nil, preF_cons, preF_nil, isV, and_true] at hp); (first | (have hq : True := hp; clear hq hp) | skip))
          · (simp only [wantedL_none, ↓reduceIte, List.getD_cons_zero, List.getD_cons_succ]; refine yr_load 36 (.tmp 6) (by rfl) ⟨wr.heap.size, 0, none⟩ ?_ (cgC x) _ Try.underlying36 rfl (sz_Change _) Hnew.out ?_; (· go_simp); (· exact ⟨rfl, rfl⟩))
          · (go_simp; exact ⟨rfl, rfl⟩)
          · (go_simp; exact ⟨rfl, rfl⟩)
          · (go_simp; exact ⟨rfl, rfl⟩)
          · (simp only [wantedL_none, ↓reduceIte, List.getD_cons_zero, List.getD_cons_succ]; refine yr_load 36 (.tmp 22) (by rfl) ⟨bb, bo + k * 20, none⟩ ?_ (cgC y) _ Try.underlying36 rfl (sz_Change _) Hold.out ?_; (· go_simp); (· exact ⟨rfl, rfl⟩))
          · (go_simp; exact ⟨rfl, rfl⟩)
        intro σ hp
        simp only [List.getD_cons_zero, List.getD_cons_succ, List.map_cons, List.map_nil, preF_cons, preF_nil, isV, and_true] at hp
        simp only [List.drop_succ_cons, List.drop_zero]
        go_simp
        clear hp
        cases r with
        | true =>
          have hxy : x = y := by simpa [eqB] using Hr.out
          have Hxy := Lib.hid hxy
          clear hxy
          go_simp
          refine ⟨rfl, ?_⟩
          go_wp2
          go_roundw
          case rel => exact ⟨k + 1, by omega, by go_num, by rw [Hs.out, Hs'.out, Heq.out, Hxy.out], (Hbel.out.alloc hsz _).drew⟩
          case measure => simp [intOf]; omega
        | false =>
          have hxy : x ≠ y := by intro e; have := Hr.out; rw [e, eqB_self] at this; cases this
          have Hf := Lib.hid (eqB_ne (Hne.out hxy))
          clear hxy
          go_simp
          refine ⟨rfl, ?_⟩
          go_wp2
          go_ret
          exact ⟨by rw [Hf.out]; rfl, (Hbel.out.alloc hsz _).drew⟩
      · have he : l = l' := by
          have := Heq.out
          rwa [List.take_of_length_le (by omega), List.take_of_length_le (by have := Hlen.out; omega)] at this
        have Hf : Hid (eqB l l' = true) := by rw [he]; exact eqB_self _
        clear he
        go_wp2
        go_ret
        exact ⟨by rw [Hf.out]; rfl, hbel⟩
  · have hb : ((l.length : Int) != (l'.length : Int)) = true := by simp; omega
    have Hf := Lib.hid (eqB_ne (fun e : l = l' => hlen (congrArg List.length e)))
    clear hlen
    go_enter Try.func7, Try.ntmps7
    go_wp2
    go_ret
    exact ⟨by rw [Hf.out]; rfl, Below.refl _ _⟩
end Go.Proofs.Ytfbcdblgfhekpaa
