/- Lists of changes: Clone, Reverse, Invert. -/
import Derived.Test.YtkcpmoinpdojjaaRec
import Derived.Lib.LazyBuf
namespace Go.Proofs.Ytkcpmoinpdojjaa
open Go Go.RowKit

/-- A change the other way round. -/
def invC (c : Cg) : Cg := (c.1, c.2.2, c.2.1)

/-- The elements 0 .. k - 1 changed with those at the end. -/
def revK {α : Type} (l : List α) (k : Nat) : List α := l.mapIdx fun i x => if i < k ∨ l.length - k ≤ i then l.getD (l.length - 1 - i) x else x
theorem revK_length {α : Type} (l : List α) (k : Nat) : (revK l k).length = l.length := by simp [revK]
theorem revK_zero {α : Type} (l : List α) : revK l 0 = l := by
  unfold revK
  apply List.ext_getElem (by simp)
  intro i h1 h2
  simp only [List.getElem_mapIdx]
  rw [if_neg (by simp at h1 ⊢; omega)]
theorem revK_get {α : Type} (l : List α) (k i : Nat) (h : i < l.length) : (revK l k)[i]'(by rw [revK_length]; exact h) = if i < k ∨ l.length - k ≤ i then l[l.length - 1 - i] else l[i] := by
  unfold revK
  simp only [List.getElem_mapIdx]
  split
  · rw [List.getD_eq_getElem?_getD, List.getElem?_eq_getElem (by omega)]; rfl
  · rfl
theorem revK_end {α : Type} (l : List α) (k : Nat) (h : l.length ≤ 2 * k + 1) (hk : k ≤ l.length) : revK l k = l.reverse := by
  apply List.ext_getElem (by rw [revK_length, List.length_reverse])
  intro i h1 h2
  rw [revK_length] at h1
  rw [revK_get l k i h1, List.getElem_reverse]
  split
  · rfl
  · congr 1; omega
theorem revK_step {α : Type} (l : List α) (k : Nat) (h : 2 * k + 1 < l.length) : ((revK l k).set k (l[l.length - 1 - k])).set (l.length - 1 - k) l[k] = revK l (k + 1) := by
  apply List.ext_getElem (by simp [revK_length])
  intro i h1 h2
  rw [revK_length] at h2
  rw [revK_get l (k + 1) i h2]
  by_cases e : i = l.length - 1 - k
  · subst e
    rw [List.getElem_set_self, if_pos (by omega)]
    congr 1; omega
  · rw [List.getElem_set_ne (Ne.symm e)]
    by_cases e2 : i = k
    · subst e2
      rw [List.getElem_set_self, if_pos (by omega)]
    · rw [List.getElem_set_ne (Ne.symm e2), revK_get l k i h2]
      by_cases h3 : i < k ∨ l.length - k ≤ i
      · rw [if_pos h3, if_pos (by omega)]
      · rw [if_neg h3, if_neg (by omega)]

theorem revK_at {α : Type} (l : List α) (k m : Nat) (h : k + m + 1 = l.length) (hkm : k < m) : ((revK l k).set k (l[m])).set m (l[k]) = revK l (k + 1) := by
  have := revK_step l k (by omega)
  have e : l.length - 1 - k = m := by omega
  simpa only [e] using this

/-- A list of changes of one's own. -/
def ownC (w : World) (B : Nat) (v : Value) (l : List Cg) : Prop := w.ownsRow B 102 20 v l.length (l.flatMap cgC)

def MadeC (l : List Cg) (w : World) (e : Ending) (w' : World) : Prop := ∃ v, e = .returned v ∧ ownC w' w.heap.size v l ∧ Below w.heap.size w w'

set_option maxRecDepth 100000 in
set_option maxHeartbeats 1000000 in
theorem cloneC_any (A : Option Addr) (c : Nat) (l : List Cg) (w : World) (hl : l.length * 160 ≤ 140737488351232) (hA : Lies w w.heap.size A (l.flatMap cgC)) (hn : A = none → l = []) (hc : A = none → c = 0) :
    Calls Try.prog 111 #[.slice A l.length c] w (MadeC l w) := by
  have Hl := Lib.hid hl
  have hl2 : l.length ≤ 9223372036854775807 := by omega
  clear hl
  cases A with
  | none =>
    obtain rfl := hn rfl
    obtain rfl := hc rfl
    clear hn hc hA Hl hl2
    have hnil := fun w => run_eql_slice_nil w 97 102 none 0 0 Try.underlying97
    simp only [Option.isNone_none] at hnil
    go_enter Try.func111, Try.ntmps111
    go_wp2
    go_ret
    exact ⟨_, rfl, ⟨rfl, .inl ⟨rfl, rfl⟩⟩, Below.refl _ _⟩
  | some a =>
    have hnews : ∀ j u, (l.flatMap cgC)[j]? = some u → w.cell? (a.add j) = some u := fun j u hu => by
      obtain ⟨a', e, _, h⟩ := hA j u hu
      cases e; exact h
    have hb : ∀ j u, (l.flatMap cgC)[j]? = some u → a.block < w.heap.size := fun j u hu => by
      obtain ⟨a', e, h, _⟩ := hA j u hu
      cases e; exact h
    have hnew2 : ∀ o, ∀ j u, (l.flatMap cgC)[j]? = some u → (w.alloc o).cell? (a.add j) = some u := fun o j u hu =>
      (((Below.refl w.heap.size w).alloc (Nat.le_refl _) o).cell (p := a.add j) (by rw [add_block]; exact hb j u hu)).trans (hnews j u hu)
    have HN := Lib.hid hnew2
    have H0 := Lib.hid (flatV_length cgC_len l)
    have HO := Lib.hid (show ∀ u ∈ l.flatMap cgC, u.oneCell' = true from fun u hu => by
      obtain ⟨x, _, hx⟩ := List.mem_flatMap.1 hu
      exact cgC_one x u hx)
    obtain ⟨i0, hi, hz0, hz1, hz2⟩ := info_parts inf_Change
    have HI := Lib.hid hi; have HZ0 := Lib.hid hz0; have HZ1 := Lib.hid hz1; have HZ2 := Lib.hid hz2
    clear hA hn hc hnews hb hnew2 hi hz0 hz1 hz2
    have hnil := fun w => run_eql_slice_nil w 97 102 (some a) l.length c Try.underlying97
    simp only [Option.isNone_some] at hnil
    go_enter Try.func111, Try.ntmps111
    go_wp2_with (at_builtin; refine wpList_append_own_at _ rfl _ _ 97 rfl w.heap.size 102 i0 _ 20 160 Try.underlying97 HI.out HZ0.out HZ1.out HZ2.out rfl (by omega) (.slice (some ⟨w.heap.size, 0, none⟩) 0 0) 0 [] rfl ⟨rfl, .inr ⟨w.heap.size, 0, #[], rfl, Nat.le_refl _, heap_alloc_new w _, Nat.le_refl _, by unfold maxLen; omega, rfl, rfl⟩⟩ a l.length c (l.flatMap cgC) rfl (H0.out) (HN.out _) HO.out (by unfold maxLen; omega) (by have := Hl.out; omega) (by simp) ?_; intro v' w' hown hg _ _)
    go_ret
    refine ⟨_, rfl, ?_, ((Below.refl w.heap.size w).alloc (Nat.le_refl _) _).grown hg (by simp) (fun k hk => by cases hk; exact Nat.le_refl _)⟩
    simpa [ownC] using hown

/-- Element k of such a list is stored. -/
theorem ownC_set {w : World} {B g cap n : Nat} {l : List Cg} (hn : l.length = n) (h : w.ownsRow B 102 20 (.slice (some ⟨g, 0, none⟩) n cap) n (l.flatMap cgC)) {k : Nat} (hk : k < n) (y : Cg) :
    (w.setCells g (k * 20) (cgC y)).ownsRow B 102 20 (.slice (some ⟨g, 0, none⟩) n cap) n ((l.set k y).flatMap cgC) ∧ w.there g (k * 20) (cgC y).length := by
  subst hn
  have hlen := flatV_length cgC_len l
  have hb : (k + 1) * 20 ≤ l.length * 20 := Nat.mul_le_mul_right _ hk
  refine ⟨?_, row_there h (by rw [hlen]; show k * 20 + 20 ≤ _; omega)⟩
  have h2 := row_setCells (w := w) (cgC y) (k * 20) w _ h
  rw [show k * 20 = k * 20 + 0 from rfl, setL_flat cgC_len l k hk 0 (cgC y) y (by rw [cgC_len]; omega) (setL_all _ _ (by rw [cgC_len, cgC_len]))] at h2
  exact h2
theorem ownC_load {w : World} {B g cap n : Nat} {l : List Cg} (hn : l.length = n) (h : w.ownsRow B 102 20 (.slice (some ⟨g, 0, none⟩) n cap) n (l.flatMap cgC)) {k : Nat} (hk : k < n) (x : Cg) (hx : l[k]'(by omega) = x) : ∀ j u, (cgC x)[j]? = some u → w.cell? ((⟨g, k * 20, none⟩ : Addr).add j) = some u := by
  subst hn; subst hx
  exact row_piece cgC_len h hk 0 (cgC l[k]) (fun j u hu => by rw [Nat.zero_add]; exact hu)

attribute [local go_sem] AllFrom.cons_eq AllFrom.nil_eq putF_nil putF_cons wantedL_none wantedL_some OpGoalQ YieldsR preF_nil preF_cons

set_option maxRecDepth 20000 in
set_option maxHeartbeats 2000000 in
theorem reverseC_any (B : Nat) (v : Value) (l : List Cg) (w : World) (hl : l.length ≤ 9223372036854775807) (h : ownC w B v l) :
    Calls Try.prog 112 #[v] w fun e w' => e = .returned (.tuple #[]) ∧ ownC w' B v l.reverse ∧ Mod v.ownBlock.toList w w' := by
  obtain ⟨A, cap, rfl, -, -⟩ := row_slice h
  have H := Lib.hid h
  have H0 := Lib.hid (revK_zero l)
  clear h
  go_enter Try.func112, Try.ntmps112
  go_wp2
  go_loopw [2, 3] (fun i j wr => ∃ k : Nat, k ≤ l.length ∧ i = .int .i64 k ∧ j = .int .i64 ((l.length : Int) - 1 - k) ∧ ownC wr B (.slice A l.length cap) (revK l k) ∧ Mod (Value.slice A l.length cap).ownBlock.toList w wr) (fun i _ _ => l.length - (intOf i).toNat)
  case atStart => exact ⟨0, by omega, rfl, by go_num, by rw [H0.out]; exact H.out, Mod.refl _ _⟩
  case round =>
    obtain ⟨k, hk, rfl, rfl, hown, hmod⟩ := hrel
    by_cases hlt : 2 * k + 1 < l.length
    · obtain ⟨m, hm⟩ : ∃ m : Nat, l.length - 1 - k = m := ⟨_, rfl⟩
      have hmi : (l.length : Int) - 1 - k = (m : Int) := by omega
      rw [hmi]
      have hstep := revK_at l k m (by omega) (by omega)
      have hlr := revK_length l k
      obtain ⟨L, hL⟩ : ∃ L, L = revK l k := ⟨_, rfl⟩
      have hgk : L[k]'(by rw [hL, hlr]; omega) = l[k] := by subst hL; rw [revK_get l k k (by omega), if_neg (by omega)]
      have hgm : L[m]'(by rw [hL, hlr]; omega) = l[m] := by subst hL; rw [revK_get l k m (by omega), if_neg (by omega)]
      rw [← hL] at hown hstep hlr
      have hown : wr.ownsRow B 102 20 (.slice A l.length cap) l.length (L.flatMap cgC) := by unfold ownC at hown; rw [hlr] at hown; exact hown
      obtain ⟨g0, cap0, cur0, he, -, -, -⟩ := row_some hown (by omega)
      cases he
      have hld1 := ownC_load (w := wr.drew) hlr hown (k := k) (by omega) l[k] hgk
      have hld2 := ownC_load (w := wr.drew) hlr hown (k := m) (by omega) l[m] hgm
      obtain ⟨hs1, ht1⟩ := ownC_set (w := wr.drew) hlr hown (k := k) (by omega) l[m]
      obtain ⟨hs2, ht2⟩ := ownC_set ((List.length_set ..).trans hlr) hs1 (k := m) (by omega) l[k]
      rw [hstep] at hs2
      have hs3 : ownC ((wr.drew.setCells g0 (k * 20) (cgC l[m])).setCells g0 (m * 20) (cgC l[k])) B (.slice (some ⟨g0, 0, none⟩) l.length cap) (revK l (k + 1)) := by unfold ownC; rw [revK_length]; exact hs2
      generalize l[m] = y at *
      generalize l[k] = x at *
      have hk1 : (k : Int) < (l.length : Int) := by omega
      have hm1 : (m : Int) < (l.length : Int) := by omega
      have hkm : (k : Int) < (m : Int) := by omega
      have hmod2 := mod_setCells (g := g0) (F := (Value.slice (some ⟨g0, 0, none⟩) l.length cap).ownBlock.toList) (.inl (by simp [Value.ownBlock])) (cgC x) (m * 20) _ (mod_setCells (g := g0) (.inl (by simp [Value.ownBlock])) (cgC y) (k * 20) _ hmod.drew)
      have Hkm := Lib.hid (show k + m + 1 = l.length by omega)
      have H1 := Lib.hid hld1; have H2 := Lib.hid hld2; have H3 := Lib.hid hs3; have H4 := Lib.hid ht1; have H5 := Lib.hid ht2; have H6 := Lib.hid hmod2
      have O1 := Lib.hid (cgC_one x); have O2 := Lib.hid (cgC_one y)
      clear hld1 hld2 hs1 hs2 hs3 ht1 ht2 hmod2 hmod hown hstep hgk hgm hL hlr hm hmi H
      go_wp2
      refine wp_planR 13 [0, 1, 2, 3, 4, 5, 8, 9] [some 14, some 15, some 16, some 17, some 18, some 19, some 20, some 21, some 22, some 23, some 24, some 25, some 26, none, some 27, none] [[], [], [], [], [], [], [4, 5], [4, 5, 6], [], [], [8, 9], [8, 9, 10], [0, 1, 4, 5, 6, 7, 8, 9, 10, 11], [0, 1, 4, 5, 6, 7, 8, 9, 10, 11, 12], [0, 1, 2, 3, 4, 5, 6, 7, 8, 9, 10, 11, 12, 13], [0, 1, 2, 3, 4, 5, 6, 7, 8, 9, 10, 11, 12, 13, 14]] [0, 1, 2, 3, 4, 5, 6, 7, 8, 9, 10, 11, 12] mixed rfl (by kernel_rfl) (by decide) (by decide) rfl ?_
      iterate 13 apply Exists.intro
      refine ⟨rfl, ?_, ?_⟩
      · simp only [List.take_succ_cons, List.take_zero, AllFrom.cons_eq, AllFrom.nil_eq, OpGoalQ]
        refine ⟨?_, ?_, ?_, ?_, ?_, ?_, ?_, ?_, ?_, ?_, ?_, ?_, ?_, trivial⟩
        all_goals (intro σ hp; (try simp only [List.getD_cons_zero, List.getD_cons_succ, List.map_cons, List.map_nil, preF_cons, preF_nil, isV, and_true] at hp); (first | (have hq : True := hp; clear hq hp) | skip))
        · (go_simp; exact ⟨rfl, rfl⟩)
        · (go_simp; exact ⟨rfl, rfl⟩)
        · (go_simp; exact ⟨rfl, rfl⟩)
        · (go_simp; exact ⟨rfl, rfl⟩)
        · (go_simp; exact ⟨rfl, rfl⟩)
        · (go_simp; exact ⟨rfl, rfl⟩)
        · (go_simp; exact ⟨rfl, rfl⟩)
        · (simp only [wantedL_none, ↓reduceIte, List.getD_cons_zero, List.getD_cons_succ]; refine yr_load 102 (.tmp 20) (by rfl) ⟨g0, m * 20, none⟩ ?_ (cgC y) _ Try.underlying102 rfl (sz_Change _) H2.out ?_; (· go_simp); (· exact ⟨rfl, rfl⟩))
        · (go_simp; exact ⟨rfl, rfl⟩)
        · (go_simp; exact ⟨rfl, rfl⟩)
        · (go_simp; exact ⟨rfl, rfl⟩)
        · (simp only [wantedL_none, ↓reduceIte, List.getD_cons_zero, List.getD_cons_succ]; refine yr_load 102 (.tmp 24) (by rfl) ⟨g0, k * 20, none⟩ ?_ (cgC x) _ Try.underlying102 rfl (sz_Change _) H1.out ?_; (· go_simp); (· exact ⟨rfl, rfl⟩))
        · (go_simp; exact ⟨rfl, rfl⟩)
      intro σ hp
      simp only [List.getD_cons_zero, List.getD_cons_succ, List.map_cons, List.map_nil, preF_cons, preF_nil, isV, and_true] at hp
      simp only [List.drop_succ_cons, List.drop_zero]
      go_simp
      clear hp
      refine wpList_store_at rfl 102 (.tmp 26) (.tmp 21) rfl g0 (k * 20) (cgC y) rfl rfl H4.out (sz_Change _) O2.out ?_
      generalize wr.drew.setCells g0 (k * 20) (cgC y) = W1 at *
      go_wp2_with (refine wpList_store_at rfl 102 (.tmp 27) (.tmp 25) rfl g0 (m * 20) (cgC x) rfl rfl H5.out (sz_Change _) O1.out ?_; generalize W1.setCells g0 (m * 20) (cgC x) = W2 at *)
      refine ⟨rfl, ?_⟩
      go_wp2
      go_roundw
      case rel => exact ⟨k + 1, by omega, by go_num, by rw [show (m : Int) - 1 = (l.length : Int) - 1 - ((k + 1 : Nat) : Int) by have := Hkm.out; omega], H3.out, H6.out⟩
      case measure => simp [intOf]; omega
    · obtain he := revK_end l k (by omega) hk
      rw [he] at hown
      have hge : ¬ ((k : Int) < (l.length : Int) - 1 - k) := by omega
      have Hown := Lib.hid hown
      clear hown he H
      go_wp2
      exact bodyPost_end (v := .tuple #[]) (by unfold results; try go_simp) rfl ⟨rfl, Hown.out, hmod⟩
end Go.Proofs.Ytkcpmoinpdojjaa
