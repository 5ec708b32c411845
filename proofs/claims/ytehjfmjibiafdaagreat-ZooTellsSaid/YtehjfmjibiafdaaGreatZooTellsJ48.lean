import Derived.Test.YtehjfmjibiafdaaGreatZooTellsJ47
/- slices.Reverse at handles. (printed by mk_revh.py) -/
namespace Go.Proofs.YtehjfmjibiafdaaGreat
open Go Go.RowKit

/-- A list of handles of one's own. -/
def ownHl (w : World) (B : Nat) (v : Value) (l : List Hd) : Prop := w.ownsRow B 41 2 v l.length (l.flatMap handleC)
theorem sz_Hdl (x : Hd) : (Tryz.prog.info? 41).map (·.size) = some (handleC x).length := by rw [handleC_len]; kernel_rfl
/-- Element k of such a list is stored. -/
theorem ownHl_set {w : World} {B g cap n : Nat} {l : List Hd} (hn : l.length = n) (h : w.ownsRow B 41 2 (.slice (some ⟨g, 0, none⟩) n cap) n (l.flatMap handleC)) {k : Nat} (hk : k < n) (y : Hd) :
    (w.setCells g (k * 2) (handleC y)).ownsRow B 41 2 (.slice (some ⟨g, 0, none⟩) n cap) n ((l.set k y).flatMap handleC) ∧ w.there g (k * 2) (handleC y).length := by
  subst hn
  have hlen := flatV_length handleC_len l
  have hb : (k + 1) * 2 ≤ l.length * 2 := Nat.mul_le_mul_right _ hk
  refine ⟨?_, row_there h (by rw [hlen]; show k * 2 + 2 ≤ _; omega)⟩
  have h2 := row_setCells (w := w) (handleC y) (k * 2) w _ h
  rw [show k * 2 = k * 2 + 0 from rfl, setL_flat handleC_len l k hk 0 (handleC y) y (by rw [handleC_len]; omega) (setL_all _ _ (by rw [handleC_len, handleC_len]))] at h2
  exact h2
theorem ownHl_load {w : World} {B g cap n : Nat} {l : List Hd} (hn : l.length = n) (h : w.ownsRow B 41 2 (.slice (some ⟨g, 0, none⟩) n cap) n (l.flatMap handleC)) {k : Nat} (hk : k < n) (x : Hd) (hx : l[k]'(by omega) = x) : ∀ j u, (handleC x)[j]? = some u → w.cell? ((⟨g, k * 2, none⟩ : Addr).add j) = some u := by
  subst hn; subst hx
  exact row_piece handleC_len h hk 0 (handleC l[k]) (fun j u hu => by rw [Nat.zero_add]; exact hu)

attribute [local go_sem] AllFrom.cons_eq AllFrom.nil_eq putF_nil putF_cons wantedL_none wantedL_some OpGoalQ YieldsR preF_nil preF_cons

set_option maxRecDepth 20000 in
set_option maxHeartbeats 2000000 in
theorem reverseH_any (B : Nat) (v : Value) (l : List Hd) (w : World) (hl : l.length ≤ 9223372036854775807) (h : ownHl w B v l) :
    Calls Tryz.prog 94 #[v] w fun e w' => e = .returned (.tuple #[]) ∧ ownHl w' B v l.reverse ∧ Mod v.ownBlock.toList w w' := by
  obtain ⟨A, cap, rfl, -, -⟩ := row_slice h
  have H := Lib.hid h
  have H0 := Lib.hid (revK_zero l)
  clear h
  go_enter Tryz.func94, Tryz.ntmps94
  go_wp2
  go_loopw [2, 3] (fun i j wr => ∃ k : Nat, k ≤ l.length ∧ i = .int .i64 k ∧ j = .int .i64 ((l.length : Int) - 1 - k) ∧ ownHl wr B (.slice A l.length cap) (revK l k) ∧ Mod (Value.slice A l.length cap).ownBlock.toList w wr) (fun i _ _ => l.length - (Go.RowKit.intOf i).toNat)
  case atStart => exact ⟨0, by omega, rfl, by go_num, by rw [H0.out]; exact H.out, Mod.refl _ _⟩
  case round =>
    obtain ⟨k, hk, rfl, rfl, hown, hmod⟩ := hrel
    by_cases hlt : 2 * k + 1 < l.length
    · obtain ⟨m, hm⟩ : ∃ m : Nat, l.length - 1 - k = m := ⟨_, rfl⟩
      have hmi : (l.length : Int) - 1 - k = (m : Int) := by omega
      rw [hmi]
      have hstep := revK_at l k m (by omega) (by omega)
      have hlr := revK_length l k
      obtain ⟨L, hL⟩ : ∃ L, L = revK l k := ⟨_, rfl⟩
      have hgk : L[k]'(by rw [hL, hlr]; omega) = l[k] := by subst hL; rw [revK_get l k k (by omega), if_neg (by omega)]
      have hgm : L[m]'(by rw [hL, hlr]; omega) = l[m] := by subst hL; rw [revK_get l k m (by omega), if_neg (by omega)]
      rw [← hL] at hown hstep hlr
      have hown : wr.ownsRow B 41 2 (.slice A l.length cap) l.length (L.flatMap handleC) := by unfold ownHl at hown; rw [hlr] at hown; exact hown
      obtain ⟨g0, cap0, cur0, he, -, -, -⟩ := row_some hown (by omega)
      cases he
      have hld1 := ownHl_load (w := wr.drew) hlr hown (k := k) (by omega) l[k] hgk
      have hld2 := ownHl_load (w := wr.drew) hlr hown (k := m) (by omega) l[m] hgm
      obtain ⟨hs1, ht1⟩ := ownHl_set (w := wr.drew) hlr hown (k := k) (by omega) l[m]
      obtain ⟨hs2, ht2⟩ := ownHl_set ((List.length_set ..).trans hlr) hs1 (k := m) (by omega) l[k]
      rw [hstep] at hs2
      have hs3 : ownHl ((wr.drew.setCells g0 (k * 2) (handleC l[m])).setCells g0 (m * 2) (handleC l[k])) B (.slice (some ⟨g0, 0, none⟩) l.length cap) (revK l (k + 1)) := by unfold ownHl; rw [revK_length]; exact hs2
      generalize l[m] = y at *
      generalize l[k] = x at *
      have hk1 : (k : Int) < (l.length : Int) := by omega
      have hm1 : (m : Int) < (l.length : Int) := by omega
      have hkm : (k : Int) < (m : Int) := by omega
      have hmod2 := mod_setCells (g := g0) (F := (Value.slice (some ⟨g0, 0, none⟩) l.length cap).ownBlock.toList) (.inl (by simp [Value.ownBlock])) (handleC x) (m * 2) _ (mod_setCells (g := g0) (.inl (by simp [Value.ownBlock])) (handleC y) (k * 2) _ hmod.drew)
      have Hkm := Lib.hid (show k + m + 1 = l.length by omega)
      have H1 := Lib.hid hld1; have H2 := Lib.hid hld2; have H3 := Lib.hid hs3; have H4 := Lib.hid ht1; have H5 := Lib.hid ht2; have H6 := Lib.hid hmod2
      have O1 := Lib.hid (handleC_one x); have O2 := Lib.hid (handleC_one y)
      clear hld1 hld2 hs1 hs2 hs3 ht1 ht2 hmod2 hmod hown hstep hgk hgm hL hlr hm hmi H
      go_wp2
      refine wp_planR 13 [0, 1, 2, 3, 4, 5, 8, 9] [some 14, some 15, some 16, some 17, some 18, some 19, some 20, some 21, some 22, some 23, some 24, some 25, some 26, none, some 27, none] [[], [], [], [], [], [], [4, 5], [4, 5, 6], [], [], [8, 9], [8, 9, 10], [0, 1, 4, 5, 6, 7, 8, 9, 10, 11], [0, 1, 4, 5, 6, 7, 8, 9, 10, 11, 12], [0, 1, 2, 3, 4, 5, 6, 7, 8, 9, 10, 11, 12, 13], [0, 1, 2, 3, 4, 5, 6, 7, 8, 9, 10, 11, 12, 13, 14]] [0, 1, 2, 3, 4, 5, 6, 7, 8, 9, 10, 11, 12] mixed rfl (by kernel_rfl) (by decide) (by decide) rfl ?_
      iterate 13 apply Exists.intro
      refine ⟨rfl, ?_, ?_⟩
      · simp only [List.take_succ_cons, List.take_zero, AllFrom.cons_eq, AllFrom.nil_eq, OpGoalQ]
        refine ⟨?_, ?_, ?_, ?_, ?_, ?_, ?_, ?_, ?_, ?_, ?_, ?_, ?_, trivial⟩
        all_goals (intro σ hp; (try simp only [List.getD_cons_zero, List.getD_cons_succ, List.map_cons, List.map_nil, preF_cons, preF_nil, isV, and_true] at hp); (first | (have hq : True := hp; clear hq hp) | skip))
        · (go_simp; exact ⟨rfl, rfl⟩)
        · (go_simp; exact ⟨rfl, rfl⟩)
        · (go_simp; exact ⟨rfl, rfl⟩)
        · (go_simp; exact ⟨rfl, rfl⟩)
        · (go_simp; exact ⟨rfl, rfl⟩)
        · (go_simp; exact ⟨rfl, rfl⟩)
        · (go_simp; exact ⟨rfl, rfl⟩)
        · (simp only [wantedL_none, ↓reduceIte, List.getD_cons_zero, List.getD_cons_succ]; refine yr_load 41 (.tmp 20) (by rfl) ⟨g0, m * 2, none⟩ ?_ (handleC y) _ Tryz.underlying41 rfl (sz_Hdl _) H2.out ?_; (· go_simp); (· exact ⟨rfl, rfl⟩))
        · (go_simp; exact ⟨rfl, rfl⟩)
        · (go_simp; exact ⟨rfl, rfl⟩)
        · (go_simp; exact ⟨rfl, rfl⟩)
        · (simp only [wantedL_none, ↓reduceIte, List.getD_cons_zero, List.getD_cons_succ]; refine yr_load 41 (.tmp 24) (by rfl) ⟨g0, k * 2, none⟩ ?_ (handleC x) _ Tryz.underlying41 rfl (sz_Hdl _) H1.out ?_; (· go_simp); (· exact ⟨rfl, rfl⟩))
        · (go_simp; exact ⟨rfl, rfl⟩)
      intro σ hp
      simp only [List.getD_cons_zero, List.getD_cons_succ, List.map_cons, List.map_nil, preF_cons, preF_nil, isV, and_true] at hp
      simp only [List.drop_succ_cons, List.drop_zero]
      go_simp
      clear hp
      refine wpList_store_at rfl 41 (.tmp 26) (.tmp 21) rfl g0 (k * 2) (handleC y) rfl rfl H4.out (sz_Hdl _) O2.out ?_
      generalize wr.drew.setCells g0 (k * 2) (handleC y) = W1 at *
      go_wp2_with (refine wpList_store_at rfl 41 (.tmp 27) (.tmp 25) rfl g0 (m * 2) (handleC x) rfl rfl H5.out (sz_Hdl _) O1.out ?_; generalize W1.setCells g0 (m * 2) (handleC x) = W2 at *)
      refine ⟨rfl, ?_⟩
      go_wp2
      go_roundw
      case rel => exact ⟨k + 1, by omega, by go_num, by rw [show (m : Int) - 1 = (l.length : Int) - 1 - ((k + 1 : Nat) : Int) by have := Hkm.out; omega], H3.out, H6.out⟩
      case measure => simp [Go.RowKit.intOf]; omega
    · obtain he := revK_end l k (by omega) hk
      rw [he] at hown
      have hge : ¬ ((k : Int) < (l.length : Int) - 1 - k) := by omega
      have Hown := Lib.hid hown
      clear hown he H
      go_wp2
      exact bodyPost_end (v := .tuple #[]) (by unfold results; try go_simp) rfl ⟨rfl, Hown.out, hmod⟩
end Go.Proofs.YtehjfmjibiafdaaGreat
