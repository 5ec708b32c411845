/- Invert. -/
import Derived.Test.YtkcpmoinpdojjaaInv1
namespace Go.Proofs.Ytkcpmoinpdojjaa
open Go Go.RowKit

/-- A piece of a change is stored: its beasts. -/
theorem cg_split (c : Cg) : cgC c = handleC c.1 ++ btC c.2.1 ++ btC c.2.2 := by rw [cgC_parts, List.append_assoc]
theorem setL_old (c : Cg) (b : Bt) : setL (cgC c) 2 (btC b) = cgC (c.1, b, c.2.2) := by
  rw [cg_split, cg_split, show (2 : Nat) = (handleC c.1).length + 0 from rfl, setL_mid _ _ _ _ _ (by rw [btC_len, btC_len]; omega), setL_all _ _ (by rw [btC_len, btC_len])]
theorem setL_now (c : Cg) (b : Bt) : setL (cgC c) 11 (btC b) = cgC (c.1, c.2.1, b) := by
  have h := setL_mid (btC b) (handleC c.1 ++ btC c.2.1) (btC c.2.2) [] 0 (by rw [btC_len, btC_len]; omega)
  rw [List.append_nil, List.append_nil] at h
  rw [cg_split, cg_split, show (11 : Nat) = (handleC c.1 ++ btC c.2.1).length + 0 from rfl, h, setL_all _ _ (by rw [btC_len, btC_len])]
theorem cg_old (c : Cg) : ∀ j u, (btC c.2.1)[j]? = some u → (cgC c)[2 + j]? = some u := by
  intro j u hu
  rw [cgC_parts, List.getElem?_append_right (by show 2 ≤ 2 + j; omega), show 2 + j - (handleC c.1).length = j by show 2 + j - 2 = j; omega, List.getElem?_append_left (by have := (List.getElem?_eq_some_iff.1 hu).1; exact this)]
  exact hu
theorem cg_now (c : Cg) : ∀ j u, (btC c.2.2)[j]? = some u → (cgC c)[11 + j]? = some u := by
  intro j u hu
  rw [cg_split, List.getElem?_append_right (by show 11 ≤ 11 + j; omega), show 11 + j - (handleC c.1 ++ btC c.2.1).length = j by show 11 + j - 11 = j; omega]
  exact hu

/-- The changes of which the first k are turned. -/
def invK (l : List Cg) (k : Nat) : List Cg := (l.take k).map invC ++ l.drop k
theorem invK_length (l : List Cg) (k : Nat) : (invK l k).length = l.length := by unfold invK; simp; omega
theorem invK_get (l : List Cg) (k : Nat) (h : k < l.length) : (invK l k)[k]'(by rw [invK_length]; exact h) = l[k] := by
  unfold invK
  rw [List.getElem_append_right (by simp; omega)]
  simp [Nat.min_eq_left (Nat.le_of_lt h)]
theorem invK_step (l : List Cg) (k : Nat) (h : k < l.length) : (invK l k).set k (invC l[k]) = invK l (k + 1) := by
  unfold invK
  have e1 : ((l.take k).map invC).length = k := by simp; omega
  rw [List.set_append_right _ _ (by omega), e1, Nat.sub_self, take_succ_get l k h, List.map_append, List.append_assoc]
  congr 1
  rw [List.drop_eq_getElem_cons h]
  rfl

theorem ownC_piece {w : World} {B g cap n : Nat} {l : List Cg} (hn : l.length = n) (h : w.ownsRow B 102 20 (.slice (some ⟨g, 0, none⟩) n cap) n (l.flatMap cgC)) {k : Nat} (hk : k < n) (o : Nat) (ho : o + 9 ≤ 20) (b : Bt) (y : Cg) (hy : setL (cgC (l[k]'(by omega))) o (btC b) = cgC y) :
    (w.setCells g (k * 20 + o) (btC b)).ownsRow B 102 20 (.slice (some ⟨g, 0, none⟩) n cap) n ((l.set k y).flatMap cgC) ∧ w.there g (k * 20 + o) (btC b).length := by
  subst hn
  have hlen := flatV_length cgC_len l
  have hb : (k + 1) * 20 ≤ l.length * 20 := Nat.mul_le_mul_right _ hk
  refine ⟨?_, row_there h (by rw [hlen]; show k * 20 + o + 9 ≤ _; omega)⟩
  have h2 := row_setCells (w := w) (btC b) (k * 20 + o) w _ h
  rw [setL_flat cgC_len l k hk o (btC b) y (by rw [btC_len]; exact ho) hy] at h2
  exact h2

attribute [local go_sem] AllFrom.cons_eq AllFrom.nil_eq putF_nil putF_cons wantedL_none wantedL_some OpGoalQ YieldsR preF_nil preF_cons

set_option maxRecDepth 100000 in
set_option maxHeartbeats 4000000 in
theorem invert_any (A : Option Addr) (c : Nat) (l : List Cg) (w : World) (hl : l.length * 160 ≤ 140737488351232) (hA : Lies w w.heap.size A (l.flatMap cgC)) (hn : A = none → l = []) (hc : A = none → c = 0) :
    Calls Try.prog 52 #[.slice A l.length c] w (MadeC (l.reverse.map invC) w) := by
  have h1 := cloneC_any A c l w hl hA hn hc
  have H1 := Lib.hid h1
  obtain ⟨R, hR⟩ : ∃ R, R = l.reverse.map invC := ⟨_, rfl⟩
  rw [← hR]
  have HR := Lib.hid hR
  clear hR
  have hl2 : l.length ≤ 9223372036854775807 := by omega
  clear h1 hl hA hn hc
  go_enter Try.func52, Try.ntmps52
  go_wp2_with fail
  refine H1.out.mono ?_
  rintro e w1 ⟨v, rfl, hown, hb1⟩
  have hs1 := hb1.size
  have HO := Lib.hid hown; have HB := Lib.hid hb1
  have hlv := fun k hk => (hown.lt k hk).1
  have HLV := Lib.hid hlv
  clear hown hb1 H1 hlv
  obtain ⟨A1, cap1, rfl, -, -⟩ := row_slice HO.out
  go_wp2_with fail
  refine (reverseC_any _ _ l _ hl2 HO.out).mono ?_
  rintro e w2 ⟨rfl, hown, hmod⟩
  have hb2 : Below w.heap.size w w2 := HB.out.trans (hmod.toBelow (fun k hk => HLV.out k (by simpa using hk)) HB.out.size)
  have HB2 := Lib.hid hb2
  have hlr : l.reverse.length = l.length := List.length_reverse
  have hown : w2.ownsRow w.heap.size 102 20 (.slice A1 l.length cap1) l.length (l.reverse.flatMap cgC) := by unfold ownC at hown; rw [hlr] at hown; exact hown
  obtain ⟨r, hr⟩ : ∃ r, r = l.reverse := ⟨_, rfl⟩
  have HR2 := Lib.hid (show R = r.map invC by rw [HR.out, hr])
  rw [← hr] at hlr hown
  generalize l.length = n at *
  have HO2 := Lib.hid hown; have HLR := Lib.hid hlr
  clear hr hown hlr hmod hb2 HB HO hs1 HR
  go_wp2
  go_loopw [11] (fun i wr => ∃ k : Nat, k ≤ n ∧ i = .int .i64 k ∧ wr.ownsRow w.heap.size 102 20 (.slice A1 n cap1) n ((invK r k).flatMap cgC) ∧ Mod (Value.slice A1 n cap1).ownBlock.toList w2 wr) (fun i _ => n - (intOf i).toNat)
  case atStart => exact ⟨0, by omega, rfl, HO2.out, Mod.refl _ _⟩
  case round =>
    obtain ⟨k, hk, rfl, hown, hmod⟩ := hrel
    by_cases hlt : k < n
    · have hlen := (invK_length r k).trans HLR.out
      have hgk := invK_get r k (by rw [HLR.out]; exact hlt)
      have hst := invK_step r k (by rw [HLR.out]; exact hlt)
      obtain ⟨g0, cap0, cur0, he, -, -, -⟩ := row_some hown (by omega)
      cases he
      generalize r[k]'(by rw [HLR.out]; exact hlt) = x at *
      obtain ⟨h, o, nw⟩ := x
      have hp1 := row_piece (w := wr.drew) cgC_len (by rw [hlen]; exact hown) (k := k) (by rw [hlen]; exact hlt) 2 (btC o) (by rw [hgk]; exact cg_old (h, o, nw))
      have hp2 := row_piece (w := wr.drew) cgC_len (by rw [hlen]; exact hown) (k := k) (by rw [hlen]; exact hlt) 11 (btC nw) (by rw [hgk]; exact cg_now (h, o, nw))
      obtain ⟨hs1, ht1⟩ := ownC_piece (w := wr.drew) hlen hown hlt 2 (by omega) nw (h, nw, nw) (by rw [hgk]; exact setL_old (h, o, nw) nw)
      obtain ⟨hs2, ht2⟩ := ownC_piece ((List.length_set ..).trans hlen) hs1 hlt 11 (by omega) o (h, nw, o) (by rw [List.getElem_set_self]; exact setL_now (h, nw, nw) o)
      rw [List.set_set] at hs2
      rw [show invC (h, o, nw) = (h, nw, o) from rfl] at hst
      rw [hst] at hs2
      have hmod2 := mod_setCells (g := g0) (F := (Value.slice (some ⟨g0, 0, none⟩) n cap1).ownBlock.toList) (.inl (by simp [Value.ownBlock])) (btC o) (k * 20 + 11) _ (mod_setCells (g := g0) (.inl (by simp [Value.ownBlock])) (btC nw) (k * 20 + 2) _ hmod.drew)
      have hk1 : (k : Int) < (n : Int) := by omega
      have H1 := Lib.hid hp1; have H2 := Lib.hid hp2; have H3 := Lib.hid hs2; have H4 := Lib.hid ht1; have H5 := Lib.hid ht2; have H6 := Lib.hid hmod2
      have O1 := Lib.hid (btC_one o); have O2 := Lib.hid (btC_one nw)
      clear hp1 hp2 hs1 hs2 ht1 ht2 hmod2 hmod hown hst hgk hlen
      go_wp2
      refine wp_planR 16 [0, 1, 2, 3, 4, 5, 9, 10] [some 14, some 15, some 16, some 17, some 18, some 19, some 20, some 21, some 22, some 23, some 24, some 25, some 26, some 27, some 28, some 29, none, some 30, some 31, none] [[], [], [], [], [], [], [4, 5], [4, 5, 6], [4, 5, 6, 7], [], [], [9, 10], [9, 10, 11], [9, 10, 11, 12], [0, 1, 4, 5, 6, 7, 8, 9, 10, 11, 12, 13], [0, 1, 4, 5, 6, 7, 8, 9, 10, 11, 12, 13, 14], [0, 1, 4, 5, 6, 7, 8, 9, 10, 11, 12, 13, 14, 15], [0, 1, 2, 3, 4, 5, 6, 7, 8, 9, 10, 11, 12, 13, 14, 15, 16], [0, 1, 2, 3, 4, 5, 6, 7, 8, 9, 10, 11, 12, 13, 14, 15, 16, 17], [0, 1, 2, 3, 4, 5, 6, 7, 8, 9, 10, 11, 12, 13, 14, 15, 16, 17, 18]] [0, 1, 2, 3, 4, 5, 6, 7, 8, 9, 10, 11, 12, 13, 14, 15] mixed rfl (by kernel_rfl) (by decide) (by decide) rfl ?_
      iterate 16 apply Exists.intro
      refine ⟨rfl, ?_, ?_⟩
      · simp only [List.take_succ_cons, List.take_zero, AllFrom.cons_eq, AllFrom.nil_eq, OpGoalQ]
        refine ⟨?_, ?_, ?_, ?_, ?_, ?_, ?_, ?_, ?_, ?_, ?_, ?_, ?_, ?_, ?_, ?_, trivial⟩
        all_goals (intro σ hp; (try simp only [List.getD_cons_zero, List.getD_cons_succ, List.map_cons, List.map_nil, preF_cons, preF_nil, isV, and_true] at hp); (first | (have hq : True := hp; clear hq hp) | skip))
        · (go_simp; exact ⟨rfl, rfl⟩)
        · (go_simp; exact ⟨rfl, rfl⟩)
        · (go_simp; exact ⟨rfl, rfl⟩)
        · (go_simp; exact ⟨rfl, rfl⟩)
        · (go_simp; exact ⟨rfl, rfl⟩)
        · (go_simp; exact ⟨rfl, rfl⟩)
        · (go_simp; exact ⟨rfl, rfl⟩)
        · (go_simp; exact ⟨rfl, rfl⟩)
        · (simp only [wantedL_none, ↓reduceIte, List.getD_cons_zero, List.getD_cons_succ]; refine yr_load 24 (.tmp 21) (by rfl) ⟨g0, k * 20 + 11, none⟩ ?_ (btC nw) _ Try.underlying24 rfl (sz_Beast _) H2.out ?_; (· go_simp); (· exact ⟨rfl, rfl⟩))
        · (go_simp; exact ⟨rfl, rfl⟩)
        · (go_simp; exact ⟨rfl, rfl⟩)
        · (go_simp; exact ⟨rfl, rfl⟩)
        · (go_simp; exact ⟨rfl, rfl⟩)
        · (simp only [wantedL_none, ↓reduceIte, List.getD_cons_zero, List.getD_cons_succ]; refine yr_load 24 (.tmp 26) (by rfl) ⟨g0, k * 20 + 2, none⟩ ?_ (btC o) _ Try.underlying24 rfl (sz_Beast _) H1.out ?_; (· go_simp); (· exact ⟨rfl, rfl⟩))
        · (go_simp; exact ⟨rfl, rfl⟩)
        · (go_simp; exact ⟨rfl, rfl⟩)
      intro σ hp
      simp only [List.getD_cons_zero, List.getD_cons_succ, List.map_cons, List.map_nil, preF_cons, preF_nil, isV, and_true] at hp
      simp only [List.drop_succ_cons, List.drop_zero]
      go_simp
      clear hp
      refine wpList_store_at rfl 24 (.tmp 29) (.tmp 22) rfl g0 (k * 20 + 2) (btC nw) rfl rfl H4.out (sz_Beast _) O2.out ?_
      generalize wr.drew.setCells g0 (k * 20 + 2) (btC nw) = W1 at *
      go_wp2_with (refine wpList_store_at rfl 24 (.tmp 31) (.tmp 27) rfl g0 (k * 20 + 11) (btC o) rfl rfl H5.out (sz_Beast _) O1.out ?_; generalize W1.setCells g0 (k * 20 + 11) (btC o) = W2 at *)
      refine ⟨rfl, ?_⟩
      go_wp2
      go_roundw
      case rel => exact ⟨k + 1, by omega, by go_num, H3.out, H6.out⟩
      case measure => simp [intOf]; omega
    · obtain rfl : k = n := by omega
      have hres : invK r k = r.map invC := by unfold invK; rw [List.take_of_length_le (by rw [HLR.out]; omega), List.drop_of_length_le (by rw [HLR.out]; omega), List.append_nil]
      rw [hres, ← HR2.out] at hown
      have hlm : R.length = k := by rw [HR2.out]; exact (List.length_map ..).trans HLR.out
      have hfin : MadeC R w (.returned (.slice A1 k cap1)) wr := ⟨_, rfl, by unfold ownC; rw [hlm]; exact hown, HB2.out.trans (hmod.toBelow (fun j hj => HLV.out j (by simpa using hj)) HB2.out.size)⟩
      have HF := Lib.hid hfin
      clear hfin hres hown hmod hlm
      go_wp2
      go_ret
      exact HF.out
end Go.Proofs.Ytkcpmoinpdojjaa
