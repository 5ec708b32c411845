import Derived.Test.YtehjfmjibiafdaaGreatZooDoesJ10
import Derived.Test.YtehjfmjibiafdaaGreatZooDoesJ42
import Derived.Test.YtehjfmjibiafdaaGreatZooDoesJ31
/- The contract of Eq at lists of bonds. -/
namespace Go.Proofs.YtehjfmjibiafdaaGreat
open Go Go.RowKit

attribute [local go_sem] AllFrom.cons_eq AllFrom.nil_eq putF_nil putF_cons wantedL_none wantedL_some OpGoalQ YieldsR preF_nil preF_cons

set_option maxRecDepth 20000 in
set_option maxHeartbeats 1000000 in
theorem eqBond_any (A : Option Addr) (c : Nat) (A' : Option Addr) (c' : Nat) (l l' : List Bd) (w : World) (hl : l.length ≤ 9223372036854775807) (hl' : l'.length ≤ 9223372036854775807)
    (hA : Lies w w.heap.size A (l.flatMap bdC)) (hA' : Lies w w.heap.size A' (l'.flatMap bdC)) :
    Calls Tryz.prog 36 #[.slice A l.length c, .slice A' l'.length c'] w fun e w' => e = .returned (.bool (eqB l l')) ∧ Below w.heap.size w w' := by
  by_cases hlen : l.length = l'.length
  · have hb : ((l.length : Int) != (l'.length : Int)) = false := by simp [hlen]
    have Hlen := Lib.hid hlen
    clear hlen
    go_enter Tryz.func36, Tryz.ntmps36
    go_wp2
    go_loopw [14] (fun i wr => ∃ k : Nat, k ≤ l.length ∧ i = .int .i64 k ∧ l.take k = l'.take k ∧ Below w.heap.size w wr) (fun i _ => l.length - (intOf i).toNat)
    case atStart => exact ⟨0, by omega, rfl, rfl, Below.refl _ _⟩
    case round =>
      obtain ⟨k, hk, rfl, heq, hbel⟩ := hrel
      have Heq := Lib.hid heq
      clear heq hb
      have hsz := hbel.size
      by_cases hlt : k < l.length
      · have hlt' : k < l'.length := by rw [← Hlen.out]; exact hlt
        obtain ⟨ab, ao, rfl, hal, hc⟩ := hA.rec_at bdC_len (by omega) hlt
        obtain ⟨bb, bo, rfl, hbl, hc'⟩ := hA'.rec_at bdC_len (by omega) hlt'
        have hs := take_succ_get l k hlt
        have hs' := take_succ_get l' k hlt'
        have hne : l[k] ≠ l'[k] → l ≠ l' := by
          intro h e; subst e; exact h rfl
        have hc1 : ∀ j u, (bdC l[k])[j]? = some u → wr.cell? ((⟨ab, ao + k * 4, none⟩ : Addr).add j) = some u := fun j u hu => by
          have := (hbel.cell (p := ⟨ab, ao + k * 4 + j, none⟩) hal).trans (hc j u hu)
          rw [Addr.add_mid]; exact this
        have hc2 : ∀ j u, (bdC l'[k])[j]? = some u → wr.cell? ((⟨bb, bo + k * 4, none⟩ : Addr).add j) = some u := fun j u hu => by
          have := (hbel.cell (p := ⟨bb, bo + k * 4 + j, none⟩) hbl).trans (hc' j u hu)
          rw [Addr.add_mid]; exact this
        have hal2 : ab < wr.heap.size := by omega
        have hbl2 : bb < wr.heap.size := by omega
        have hin : (k : Int) < (l'.length : Int) := by omega
        generalize l[k] = x at *
        generalize l'[k] = y at *
        have Hs := Lib.hid hs; have Hs' := Lib.hid hs'; have Hne := Lib.hid hne; have Hc1 := Lib.hid hc1; have Hc2 := Lib.hid hc2; have Hbel := Lib.hid hbel
        have he := fun w => neqBond w x y
        clear hs hs' hne hc hc' hA hA' hc1 hc2 hbel
        generalize hr : eqB x y = r at *
        have Hr := Lib.hid hr
        clear hr
        have hDa : ∀ u ∈ bdC x, u.oneCell' = true := bdC_one x
        have HDa := Lib.hid hDa
        clear hDa
        go_wp2_with (first | (refine wpList_load_flat rfl 84 (.tmp 17) rfl _ rfl (bdC x) _ Tryz.underlying84 rfl (sz_Bond _) Hc1.out ?_) | (refine wpList_store_new rfl 84 (.tmp 6) (.tmp 18) rfl wr (ints [0, 0, 0, 0]) (bdC x) 84 rfl rfl rfl (sz_Bond _) HDa.out ?_))
        have hnew : ∀ j u, (bdC x)[j]? = some u → (wr.alloc (.cells (bdC x).toArray 84)).drew.cell? ((⟨wr.heap.size, 0, none⟩ : Addr).add j) = some u := fun j u hu => new_rec rfl (by simp) j u hu
        have hold : ∀ j u, (bdC y)[j]? = some u → (wr.alloc (.cells (bdC x).toArray 84)).drew.cell? ((⟨bb, bo + k * 4, none⟩ : Addr).add j) = some u := fun j u hu => by
          have := Hc2.out j u hu
          rw [Addr.add_mid] at this ⊢
          exact (((Below.refl wr.heap.size wr).alloc (Nat.le_refl _) _).cell (p := ⟨bb, bo + k * 4 + j, none⟩) hbl2).trans this
        have Hnew := Lib.hid hnew; have Hold := Lib.hid hold
        clear hnew hold
        refine wp_planR 6 [1, 2] [some 19, some 20, some 21, some 22, some 23, some 24] [[], [], [], [1, 2], [1, 2, 3], [0, 1, 2, 3, 4]] [0, 1, 2, 3, 4, 5] mixed rfl (by kernel_rfl) (by decide) (by decide) rfl ?_
        iterate 6 apply Exists.intro
        refine ⟨rfl, ?_, ?_⟩
        · simp only [List.take_succ_cons, List.take_zero, AllFrom.cons_eq, AllFrom.nil_eq, OpGoalQ]
          refine ⟨?_, ?_, ?_, ?_, ?_, ?_, trivial⟩
          all_goals (intro σ hp; (try simp only [List.getD_cons_zero, List.getD_cons_succ, List.map_cons, List.map_nil, preF_cons, preF_nil, isV, and_true] at hp); (first | (have hq : True := hp; clear hq hp) | skip))
          · (simp only [wantedL_none, ↓reduceIte, List.getD_cons_zero, List.getD_cons_succ]; refine yr_load 84 (.tmp 6) (by rfl) ⟨wr.heap.size, 0, none⟩ ?_ (bdC x) _ Tryz.underlying84 rfl (sz_Bond _) Hnew.out ?_; (· go_simp); (· exact ⟨rfl, rfl⟩))
          · (go_simp; exact ⟨rfl, rfl⟩)
          · (go_simp; exact ⟨rfl, rfl⟩)
          · (go_simp; exact ⟨rfl, rfl⟩)
          · (simp only [wantedL_none, ↓reduceIte, List.getD_cons_zero, List.getD_cons_succ]; refine yr_load 84 (.tmp 22) (by rfl) ⟨bb, bo + k * 4, none⟩ ?_ (bdC y) _ Tryz.underlying84 rfl (sz_Bond _) Hold.out ?_; (· go_simp); (· exact ⟨rfl, rfl⟩))
          · (go_simp; exact ⟨rfl, rfl⟩)
        intro σ hp
        simp only [List.getD_cons_zero, List.getD_cons_succ, List.map_cons, List.map_nil, preF_cons, preF_nil, isV, and_true] at hp
        simp only [List.drop_succ_cons, List.drop_zero]
        go_simp
        clear hp
        cases r with
        | true =>
          have hxy : x = y := by simpa [eqB] using Hr.out
          have Hxy := Lib.hid hxy
          clear hxy
          go_simp
          refine ⟨rfl, ?_⟩
          go_wp2
          go_roundw
          case rel => exact ⟨k + 1, by omega, by go_num, by rw [Hs.out, Hs'.out, Heq.out, Hxy.out], (Hbel.out.alloc hsz _).drew⟩
          case measure => simp [intOf]; omega
        | false =>
          have hxy : x ≠ y := by intro e; have := Hr.out; rw [e, eqB_self] at this; cases this
          have Hf := Lib.hid (eqB_ne (Hne.out hxy))
          clear hxy
          go_simp
          refine ⟨rfl, ?_⟩
          go_wp2
          go_ret
          exact ⟨by rw [Hf.out]; rfl, (Hbel.out.alloc hsz _).drew⟩
      · have he : l = l' := by
          have := Heq.out
          rwa [List.take_of_length_le (by omega), List.take_of_length_le (by have := Hlen.out; omega)] at this
        have Hf : Hid (eqB l l' = true) := by rw [he]; exact eqB_self _
        clear he
        go_wp2
        go_ret
        exact ⟨by rw [Hf.out]; rfl, hbel⟩
  · have hb : ((l.length : Int) != (l'.length : Int)) = true := by simp; omega
    have Hf := Lib.hid (eqB_ne (fun e : l = l' => hlen (congrArg List.length e)))
    clear hlen
    go_enter Tryz.func36, Tryz.ntmps36
    go_wp2
    go_ret
    exact ⟨by rw [Hf.out]; rfl, Below.refl _ _⟩
end Go.Proofs.YtehjfmjibiafdaaGreat

/- A family and the reference's bonds side by side; related. (printed by mk_fam6.py) -/
namespace Go.Proofs.YtehjfmjibiafdaaGreat
open Go Go.RowKit
attribute [local go_sem] AllFrom.cons_eq AllFrom.nil_eq putF_nil putF_cons wantedL_none wantedL_some OpGoalT OpGoalV OpGoalQ OpGoalA OpGoalK YieldsR preF_nil preF_cons

def AF (f : Nat) (B : List Bd) (w : World) (F : List Nat) : Prop := RepF w f B F
def AB (vg vl vr : Value) (q : Nat) (B : List Bd) (w : World) (F : List Nat) : Prop := RepB vg vl vr w q B F
abbrev PF (vg vl vr : Value) (Lo : Nat) (Z : List Nat) (f q : Nat) (B B' : List Bd) (w : World) : Prop := Sep Lo Z (AF f B) (AB vg vl vr q B') w
section
variable {vg vl vr : Value} {Lo : Nat} {Z : List Nat} {f q : Nat} {B B' : List Bd} {w : World}
theorem PF.ok (h : PF vg vl vr Lo Z f q B B' w) : FamOk B := by obtain ⟨F, G, h⟩ := h; exact h.a.ok
theorem radopt_any (hO : FamOk B) (hl : B.length ≤ 1200000000000) {F : List Nat} (h : RepB vg vl vr w q B F) (s g t u : Int) : Calls Tryz.prog 34 #[.pointer (some ⟨q, 0, none⟩), .agg #[.int .i64 s, .int .i64 g], .agg #[.int .i64 t, .int .i64 u]] w (RFRet vg vl vr (adoB B (s, g) (t, u)) (.int .i64 (adoE B (s, g) (t, u))) q F w) := by
  by_cases e : (s, g) = (t, u)
  · obtain ⟨rfl, rfl⟩ := Prod.mk.inj e
    rw [show adoB B (s, g) (s, g) = B by unfold adoB; rw [if_pos (Up.refl _)], show adoE B (s, g) (s, g) = 8 by unfold adoE; rw [if_pos (Up.refl _)]]
    exact radopt_same h s g
  · exact radopt_diff hO hl h s g t u e
end
end Go.Proofs.YtehjfmjibiafdaaGreat

/- Families: Children, Under. (printed by mk_fam7.py) -/
namespace Go.Proofs.YtehjfmjibiafdaaGreat
open Go Go.RowKit Go.Maps Go.Sort
attribute [local go_sem] AllFrom.cons_eq AllFrom.nil_eq putF_nil putF_cons wantedL_none wantedL_some OpGoalT OpGoalV OpGoalQ OpGoalA OpGoalK YieldsR preF_nil preF_cons

theorem kids_sorted {B : List Bd} (h : SortB B) (x : Hd) : (kidsB B x).Pairwise (fun a b => ltH a b = true) := by
  unfold kidsB
  rw [List.pairwise_map]
  exact h.sublist List.filter_sublist
/-- A permutation of the children that is sorted is the children. -/
theorem kids_eq {B C : List Bd} {x : Hd} {l : List Hd} (h : SortB B) (hC : C.Perm B) (hp : l.Perm (kidsB C x)) (hs : l.Pairwise (fun a b => ltH b a = false)) : l = kidsB B x := by
  have hk := kids_sorted h x
  have hp2 : l.Perm (kidsB B x) := hp.trans ((hC.filter _).map _)
  have hne : l.Pairwise (fun a b => a ≠ b) := (List.Perm.pairwise_iff (fun h => Ne.symm h) hp2).2 (hk.imp fun h => ltH_ne h)
  have hl : l.Pairwise (fun a b => ltH a b = true) := (hs.and hne).imp (by
    rintro a b ⟨h1, h2⟩
    cases e : ltH a b with
    | true => rfl
    | false => exact absurd (ltH_tri e h1) h2)
  refine List.Perm.eq_of_pairwise (le := fun a b : Hd => ltH a b = true) (fun a b ha hb h1 h2 => ?_) hl hk hp2
  rw [ltH_asymm h1] at h2; cases h2
theorem kids_app (C D : List Bd) (x : Hd) : kidsB (C ++ D) x = kidsB C x ++ kidsB D x := by unfold kidsB; rw [List.filter_append, List.map_append]
theorem kids_one (b : Bd) (x : Hd) : kidsB [b] x = if eqB b.2 x = true then [b.1] else [] := by
  unfold kidsB eqB
  by_cases e : b.2 = x <;> simp [e]
theorem kids_len (B : List Bd) (x : Hd) : (kidsB B x).length ≤ B.length := by
  unfold kidsB
  rw [List.length_map]
  exact List.length_filter_le _ _
section
variable {w : World} {f : Nat} {B : List Bd} {F : List Nat}
set_option maxRecDepth 20000 in
set_option maxHeartbeats 4000000 in
theorem fkids_any (h : RepF w f B F) (hB : B.length ≤ 1200000000000) (s g : Int) : Calls Tryz.prog 138 #[.pointer (some ⟨f, 0, none⟩), .agg #[.int .i64 s, .int .i64 g]] w (MadeRecs 41 2 handleC (kidsB B (s, g)) w) := by
  obtain ⟨w0, hw0, hb0, hz0, hs0⟩ := box1 w (.cells #[.int .i64 s, .int .i64 g] 41)
  obtain ⟨ho, hr, m, l, h1, h2, h3, hF, h5⟩ := h.below hb0
  obtain ⟨o, hrun, hR⟩ := h2.range Tryz.underlying115
  obtain ⟨w1, hw1, hb1, -, hs1⟩ := box1 w0 o
  rw [hw1] at hR
  have e0 := blk_cell h1 0
  simp only [List.getElem?_toArray, List.getElem?_cons_zero] at e0
  have hfl := blk_lt h1
  have hll : l.length ≤ 1200000000000 := by rw [h3.length_eq]; exact hB
  have HR := Lib.hid hR; have Hb0 := Lib.hid hb0; have Hb1 := Lib.hid hb1; have Hz0 := Lib.hid hz0; have Hs0 := Lib.hid hs0; have Hs1 := Lib.hid hs1; have Ho := Lib.hid ho; have H3 := Lib.hid h3; have Hll := Lib.hid hll
  clear hR hb0 hb1 hz0 hs0 hs1 ho h3 hll
  clear h h1 h2 hr hF h5 hB
  go_enter Tryz.func138, Tryz.ntmps138
  go_wp2_with fail
  clear hrun hw1 hw0 e0 hfl
  go_loopw [5, 14] (fun v _ wr => ∃ (D ts : List Bd), RangeAt Tryz.prog 41 wr m w0.heap.size (l.map bdPr) (ts.map bdPr) ∧ (D ++ ts).Perm l ∧ wr.ownsRow w0.heap.size 41 2 v (kidsB D (s, g)).length ((kidsB D (s, g)).flatMap handleC) ∧ Below w0.heap.size w0 wr) (fun _ _ wr => wr.rangeLeft m w0.heap.size)
  case atStart => exact ⟨[], l, HR.out, .refl _, ⟨rfl, .inl ⟨rfl, rfl⟩⟩, Hb1.out⟩
  case round =>
    obtain ⟨D, ts, hR, hp, hown, hB⟩ := hrel
    obtain ⟨A, cap, rfl, -, -⟩ := row_slice hown
    have hlen : D.length + ts.length = l.length := by rw [← List.length_append]; exact hp.length_eq
    have hkl := kids_len D (s, g)
    have hzr := (Mod.ofBelow hB).keep Hz0.out (by simp)
    by_cases hts : ts = []
    · subst hts
      have hov := fun ty => RangeAt.over (P := Tryz.prog) (by simpa using hR) ty
      simp only [List.append_nil] at hp
      have H1 := Lib.hid (sortHandles_any hown (by have := Hll.out; simp at hlen; omega))
      have Hp := Lib.hid hp; have HB := Lib.hid hB; have Hown := Lib.hid hown
      clear hp hB hown
      clear hR hlen hzr
      go_wp2_with fail
      refine H1.out.mono ?_
      rintro e w2 ⟨rfl, l', hp', hs', hown', hmod⟩
      have hl' : l' = kidsB B (s, g) := kids_eq Ho.out.so (Hp.out.trans H3.out) hp' (hs'.imp fun {x y} h => by
        have h : ltOf cmpH y x = false := h
        rw [ltHd_eq] at h; exact h)
      have hB2 : Below w0.heap.size w0 w2 := HB.out.trans (hmod.toBelow (fun x hx => own_ge Hown.out x (by simpa using hx)) HB.out.size)
      rw [hl'] at hown'
      have hown2 := row_base hown' (B' := w.heap.size) (fun k hk => by have := own_ge hown' k hk; have := Hs0.out; omega)
      have hBw := Hb0.out.trans (hB2.mono Hb0.out.size)
      have HBw := Lib.hid hBw; have HO2 := Lib.hid hown2
      clear hBw hown2
      clear hp' hs' hmod hl' hown' hB2
      go_wp2
      refine bodyPost_ret (v := .slice A (kidsB D (s, g)).length cap) (by unfold results; try go_simp) rfl ?_
      exact ⟨_, rfl, HO2.out, HBw.out⟩
    · obtain ⟨t1, x, t2, w2, rfl, hn, hen, hx, hR2, hm2, hs2⟩ := hR.nextE hts
      have hmeas := hR.left_eq
      obtain ⟨⟨c0, c1⟩, p0, p1⟩ := x
      have hne := own_ne_range hown hR
      have hrl := hR.lt
      have hown2 := row_mod hown hm2 (fun k hk e => by
        have hk' : k = w0.heap.size := by simpa using e
        subst hk'; exact hne.1 (by rw [hk]; simp))
      have hB2 : Below w0.heap.size w0 w2 := hB.trans (hm2.toBelow (by simp) hB.size)
      simp only [bdPr, hdV, handleC] at hn hen
      have hDl : (kidsB D (s, g)).length < 1200000000000 := by have := Hll.out; simp at hlen; omega
      have hzr2 := hm2.keep hzr (by have := Hs0.out; simp; omega)
      have hb24 : Below w2.heap.size w2 ((w2.alloc (.cells #[.int .i64 c0, .int .i64 c1] 41)).alloc (.cells #[.int .i64 p0, .int .i64 p1] 41)) := ((Below.refl _ _).alloc (Nat.le_refl _) _).alloc (by simp) _
      have hB4 := hB2.trans (hb24.mono hB2.size)
      have hown4 := row_mod hown2 (Mod.ofBelow hb24) (by simp)
      have hR4 := hR2.mod (Mod.ofBelow hb24) (by simp) (by simp)
      have heq := fun w => eqlHandle w p0 p1 s g
      have hka := kids_app D [((c0, c1), (p0, p1))] (s, g)
      rw [kids_one] at hka
      simp only at hka
      have q0 := blk_cell hzr2 0
      have q1 := blk_cell hzr2 1
      simp only [List.getElem?_toArray, List.getElem?_cons_zero, List.getElem?_cons_succ] at q0 q1
      have ql := blk_lt hzr2
      have HR := Lib.hid hR; have Hp := Lib.hid hp; have Hown := Lib.hid hown; have HB := Lib.hid hB; have HR2 := Lib.hid hR2; have Hm2 := Lib.hid hm2; have Hs2 := Lib.hid hs2; have Hmeas := Lib.hid hmeas; have HNe := Lib.hid hne; have Hown2 := Lib.hid hown2; have HB2 := Lib.hid hB2; have Hx := Lib.hid hx; have HDl := Lib.hid hDl; have HR4 := Lib.hid hR4; have Hown4 := Lib.hid hown4; have HB4 := Lib.hid hB4; have Hka := Lib.hid hka; have HKl := Lib.hid hkl
      clear hR hp hown hB hR2 hm2 hs2 hmeas hne hown2 hB2 hx hDl hR4 hown4 hB4 hka hkl
      clear hlen hzr hb24 hzr2
      cases hr : eqB (p0, p1) (s, g) with
      | false =>
        rw [hr] at heq
        have Hr := Lib.hid hr
        clear hr
        go_wp2_with fail
        go_roundw
        case rel =>
          refine ⟨D ++ [((c0, c1), (p0, p1))], t1 ++ t2, HR4.out, (mid_perm D t1 t2 _).symm.trans Hp.out, ?_, HB4.out⟩
          rw [Hka.out, if_neg (by rw [Hr.out]; simp), List.append_nil]
          exact Hown4.out
        case measure => rw [HR4.out.left_eq, Hmeas.out]; simp
      | true =>
        rw [hr] at heq
        have Hr := Lib.hid hr
        clear hr
        go_wp2_with (at_builtin; refine app_handleG rfl _ _ rfl w0.heap.size (.slice A (kidsB D (s, g)).length cap) (kidsB D (s, g)) (c0, c1) ⟨w2.heap.size + 2, 0, none⟩ 1 rfl (Hown4.out.alloc _) rfl (new_rec (by simp) rfl) (by have := HDl.out; omega) (by have := HB2.out.size; simp; omega) ?_; intro v' w5 hown5 hg5)
        go_roundw
        case rel =>
          refine ⟨D ++ [((c0, c1), (p0, p1))], t1 ++ t2, ?_, (mid_perm D t1 t2 _).symm.trans Hp.out, ?_, ?_⟩
          · exact (HR4.out.mod ((Mod.refl [] _).alloc _) (by simp) (by simp)).mod (grown_mod hg5) HNe.out.2 HNe.out.1
          · rw [Hka.out, if_pos Hr.out]; exact hown5
          · exact (HB4.out.alloc HB4.out.size _).trans ((Below.refl _ _).grown hg5 (by have := HB2.out.size; simp; omega) (own_ge Hown.out))
        case measure =>
          have h3 := (HR4.out.mod ((Mod.refl [] _).alloc _) (by simp) (by simp)).mod (grown_mod hg5) HNe.out.2 HNe.out.1
          rw [h3.left_eq, Hmeas.out]; simp
end
end Go.Proofs.YtehjfmjibiafdaaGreat
