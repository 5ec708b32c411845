import Derived.Test.YtehjfmjibiafdaaGreatZooAllsJ0
import Derived.Test.YtehjfmjibiafdaaGreatZooAllsJ26
import Derived.Shelf.SlIterI.Collect
/- A part of the proof that the law ZooAlls returns true for every input. -/
namespace Go.Proofs.YtehjfmjibiafdaaGreat
open Go Go.RowKit
attribute [local go_sem] AllFrom.cons_eq AllFrom.nil_eq putF_nil putF_cons wantedL_none wantedL_some OpGoalQ YieldsR preF_nil preF_cons
set_option maxRecDepth 20000 in
set_option maxHeartbeats 1000000 in
theorem eqBond_any (A : Option Addr) (c : Nat) (A' : Option Addr) (c' : Nat) (l l' : List Bd) (w : World) (hl : l.length ≤ 9223372036854775807) (hl' : l'.length ≤ 9223372036854775807)
  (hA : Lies w w.heap.size A (l.flatMap bdC)) (hA' : Lies w w.heap.size A' (l'.flatMap bdC)) :
  Calls Tryz.prog 36 #[.slice A l.length c, .slice A' l'.length c'] w fun e w' => e = .returned (.bool (eqB l l')) ∧ Below w.heap.size w w' := by
 by_cases hlen : l.length = l'.length
 ·have hb : ((l.length : Int) != (l'.length : Int)) = false := by simp [hlen]
  have Hlen := Lib.hid hlen
  clear hlen
  go_enter Tryz.func36, Tryz.ntmps36
  go_wp2
  go_loopw [14] (fun i wr => ∃ k : Nat, k ≤ l.length ∧ i = .int .i64 k ∧ l.take k = l'.take k ∧ Below w.heap.size w wr) (fun i _ => l.length - (Go.RowKit.intOf i).toNat)
  case atStart => exact ⟨0, by omega, rfl, rfl, Below.refl _ _⟩
  case round =>
   obtain ⟨k, hk, rfl, heq, hbel⟩ := hrel
   have Heq := Lib.hid heq
   clear heq hb
   have hsz := hbel.size
   by_cases hlt : k < l.length
   ·have hlt' : k < l'.length := by rw [← Hlen.out]; exact hlt
    obtain ⟨ab, ao, rfl, hal, hc⟩ := hA.rec_at bdC_len (by omega) hlt
    obtain ⟨bb, bo, rfl, hbl, hc'⟩ := hA'.rec_at bdC_len (by omega) hlt'
    have hs := take_succ_get l k hlt
    have hs' := take_succ_get l' k hlt'
    have hne : l[k] ≠ l'[k] → l ≠ l' := by
     intro h e; subst e; exact h rfl
    have hc1 : ∀ j u, (bdC l[k])[j]? = some u → wr.cell? ((⟨ab, ao + k * 4, none⟩ : Addr).add j) = some u := fun j u hu => by
     have := (hbel.cell (p := ⟨ab, ao + k * 4 + j, none⟩) hal).trans (hc j u hu)
     rw [Addr.add_mid]; exact this
    have hc2 : ∀ j u, (bdC l'[k])[j]? = some u → wr.cell? ((⟨bb, bo + k * 4, none⟩ : Addr).add j) = some u := fun j u hu => by
     have := (hbel.cell (p := ⟨bb, bo + k * 4 + j, none⟩) hbl).trans (hc' j u hu)
     rw [Addr.add_mid]; exact this
    have hal2 : ab < wr.heap.size := by omega
    have hbl2 : bb < wr.heap.size := by omega
    have hin : (k : Int) < (l'.length : Int) := by omega
    generalize l[k] = x at *
    generalize l'[k] = y at *
    obtain ⟨Hs, Hs', Hne, Hc1, Hc2, Hbel⟩ := hid6 hs hs' hne hc1 hc2 hbel
    have he := fun w => neqBond w x y
    clear hs hs' hne hc hc' hA hA' hc1 hc2 hbel
    generalize hr : eqB x y = r at *
    have Hr := Lib.hid hr
    clear hr
    have hDa : ∀ u ∈ bdC x, u.oneCell' = true := bdC_one x
    have HDa := Lib.hid hDa
    clear hDa
    go_wp2_with (first | (refine wpList_load_flat rfl 84 (.tmp 17) rfl _ rfl (bdC x) _ Tryz.underlying84 rfl (sz_Bond _) Hc1.out ?_) | (refine wpList_store_new rfl 84 (.tmp 6) (.tmp 18) rfl wr (ints [0, 0, 0, 0]) (bdC x) 84 rfl rfl rfl (sz_Bond _) HDa.out ?_))
    have hnew : ∀ j u, (bdC x)[j]? = some u → (wr.alloc (.cells (bdC x).toArray 84)).drew.cell? ((⟨wr.heap.size, 0, none⟩ : Addr).add j) = some u := fun j u hu => new_rec rfl (by simp) j u hu
    have hold : ∀ j u, (bdC y)[j]? = some u → (wr.alloc (.cells (bdC x).toArray 84)).drew.cell? ((⟨bb, bo + k * 4, none⟩ : Addr).add j) = some u := fun j u hu => by
     have := Hc2.out j u hu
     rw [Addr.add_mid] at this ⊢
     exact (((Below.refl wr.heap.size wr).alloc (Nat.le_refl _) _).cell (p := ⟨bb, bo + k * 4 + j, none⟩) hbl2).trans this
    obtain ⟨Hnew, Hold⟩ := hid2 hnew hold
    clear hnew hold
    refine wp_planR 6 [1, 2] [some 19, some 20, some 21, some 22, some 23, some 24] [[], [], [], [1, 2], [1, 2, 3], [0, 1, 2, 3, 4]] [0, 1, 2, 3, 4, 5] mixed rfl (by kernel_rfl) (by decide) (by decide) rfl ?_
    iterate 6 apply Exists.intro
    refine ⟨rfl, ?_, ?_⟩
    ·simp only [List.take_succ_cons, List.take_zero, AllFrom.cons_eq, AllFrom.nil_eq, OpGoalQ]
     refine ⟨?_, ?_, ?_, ?_, ?_, ?_, trivial⟩
     all_goals (intro σ hp; (try simp only [List.getD_cons_zero, List.getD_cons_succ, List.map_cons, List.map_nil, preF_cons, preF_nil, isV, and_true] at hp); (first | (have hq : True := hp; clear hq hp) | skip))
     ·(simp only [wantedL_none, ↓reduceIte, List.getD_cons_zero, List.getD_cons_succ]; refine yr_load 84 (.tmp 6) (by rfl) ⟨wr.heap.size, 0, none⟩ ?_ (bdC x) _ Tryz.underlying84 rfl (sz_Bond _) Hnew.out ?_; (· go_simp); (· exact ⟨rfl, rfl⟩))
     iterate 3 · (go_simp; exact ⟨rfl, rfl⟩)
     ·(simp only [wantedL_none, ↓reduceIte, List.getD_cons_zero, List.getD_cons_succ]; refine yr_load 84 (.tmp 22) (by rfl) ⟨bb, bo + k * 4, none⟩ ?_ (bdC y) _ Tryz.underlying84 rfl (sz_Bond _) Hold.out ?_; (· go_simp); (· exact ⟨rfl, rfl⟩))
     ·(go_simp; exact ⟨rfl, rfl⟩)
    intro σ hp
    simp only [List.getD_cons_zero, List.getD_cons_succ, List.map_cons, List.map_nil, preF_cons, preF_nil, isV, and_true] at hp
    simp only [List.drop_succ_cons, List.drop_zero]
    go_simp
    clear hp
    cases r with
    | true =>
     have hxy : x = y := by simpa [eqB] using Hr.out
     have Hxy := Lib.hid hxy
     clear hxy
     go_simp
     refine ⟨rfl, ?_⟩
     go_wp2
     go_roundw
     case rel => exact ⟨k + 1, by omega, by go_num, by rw [Hs.out, Hs'.out, Heq.out, Hxy.out], (Hbel.out.alloc hsz _).drew⟩
     case measure => simp [Go.RowKit.intOf]; omega
    | false =>
     have hxy : x ≠ y := by intro e; have := Hr.out; rw [e, eqB_self] at this; cases this
     have Hf := Lib.hid (eqB_ne (Hne.out hxy))
     clear hxy
     go_simp
     refine ⟨rfl, ?_⟩
     go_wp2
     go_ret
     exact ⟨by rw [Hf.out]; rfl, (Hbel.out.alloc hsz _).drew⟩
   ·have he : l = l' := by
     have := Heq.out
     rwa [List.take_of_length_le (by omega), List.take_of_length_le (by have := Hlen.out; omega)] at this
    have Hf : Hid (eqB l l' = true) := by rw [he]; exact eqB_self _
    clear he
    go_wp2
    go_ret
    exact ⟨by rw [Hf.out]; rfl, hbel⟩
 ·have hb : ((l.length : Int) != (l'.length : Int)) = true := by simp; omega
  have Hf := Lib.hid (eqB_ne (fun e : l = l' => hlen (congrArg List.length e)))
  clear hlen
  go_enter Tryz.func36, Tryz.ntmps36
  go_wp2
  go_ret
  exact ⟨by rw [Hf.out]; rfl, Below.refl _ _⟩
end Go.Proofs.YtehjfmjibiafdaaGreat
namespace Go.Proofs.YtehjfmjibiafdaaGreat
open Go Go.RowKit
attribute [local go_sem] AllFrom.cons_eq AllFrom.nil_eq putF_nil putF_cons wantedL_none wantedL_some OpGoalT OpGoalV OpGoalQ OpGoalA OpGoalK YieldsR preF_nil preF_cons
section
variable {vg vl vr : Value} {Lo : Nat} {Z : List Nat} {f q : Nat} {B B' : List Bd} {w : World}
theorem radopt_any (hO : FamOk B) (hl : B.length ≤ 1200000000000) {F : List Nat} (h : RepB vg vl vr w q B F) (s g t u : Int) : Calls Tryz.prog 34 #[.pointer (some ⟨q, 0, none⟩), .agg #[.int .i64 s, .int .i64 g], .agg #[.int .i64 t, .int .i64 u]] w (RFRet vg vl vr (adoB B (s, g) (t, u)) (.int .i64 (adoE B (s, g) (t, u))) q F w) := by
 by_cases e : (s, g) = (t, u)
 ·obtain ⟨rfl, rfl⟩ := Prod.mk.inj e
  rw [show adoB B (s, g) (s, g) = B by unfold adoB; rw [if_pos (Up.refl _)], show adoE B (s, g) (s, g) = 8 by unfold adoE; rw [if_pos (Up.refl _)]]
  exact radopt_same h s g
 ·exact radopt_diff hO hl h s g t u e
end
end Go.Proofs.YtehjfmjibiafdaaGreat
namespace Go.Proofs.YtehjfmjibiafdaaGreat
open Go Go.RowKit Go.Maps Go.Sort
attribute [local go_sem] AllFrom.cons_eq AllFrom.nil_eq putF_nil putF_cons wantedL_none wantedL_some OpGoalT OpGoalV OpGoalQ OpGoalA OpGoalK YieldsR preF_nil preF_cons
theorem kids_sorted {B : List Bd} (h : SortB B) (x : Hd) : (kidsB B x).Pairwise (fun a b => ltH a b = true) := by
 unfold kidsB
 rw [List.pairwise_map]
 exact h.sublist List.filter_sublist
theorem kids_eq {B C : List Bd} {x : Hd} {l : List Hd} (h : SortB B) (hC : C.Perm B) (hp : l.Perm (kidsB C x)) (hs : l.Pairwise (fun a b => ltH b a = false)) : l = kidsB B x := by
 have hk := kids_sorted h x
 have hp2 : l.Perm (kidsB B x) := hp.trans ((hC.filter _).map _)
 have hne : l.Pairwise (fun a b => a ≠ b) := (List.Perm.pairwise_iff (fun h => Ne.symm h) hp2).2 (hk.imp fun h => ltH_ne h)
 have hl : l.Pairwise (fun a b => ltH a b = true) := (hs.and hne).imp (by
  rintro a b ⟨h1, h2⟩
  cases e : ltH a b with
  | true => rfl
  | false => exact absurd (ltH_tri e h1) h2)
 refine List.Perm.eq_of_pairwise (le := fun a b : Hd => ltH a b = true) (fun a b ha hb h1 h2 => ?_) hl hk hp2
 rw [ltH_asymm h1] at h2; cases h2
theorem kids_app (C D : List Bd) (x : Hd) : kidsB (C ++ D) x = kidsB C x ++ kidsB D x := by unfold kidsB; rw [List.filter_append, List.map_append]
theorem kids_one (b : Bd) (x : Hd) : kidsB [b] x = if eqB b.2 x = true then [b.1] else [] := by
 unfold kidsB eqB
 by_cases e : b.2 = x <;> simp [e]
theorem kids_len (B : List Bd) (x : Hd) : (kidsB B x).length ≤ B.length := by
 unfold kidsB
 rw [List.length_map]
 exact List.length_filter_le _ _
section
variable {w : World} {f : Nat} {B : List Bd} {F : List Nat}
set_option maxRecDepth 20000 in
set_option maxHeartbeats 4000000 in
theorem fkids_any (h : RepF w f B F) (hB : B.length ≤ 1200000000000) (s g : Int) : Calls Tryz.prog 138 #[.pointer (some ⟨f, 0, none⟩), .agg #[.int .i64 s, .int .i64 g]] w (MadeRecs 41 2 handleC (kidsB B (s, g)) w) := by
 obtain ⟨w0, hw0, hb0, hz0, hs0⟩ := box1 w (.cells #[.int .i64 s, .int .i64 g] 41)
 obtain ⟨ho, hr, m, l, h1, h2, h3, hF, h5⟩ := h.below hb0
 obtain ⟨o, hrun, hR⟩ := h2.range Tryz.underlying115
 obtain ⟨w1, hw1, hb1, -, hs1⟩ := box1 w0 o
 rw [hw1] at hR
 have e0 := blk_cell h1 0
 simp only [List.getElem?_toArray, List.getElem?_cons_zero] at e0
 have hfl := blk_lt h1
 have hll : l.length ≤ 1200000000000 := by rw [h3.length_eq]; exact hB
 obtain ⟨HR, Hb0, Hb1, Hz0, Hs0, Hs1, Ho, H3, Hll⟩ := hid9 hR hb0 hb1 hz0 hs0 hs1 ho h3 hll
 clear hR hb0 hb1 hz0 hs0 hs1 ho h3 hll
 clear h h1 h2 hr hF h5 hB
 go_enter Tryz.func138, Tryz.ntmps138
 go_wp2_with fail
 clear hrun hw1 hw0 e0 hfl
 go_loopw [5, 14] (fun v _ wr => ∃ (D ts : List Bd), RangeAt Tryz.prog 41 wr m w0.heap.size (l.map bdPr) (ts.map bdPr) ∧ (D ++ ts).Perm l ∧ wr.ownsRow w0.heap.size 41 2 v (kidsB D (s, g)).length ((kidsB D (s, g)).flatMap handleC) ∧ Below w0.heap.size w0 wr) (fun _ _ wr => wr.rangeLeft m w0.heap.size)
 case atStart => exact ⟨[], l, HR.out, .refl _, ⟨rfl, .inl ⟨rfl, rfl⟩⟩, Hb1.out⟩
 case round =>
  obtain ⟨D, ts, hR, hp, hown, hB⟩ := hrel
  obtain ⟨A, cap, rfl, -, -⟩ := row_slice hown
  have hlen : D.length + ts.length = l.length := by rw [← List.length_append]; exact hp.length_eq
  have hkl := kids_len D (s, g)
  have hzr := (Mod.ofBelow hB).keep Hz0.out (by simp)
  by_cases hts : ts = []
  ·subst hts
   have hov := fun ty => RangeAt.over (P := Tryz.prog) (by simpa using hR) ty
   simp only [List.append_nil] at hp
   have H1 := Lib.hid (sortHandles_any hown (by have := Hll.out; simp at hlen; omega))
   obtain ⟨Hp, HB, Hown⟩ := hid3 hp hB hown
   clear hp hB hown
   clear hR hlen hzr
   go_wp2_with fail
   refine H1.out.mono ?_
   rintro e w2 ⟨rfl, l', hp', hs', hown', hmod⟩
   have hl' : l' = kidsB B (s, g) := kids_eq Ho.out.so (Hp.out.trans H3.out) hp' (hs'.imp fun {x y} h => by
    have h : ltOf cmpH y x = false := h
    rw [ltHd_eq] at h; exact h)
   have hB2 : Below w0.heap.size w0 w2 := HB.out.trans (hmod.toBelow (fun x hx => own_ge Hown.out x (by simpa using hx)) HB.out.size)
   rw [hl'] at hown'
   have hown2 := row_base hown' (B' := w.heap.size) (fun k hk => by have := own_ge hown' k hk; have := Hs0.out; omega)
   have hBw := Hb0.out.trans (hB2.mono Hb0.out.size)
   obtain ⟨HBw, HO2⟩ := hid2 hBw hown2
   clear hBw hown2
   clear hp' hs' hmod hl' hown' hB2
   go_wp2
   refine bodyPost_ret (v := .slice A (kidsB D (s, g)).length cap) (by unfold results; try go_simp) rfl ?_
   exact ⟨_, rfl, HO2.out, HBw.out⟩
  ·obtain ⟨t1, x, t2, w2, rfl, hn, hen, hx, hR2, hm2, hs2⟩ := hR.nextE hts
   have hmeas := hR.left_eq
   obtain ⟨⟨c0, c1⟩, p0, p1⟩ := x
   have hne := own_ne_range hown hR
   have hrl := hR.lt
   have hown2 := row_mod hown hm2 (fun k hk e => by
    have hk' : k = w0.heap.size := by simpa using e
    subst hk'; exact hne.1 (by rw [hk]; simp))
   have hB2 : Below w0.heap.size w0 w2 := hB.trans (hm2.toBelow (by simp) hB.size)
   simp only [bdPr, hdV, handleC] at hn hen
   have hDl : (kidsB D (s, g)).length < 1200000000000 := by have := Hll.out; simp at hlen; omega
   have hzr2 := hm2.keep hzr (by have := Hs0.out; simp; omega)
   have hb24 : Below w2.heap.size w2 ((w2.alloc (.cells #[.int .i64 c0, .int .i64 c1] 41)).alloc (.cells #[.int .i64 p0, .int .i64 p1] 41)) := ((Below.refl _ _).alloc (Nat.le_refl _) _).alloc (by simp) _
   have hB4 := hB2.trans (hb24.mono hB2.size)
   have hown4 := row_mod hown2 (Mod.ofBelow hb24) (by simp)
   have hR4 := hR2.mod (Mod.ofBelow hb24) (by simp) (by simp)
   have heq := fun w => eqlHandle w p0 p1 s g
   have hka := kids_app D [((c0, c1), (p0, p1))] (s, g)
   rw [kids_one] at hka
   simp only at hka
   obtain ⟨q0, q1, ql⟩ := cells2 hzr2
   have HR := Lib.hid hR; have Hp := Lib.hid hp; have Hown := Lib.hid hown; have HB := Lib.hid hB; have HR2 := Lib.hid hR2; have Hm2 := Lib.hid hm2; have Hs2 := Lib.hid hs2; have Hmeas := Lib.hid hmeas; have HNe := Lib.hid hne; have Hown2 := Lib.hid hown2; have HB2 := Lib.hid hB2; have Hx := Lib.hid hx; have HDl := Lib.hid hDl; have HR4 := Lib.hid hR4; have Hown4 := Lib.hid hown4; have HB4 := Lib.hid hB4; have Hka := Lib.hid hka; have HKl := Lib.hid hkl
   clear hR hp hown hB hR2 hm2 hs2 hmeas hne hown2 hB2 hx hDl hR4 hown4 hB4 hka hkl
   clear hlen hzr hb24 hzr2
   cases hr : eqB (p0, p1) (s, g) with
   | false =>
    rw [hr] at heq
    have Hr := Lib.hid hr
    clear hr
    go_wp2_with fail
    go_roundw
    case rel =>
     refine ⟨D ++ [((c0, c1), (p0, p1))], t1 ++ t2, HR4.out, (mid_perm D t1 t2 _).symm.trans Hp.out, ?_, HB4.out⟩
     rw [Hka.out, if_neg (by rw [Hr.out]; simp), List.append_nil]
     exact Hown4.out
    case measure => rw [HR4.out.left_eq, Hmeas.out]; simp
   | true =>
    rw [hr] at heq
    have Hr := Lib.hid hr
    clear hr
    go_wp2_with (at_builtin; refine app_handleG rfl _ _ rfl w0.heap.size (.slice A (kidsB D (s, g)).length cap) (kidsB D (s, g)) (c0, c1) ⟨w2.heap.size + 2, 0, none⟩ 1 rfl (Hown4.out.alloc _) rfl (new_rec (by simp) rfl) (by have := HDl.out; omega) (by have := HB2.out.size; simp; omega) ?_; intro v' w5 hown5 hg5)
    go_roundw
    case rel =>
     refine ⟨D ++ [((c0, c1), (p0, p1))], t1 ++ t2, ?_, (mid_perm D t1 t2 _).symm.trans Hp.out, ?_, ?_⟩
     ·exact (HR4.out.mod ((Mod.refl [] _).alloc _) (by simp) (by simp)).mod (grown_mod hg5) HNe.out.2 HNe.out.1
     ·rw [Hka.out, if_pos Hr.out]; exact hown5
     ·exact (HB4.out.alloc HB4.out.size _).trans ((Below.refl _ _).grown hg5 (by have := HB2.out.size; simp; omega) (own_ge Hown.out))
    case measure =>
     have h3 := (HR4.out.mod ((Mod.refl [] _).alloc _) (by simp) (by simp)).mod (grown_mod hg5) HNe.out.2 HNe.out.1
     rw [h3.left_eq, Hmeas.out]; simp
end
end Go.Proofs.YtehjfmjibiafdaaGreat
namespace Go.Proofs.YtehjfmjibiafdaaGreat
open Go Go.RowKit Go.Maps
attribute [local go_sem] AllFrom.cons_eq AllFrom.nil_eq putF_nil putF_cons wantedL_none wantedL_some OpGoalT OpGoalV OpGoalQ OpGoalA OpGoalK YieldsR preF_nil preF_cons
structure IPuH (w0 : World) (base : Nat) (v : Value) (M : List Hd) (x : Hd) (L : Nat → Bool) (σ : Nat → Value) (V : World) : Prop where
 b : L 3 = false → Below w0.heap.size w0 V
 o : L 2 = true → L 3 = false → oneR w0.heap.size (handleC x).toArray 41 (σ 2) V
 a : L 3 = true → (∃ V0, Below w0.heap.size w0 V0 ∧ V0.grownBy V v.ownBlock) ∧ V.ownsRow base 41 2 (σ 3) (M ++ [x]).length ((M ++ [x]).flatMap handleC)
section
variable {w0 V V' : World} {base : Nat} {v : Value} {M : List Hd} {x : Hd} {L : Nat → Bool} {σ : Nat → Value}
theorem IPuH.start (h : Below w0.heap.size w0 V) : IPuH w0 base v M x (fun _ => false) σ V := ⟨fun _ => h, fun e => (by cases e), fun e => (by cases e)⟩
theorem IPuH.read (h : IPuH w0 base v M x L σ V) {i : Nat} (h1 : 2 ≠ i ∧ 3 ≠ i) (u : Value) : IPuH w0 base v M x (upd L i) (updv σ i u) V := by
 obtain ⟨n1, n2⟩ := h1
 have eL : ∀ j, j ≠ i → upd L i j = L j := fun j hj => by unfold upd; simp [hj]
 have es : ∀ j, j ≠ i → updv σ i u j = σ j := fun j hj => by unfold updv; rw [if_neg hj]
 refine ⟨?_, ?_, ?_⟩
 ·rw [eL 3 n2]; exact h.b
 ·rw [eL 2 n1, eL 3 n2, es 2 n1]; exact h.o
 ·rw [eL 3 n2, es 3 n2]; exact h.a
theorem IPuH.oned (h : IPuH w0 base v M x L σ V) (h3 : L 3 = false) : IPuH w0 base v M x (upd L 2) (updv σ 2 (.slice (some ⟨V.heap.size, 0, none⟩) 1 1)) (V.alloc (.cells (handleC x).toArray 41)) := by
 have eL : upd L 2 3 = L 3 := by unfold upd; simp
 have hs := (h.b h3).size
 refine ⟨fun _ => (h.b h3).alloc hs _, fun _ _ => oneR_new hs, ?_⟩
 rw [eL, h3]; intro e; cases e
theorem IPuH.apped (h : IPuH w0 base v M x L σ V) (h3 : L 3 = false) {u : Value} (hg : V.grownBy V' v.ownBlock) (hv : V'.ownsRow base 41 2 u (M ++ [x]).length ((M ++ [x]).flatMap handleC)) : IPuH w0 base v M x (upd L 3) (updv σ 3 u) V' := by
 refine ⟨fun e => by simp [upd] at e, fun _ e => by simp [upd] at e, fun _ => ⟨⟨V, h.b h3, hg⟩, ?_⟩⟩
 simpa [updv] using hv
theorem IPuH.mod (h : IPuH w0 base v M x L σ V) : Mod v.ownBlock.toList w0 V := by
 cases e : L 3 with
 | false => exact (Mod.ofBelow (h.b e)).mono (by simp)
 | true =>
  obtain ⟨⟨V0, h1, h2⟩, -⟩ := h.a e
  exact ((Mod.ofBelow h1).mono (by simp) : Mod v.ownBlock.toList w0 V0).step (grown_mod h2)
end
section
variable {f : Nat} {B : List Bd} {F : List Nat}
set_option maxRecDepth 20000 in
set_option maxHeartbeats 8000000 in
theorem funder_any (hl : B.length ≤ 1200000000000) : ∀ (n : Nat) (s g : Int) (w : World), Low B n (s, g) → RepF w f B F → Calls Tryz.prog 93 #[.pointer (some ⟨f, 0, none⟩), .agg #[.int .i64 s, .int .i64 g]] w (MadeRecs 41 2 handleC (underN B n (s, g)) w) := by
 intro n
 induction n with
 | zero => intro s g w hl0; exact hl0.elim
 | succ n ih =>
  intro s g w hlow h
  obtain ⟨w0, hw0, hb0, hz0, hs0⟩ := box1 w (.cells #[.int .i64 s, .int .i64 g] 41)
  have h0 := h.below hb0
  have hO := h.ok
  have H1 := Lib.hid (fkids_any h0 hl s g)
  have hlen := underN_len hO hlow
  have hall := undP_all B n (s, g)
  have hplen := undP_len B n (kidsB B (s, g))
  rw [hall] at hplen
  obtain ⟨q0, q1, ql⟩ := cells2 hz0
  obtain ⟨HZ0, Hb0, HLB, Hs0, IH, Hlow, Hlen, Hall, Hplen⟩ := hid9 h0 hb0 hl hs0 ih hlow hlen hall hplen
  clear h0 hb0 hl hs0 ih hlow hlen hall hplen
  clear h hz0 hO
  go_enter Tryz.func93, Tryz.ntmps93
  go_wp2_with fail
  clear hw0 q0 q1 ql
  refine H1.out.mono ?_
  rintro e w2 ⟨vk, rfl, hk, hb2⟩
  have h2 := HZ0.out.below hb2
  have hkl : (kidsB B (s, g)).length ≤ 1200000000000 := by
   have h1 := kids_len B (s, g)
   have := HLB.out
   omega
  have hBw2 := Hb0.out.trans (hb2.mono Hb0.out.size)
  have hkl2 : (kidsB B (s, g)).length ≤ 9223372036854775807 := by omega
  have hlow' : ∀ c ∈ kidsB B (s, g), Low B n c := Hlow.out
  generalize kidsB B (s, g) = ks at *
  obtain ⟨A, cap, rfl, -, -⟩ := row_slice hk
  obtain ⟨H2, Hk, HBw2, Hlow', HKL⟩ := hid5 h2 hk hBw2 hlow' hkl
  clear h2 hk hBw2 hlow' hkl
  clear hb2 H1
  go_wp2_with fail
  go_loopw [5, 12] (fun v i wr => ∃ k : Nat, k ≤ ks.length ∧ i = .int .i64 k ∧ wr.ownsRow w2.heap.size 41 2 v (undP B n ks k).length ((undP B n ks k).flatMap handleC) ∧ Below w2.heap.size w2 wr) (fun _ i _ => ks.length - (Go.RowKit.intOf i).toNat)
  case atStart => exact ⟨0, by omega, rfl, ⟨rfl, .inl ⟨rfl, rfl⟩⟩, Below.refl _ _⟩
  case round =>
   obtain ⟨k, hkk, rfl, hown, hbel⟩ := hrel
   have hsz := hbel.size
   by_cases hlt : k < ks.length
   ·have hro := row_mod Hk.out (Mod.ofBelow hbel) (by simp)
    obtain ⟨g0, cap0, cur0, hv, -, -, -⟩ := row_some hro (by omega)
    cases hv
    have hpc := row_piece handleC_len hro hlt 0 (handleC ks[k]) (fun j u hu => by rw [Nat.zero_add]; exact hu)
    have hg0 := row_lt hro g0 rfl
    have hki : (k : Int) < (ks.length : Int) := by omega
    have hst := undP_succ B n ks k hlt
    have hlowx := Hlow'.out _ (List.getElem_mem hlt)
    have hl1 := Hplen.out (k + 1)
    have hl0 := Hplen.out k
    obtain ⟨A5, cap5, rfl, -, -⟩ := row_slice hown
    rw [hst, List.length_append, List.length_append] at hl1
    generalize undP B n ks k = M at *
    generalize ks[k] = x at *
    obtain ⟨c0, c1⟩ := x
    obtain ⟨w3, hw3, hb3, hz3, hs3⟩ := box1 wr (.cells #[.int .i64 c0, .int .i64 c1] 41)
    have hO3 := hown.alloc (.cells #[.int .i64 c0, .int .i64 c1] 41)
    rw [hw3] at hO3
    have hb03 := hbel.trans (hb3.mono hsz)
    have hvlt : ∀ y, (Value.slice A5 M.length cap5).ownBlock = some y → y < wr.heap.size := row_lt hown
    have hge := own_ge hO3
    generalize hvv : Value.slice A5 M.length cap5 = vv at *
    have hnb : wr.heap.size ∉ vv.ownBlock.toList := fun e => by have := hvlt _ (by simpa using e); omega
    have hF2 : ∀ y ∈ F, y ∉ vv.ownBlock.toList := fun y hy e => by
     have h1 := H2.out.lt y hy
     have h2 := hge y (by simpa using e)
     omega
    obtain ⟨HP, Hst, Hlowx, Hl1, Hl0, HO3, Hb03, Hs3, Hz3, Hge, Hnb, HF2, Hvv⟩ := hid13 hpc hst hlowx hl1 hl0 hO3 hb03 hs3 hz3 hge hnb hF2 hvv
    clear hpc hst hlowx hl1 hl0 hO3 hb03 hs3 hz3 hge hnb hF2 hvv
    clear hro hown hbel hb3 hvlt
    go_wp2_with (refine wpList_load_flat rfl 41 (.tmp 14) rfl _ rfl [.int .i64 c0, .int .i64 c1] _ Tryz.underlying41 rfl (by kernel_rfl) HP.out ?_)
    clear hw3
    refine wp_planK [2, 3] 6 [4] [some 16, some 17, some 18, some 19, some 20, some 21, some 22, some 23, some 5] [[], [], [1], [0, 1, 2], [], [], [0, 1, 2, 3, 4, 5], [0, 1, 2, 3, 4, 5, 6], [0, 1, 2, 3, 4, 5, 6, 7]] [0, 1, 2, 3, 4, 5] (fun Lf σ V => IPuH w3 w2.heap.size vv M (c0, c1) Lf σ V) mixed rfl (by kernel_rfl) (by decide) (by decide) (by decide) (IPuH.start below_drew) rfl ?_
    iterate 6 apply Exists.intro
    refine ⟨rfl, ?_, ?_⟩
    ·simp only [List.take_succ_cons, List.take_zero, AllFrom.cons_eq, AllFrom.nil_eq, OpGoalK]
     refine ⟨?_, ?_, ?_, ?_, ?_, ?_, trivial⟩
     all_goals (intro L' σ V h1 h2 h3 hI hp; have HA1 := Lib.hid h1; have HA2 := Lib.hid h2; have HA3 := Lib.hid h3; clear h1 h2 h3; (try simp only [List.getD_cons_zero, List.getD_cons_succ, preK_cons, preK_nil] at hp); (try simp only [List.mem_cons, List.not_mem_nil, or_false, eq_self, Nat.reduceEqDiff, Nat.reduceAdd, Nat.zero_add, false_or, true_or, true_and, and_true] at hp); (first | (have hq : True := hp; clear hq hp) | skip); have HI := Lib.hid hI; clear hI)
     all_goals (
      have hzV := HI.out.mod.keep Hz3.out Hnb.out
      have q0 := blk_cell hzV 0
      have q1 := blk_cell hzV 1
      simp only [List.getElem?_toArray, List.getElem?_cons_zero, List.getElem?_cons_succ] at q0 q1
      have ql := blk_lt hzV
      clear hzV)
     iterate 2 · (go_simp; exact ⟨.inr rfl, HI.out.read (by decide) _⟩)
     ·go_simp
      exact PostK.mk (c := undef) (.inl (by decide)) (HI.out.oned (HA3.out 3 (by decide)))
     ·simp only [wantedL_none, if_true]
      have hbb := HI.out.b HA1.out
      have ha := HI.out.o (HA2.out 2 (by decide)) HA1.out
      have hrw := row_mod HO3.out (Mod.ofBelow hbb) (by simp)
      obtain ⟨Ha, Hrw⟩ := hid2 ha hrw
      have Hlen2 := Lib.hid (show (M.length + 1) * 16 ≤ 140737488355328 by have := Hl0.out; have := Hlen.out; have := HLB.out; omega)
      have Hbs := Lib.hid (show w2.heap.size ≤ V.heap.size from Nat.le_trans Hb03.out.size hbb.size)
      clear ha hrw hbb
      refine yr_app (enc := handleC) (n := 2) (bytes := 16) (.tmp 16) (.tmp 18) 55 41 rfl Tryz.underlying55 info_handle rfl (by omega) (by omega) handleC_one handleC_len w2.heap.size vv M (c0, c1) w3.heap.size (handleC (c0, c1)).toArray 41 (by go_simp) Hrw.out (by go_simp; exact Ha.out) rfl Hlen2.out Hbs.out ?_
      intro v' V' hv hg _
      exact PostK.mk (c := undef) (.inl (by decide)) (HI.out.apped HA1.out hg hv)
     iterate 2 · (go_simp; exact ⟨.inr rfl, HI.out.read (by decide) _⟩)
    ·intro L' σ V h1 hI hp
     have hA3 := (hI.a (h1 3 (by decide))).2
     have hmV := hI.mod
     clear h1 hI
     simp only [preK_cons, preK_nil, List.getD_cons_zero, List.getD_cons_succ] at hp; simp only [List.mem_cons, List.not_mem_nil, or_false, eq_self, Nat.reduceEqDiff, false_or, true_or, true_and, and_true] at hp
     have hFV := (H2.out.below Hb03.out).mod hmV HF2.out
     have H6 := Lib.hid (IH.out c0 c1 V Hlowx.out hFV)
     have hbV : Below w2.heap.size w2 V := Hb03.out.trans (hmV.toBelow (fun x hx => Hge.out x (by simpa using hx)) Hb03.out.size)
     obtain ⟨HA3, HbV⟩ := hid2 hA3 hbV
     clear hA3 hbV
     clear hmV hFV
     simp only [List.drop_succ_cons, List.drop_zero]
     go_simp
     clear hp
     generalize σ 3 = v3 at *
     generalize σ 2 = v2 at *
     go_wp2_with fail
     refine H6.out.mono ?_
     rintro e w6 ⟨v6, rfl, hown6, hb6⟩
     have hown56 := row_mod HA3.out (Mod.ofBelow hb6) (by simp)
     have hb06 := HbV.out.trans (hb6.mono HbV.out.size)
     obtain ⟨Hown6, Hb06, Hown56⟩ := hid3 hown6 hb06 hown56
     clear hown6 hb06 hown56
     clear hb6
     go_wp2_with (at_builtin; refine app_list rfl _ _ rfl w2.heap.size V.heap.size v3 _ (M ++ [(c0, c1)]) (underN B n (c0, c1)) rfl Hown56.out rfl Hown6.out (by have := Hl1.out; have := Hlen.out; have := HLB.out; rw [List.length_append]; omega) Hb06.out.size ?_; intro v7 w7 hown7 hg7)
     refine ⟨rfl, ?_⟩
     go_wp2_with fail
     go_roundw
     case rel => exact ⟨k + 1, by omega, by go_num, by rw [Hst.out]; exact hown7, Hb06.out.trans ((Below.refl _ _).grown hg7 Hb06.out.size (own_ge Hown56.out))⟩
     case measure => simp [Go.RowKit.intOf]; omega
    all_goals exact undef
   ·obtain rfl : k = ks.length := by omega
    rw [Hall.out] at hown
    have hBf := HBw2.out.trans (hbel.mono HBw2.out.size)
    have hown := row_base hown (B' := w.heap.size) (fun k hk => by have := own_ge hown k hk; have := HBw2.out.size; omega)
    obtain ⟨Hown, HBf⟩ := hid2 hown hBf
    clear hown hBf
    clear hbel
    go_wp2
    go_ret
    exact ⟨_, rfl, Hown.out, HBf.out⟩
end
end Go.Proofs.YtehjfmjibiafdaaGreat
namespace Go.Proofs.YtehjfmjibiafdaaGreat
open Go Go.RowKit
variable {vB : Value}
attribute [local go_sem] AllFrom.cons_eq AllFrom.nil_eq putF_nil putF_cons wantedL_none wantedL_some OpGoalT OpGoalV OpGoalQ YieldsR preF_nil preF_cons
def rowsM (L : List Rw) (n t a : Int) : List Rw := L.filter (fun x => matchesB x.2.1 n t a)
def RowsPost (B : Nat) (L : List Rw) (n t a : Int) (w : World) (e : Ending) (w' : World) : Prop :=
 ∃ v, e = .returned (.tuple #[v, .int .i64 (qcheck n t a)]) ∧ w'.ownsRow B 69 11 v (if qcheck n t a = 0 then rowsM L n t a else []).length ((if qcheck n t a = 0 then rowsM L n t a else []).flatMap rwC) ∧ Below w.heap.size w w'
end Go.Proofs.YtehjfmjibiafdaaGreat
namespace Go.Proofs.YtehjfmjibiafdaaGreat
open Go Go.RowKit Go.Shelf Go.Maps Go.Sort
def keysTab_ren : Go.Shelf.Ren := ⟨fun | 7 => 59 | 10 => 112 | n => n, fun | 23 => 93 | 26 => 3 | 3 => 113 | 28 => 121 | 0 => 0 | 27 => 120 | 33 => 166 | 4 => 4 | n => n, fun | n => n⟩
theorem keysTab : Go.Proofs.SlLaysZI.n7 Tryz.prog keysTab_ren := {
 mixed := by kernel_rfl,
 f7 := ⟨Tryz.f59.name, by decide, Tryz.func59.trans (congrArg some (by kernel_rfl))⟩,
 f10 := ⟨Tryz.f112.name, by decide, Tryz.func112.trans (congrArg some (by kernel_rfl))⟩,
 t0 := Tryz.underlying0,
 a0 := Tryz.isAgg0,
 z0 := Tryz.sizeOf0,
 v0 := Tryz.zeroValue0,
 t4 := Tryz.underlying4,
 a4 := Tryz.isAgg4,
 z4 := Tryz.sizeOf4,
 v4 := Tryz.zeroValue4,
 t23 := Tryz.underlying93,
 a23 := Tryz.isAgg93,
 z23 := Tryz.sizeOf93,
 v23 := Tryz.zeroValue93,
 t26 := Tryz.underlying3,
 a26 := Tryz.isAgg3,
 z26 := Tryz.sizeOf3,
 v26 := Tryz.zeroValue3,
 t27 := Tryz.underlying120,
 a27 := Tryz.isAgg120,
 z27 := Tryz.sizeOf120,
 v27 := Tryz.zeroValue120,
 t28 := Tryz.underlying121,
 a28 := Tryz.isAgg121,
 z28 := Tryz.sizeOf121,
 v28 := Tryz.zeroValue121,
 t33 := Tryz.underlying166,
 a33 := Tryz.isAgg166,
 z33 := Tryz.sizeOf166,
 v33 := Tryz.zeroValue166 }
def collInt_ren : Go.Shelf.Ren := ⟨fun | 8 => 58 | 11 => 111 | n => n, fun | 26 => 3 | 28 => 121 | 24 => 22 | 0 => 0 | 33 => 166 | 4 => 4 | n => n, fun | n => n⟩
theorem collInt : Go.Proofs.SlLaysZI.n8 Tryz.prog collInt_ren := {
 mixed := by kernel_rfl,
 f8 := ⟨Tryz.f58.name, by decide, Tryz.func58.trans (congrArg some (by kernel_rfl))⟩,
 f11 := ⟨Tryz.f111.name, by decide, Tryz.func111.trans (congrArg some (by kernel_rfl))⟩,
 t0 := Tryz.underlying0,
 a0 := Tryz.isAgg0,
 z0 := Tryz.sizeOf0,
 v0 := Tryz.zeroValue0,
 t24 := Tryz.underlying22,
 a24 := Tryz.isAgg22,
 z24 := Tryz.sizeOf22,
 v24 := Tryz.zeroValue22,
 t26 := Tryz.underlying3,
 a26 := Tryz.isAgg3,
 z26 := Tryz.sizeOf3,
 v26 := Tryz.zeroValue3,
 t28 := Tryz.underlying121,
 a28 := Tryz.isAgg121,
 z28 := Tryz.sizeOf121,
 v28 := Tryz.zeroValue121,
 i26 := by kernel_rfl }
def noElem (_ : Value) : Option (DataW Unit × List MemPlace) := some (.nil, [])
def intV (v : Value) : Int := match v with
 | .int _ a => a
 | _ => 0
theorem MapAt.owns {w : World} {b : Nat} {l : List (Nat × Nat)} (h : MapAt Tryz.prog 3 w b (l.map colPr)) (hl : l.length ≤ maxLen) :
  ∃ D : DataW Unit, w.ownsMap Tryz.prog 3 noElem b l.length D ∧ (Go.intKeys D).Perm (l.map fun x => (x.1 : Int)) ∧ Maps.size D = l.length := by
 obtain ⟨es, clock, hb, hk⟩ := h
 have hsz : es.size = l.length := by
  have := congrArg List.length hk.prs
  simpa [prs] using this
 have hrg : ∀ x ∈ es.toList, Go.intOf (WideElems.rg Tryz.prog 3 noElem x).1 = intV x.key := by
  intro x hx
  obtain ⟨kl, hkl⟩ := hk.keys x hx
  obtain ⟨z, h1, h2, -⟩ := Maps.keyOf_i64 Tryz.underlying3 hkl
  rw [WideElems.rg_of (WideElems.rd_mk (born := x.born) hkl rfl), h2, h1]
  rfl
 refine ⟨_, ⟨es, clock, hb, ⟨by omega, hk.st, fun x hx => ?_⟩, by omega, rfl⟩, ?_, ?_⟩
 ·obtain ⟨kl, hkl⟩ := hk.keys x hx
  exact ⟨_, WideElems.rd_mk (born := x.born) hkl rfl⟩
 ·show (((es.toList.map (WideElems.rg Tryz.prog 3 noElem)).foldr DataW.insert []).map fun p => Go.intOf p.1).Perm _
  refine ((WideShapes.sorted_perm _).map _).trans ?_
  generalize WideElems.rg Tryz.prog 3 noElem = f at hrg ⊢
  rw [List.map_map]
  have e1 : es.toList.map ((fun p => Go.intOf p.1) ∘ f) = (es.toList.map (fun e => (e.key, e.val))).map (fun p => intV p.1) := by
   rw [List.map_map]
   exact List.map_congr_left fun x hx => hrg x hx
  have e2 : es.toList.map (fun e => (e.key, e.val)) = l.map colPr := hk.prs
  rw [e1, e2, List.map_map]
  exact .refl _
 ·show ((es.toList.map (WideElems.rg Tryz.prog 3 noElem)).foldr DataW.insert []).length = l.length
  rw [(WideShapes.sorted_perm _).length_eq, List.length_map]
  simpa using hsz
def KeysPost (B : Nat) (l : List (Nat × Nat)) (w : World) (e : Ending) (w' : World) : Prop :=
 ∃ (v : Value) (ss : List Int), e = .returned v ∧ ss.Perm (l.map fun x => (x.1 : Int)) ∧ w'.ownsRow B 3 1 v ss.length (ints ss) ∧ Below w.heap.size w w'
section
variable {w : World} {b : Nat} {l : List (Nat × Nat)}
set_option maxRecDepth 100000 in
theorem keys_any (w : World) (b : Nat) : Calls Tryz.prog 59 #[.map (some b)] w fun e w' => e = .returned (.func (.func 112) #[] #[.pointer (some ⟨w.heap.size, 0, none⟩)]) ∧ w' = w.alloc (.cells #[.map (some b)] 93) :=
 (callsIn_wide (n := 5)).1 (AnyZI.keys_in keysTab Fence.wide 5 trivial rfl (some b) w)
set_option maxRecDepth 100000 in
theorem coll_any (h : MapAt Tryz.prog 3 w b (l.map colPr)) (hl : l.length ≤ 1000) :
  Calls Tryz.prog 58 #[.func (.func 112) #[] #[.pointer (some ⟨w.heap.size, 0, none⟩)]] (w.alloc (.cells #[.map (some b)] 93)) (KeysPost w.heap.size l (w.alloc (.cells #[.map (some b)] 93))) := by
 obtain ⟨D, hD, hp, hs⟩ := h.owns (by unfold maxLen; omega)
 have hbl := hD.lt
 have hseq : SeqGives Fence.wide 4 Tryz.prog 112 #[.pointer (some ⟨w.heap.size, 0, none⟩)] encZ (fun ss => ss.Perm (Go.intKeys D)) (Maps.size D) (w.alloc (.cells #[.map (some b)] 93)) :=
  AnyZI.keys_gives (ρ := keysTab_ren) { keysTab with } Fence.wide _ trivial rfl (by omega) w.heap.size b l.length D _ (by simp) (by simp) (by
   obtain ⟨es, clock, hb, Ft, hs, hD⟩ := hD
   exact ⟨es, clock, (Below.heap_alloc _ _ b hbl).trans hb, Ft, hs, hD⟩)
 have hc := AnyZI.collect_in collInt Fence.wide 6 trivial trivial rfl (by omega) 112 #[.pointer (some ⟨w.heap.size, 0, none⟩)] trivial (enters_of Tryz.func112 (by kernel_rfl) rfl) _ _ (by rw [hs]; unfold maxLen; omega) (by rw [hs]; omega) _ hseq
 refine ((callsIn_wide (n := 6)).1 hc).mono ?_
 rintro e w' ⟨v, ss, rfl, hS, hrow, -, hb⟩
 exact ⟨v, ss, rfl, hS.trans hp, ownsRow_base_a hrow (by simp), hb⟩
end
end Go.Proofs.YtehjfmjibiafdaaGreat
namespace Go.Proofs.YtehjfmjibiafdaaGreat
open Go Go.RowKit
def rowsK (rw : Nat → List Rw) (n t a : Int) (ks : List Int) : List Rw := ks.flatMap (fun k => if matchesB k n t a = true then rw k.toNat else [])
theorem rowsK_snoc (rw : Nat → List Rw) (n t a : Int) (ks : List Int) (k : Int) : rowsK rw n t a (ks ++ [k]) = rowsK rw n t a ks ++ (if matchesB k n t a = true then rw k.toNat else []) := by
 unfold rowsK; rw [List.flatMap_append]; simp
theorem rowsK_len {rw : Nat → List Rw} {n t a : Int} : ∀ {ks : List Int}, (∀ k ∈ ks, (rw k.toNat).length ≤ 60) → (rowsK rw n t a ks).length ≤ 60 * ks.length
 | [], _ => by simp [rowsK]
 | k :: ks, h => by
  have ih := rowsK_len (n := n) (t := t) (a := a) (fun x hx => h x (List.mem_cons_of_mem _ hx))
  have h1 := h k (by simp)
  unfold rowsK at ih ⊢
  rw [List.flatMap_cons, List.length_append, List.length_cons, Nat.mul_add]
  have h2 : (if matchesB k n t a = true then rw k.toNat else []).length ≤ 60 := by
   split
   ·exact h1
   ·simp
  omega
section
variable {sl : Sl} {L : List Rw} {tb : List (Nat × Nat)} {rw : Nat → List Rw} {pl : List Pl}
theorem WCore.tabs (hc : WCore (· ∈ L) (tb.map (·.1)) rw pl) (hO : WOk sl L) : (∀ k ∈ tb.map (·.1), k < 256 ∧ (rw k).length ≤ 60) ∧ tb.length ≤ 256 := by
 have h1 : ∀ k ∈ tb.map (·.1), k < 256 ∧ (rw k).length ≤ 60 := by
  intro k hk
  have hl := hc.len (fun _ h => h) hk
  have := hO.len
  refine ⟨?_, by omega⟩
  have hne := hc.ne k hk
  cases hr : rw k with
  | nil => exact absurd hr hne
  | cons x r =>
   obtain ⟨h2, h3, -⟩ := hc.row k hk 0 x (by rw [hr]; rfl)
   exact (beastZ_good (hO.be x h2) h3).2
 refine ⟨h1, ?_⟩
 have h2 : (tb.map (·.1)).length ≤ (List.range 256).length := List.Nodup.length_le_of_subset hc.tn (fun k hk => List.mem_range.2 (h1 k hk).1)
 simpa using h2
theorem rowsK_mem (hc : WCore (· ∈ L) (tb.map (·.1)) rw pl) {ks : List Int} (hp : ks.Perm (tb.map fun x => (x.1 : Int))) (n t a : Int) (y : Rw) : y ∈ rowsK rw n t a ks ↔ y ∈ rowsM L n t a := by
 unfold rowsK rowsM
 rw [List.mem_flatMap, List.mem_filter]
 constructor
 ·rintro ⟨k, hk, hy⟩
  split at hy
  ·next hm =>
   obtain ⟨x, hx, rfl⟩ := List.mem_map.1 (hp.mem_iff.1 hk)
   rw [Int.toNat_natCast] at hy
   obtain ⟨i, hi⟩ := List.mem_iff_getElem?.1 hy
   obtain ⟨h2, h3, -⟩ := hc.row x.1 (List.mem_map.2 ⟨x, hx, rfl⟩) i y hi
   exact ⟨h2, by rw [h3]; exact hm⟩
  ·simp at hy
 ·rintro ⟨hy, hm⟩
  obtain ⟨s, k, i, h1, h2, h3⟩ := hc.has y hy
  obtain ⟨hk, -⟩ := hc.pla s k i h2
  obtain ⟨-, h5, -⟩ := hc.row k hk i y h3
  obtain ⟨x, hx, rfl⟩ := List.mem_map.1 hk
  refine ⟨(x.1 : Int), hp.mem_iff.2 (List.mem_map.2 ⟨x, hx, rfl⟩), ?_⟩
  rw [h5] at hm
  rw [if_pos hm, Int.toNat_natCast]
  exact List.mem_of_getElem? h3
theorem rowsK_nodup (hc : WCore (· ∈ L) (tb.map (·.1)) rw pl) {ks : List Int} (hp : ks.Perm (tb.map fun x => (x.1 : Int))) (n t a : Int) : (rowsK rw n t a ks).Nodup := by
 have hin : ∀ k ∈ ks, ∃ x ∈ tb, k = (x.1 : Int) := fun k hk => by
  obtain ⟨x, hx, e⟩ := List.mem_map.1 (hp.mem_iff.1 hk)
  exact ⟨x, hx, e.symm⟩
 have hkn : ks.Nodup := by
  refine List.Nodup.perm ?_ hp.symm
  have := hc.tn
  unfold List.Nodup at this ⊢
  rw [List.pairwise_map] at this ⊢
  exact this.imp (fun h e => h (by omega))
 unfold rowsK List.Nodup
 rw [List.pairwise_flatMap]
 refine ⟨fun k hk => ?_, ?_⟩
 ·split
  ·obtain ⟨x, hx, rfl⟩ := hin k hk
   rw [Int.toNat_natCast]
   refine List.pairwise_iff_getElem.2 fun i j hi hj hij e => ?_
   have hkt : x.1 ∈ tb.map (·.1) := List.mem_map.2 ⟨x, hx, rfl⟩
   obtain ⟨-, -, s, q1, q2⟩ := hc.row x.1 hkt i _ (List.getElem?_eq_getElem hi)
   obtain ⟨-, -, s', q3, q4⟩ := hc.row x.1 hkt j _ (List.getElem?_eq_getElem hj)
   rw [e] at q1
   have : s = s' := by omega
   subst this
   have := key_one hc.pn q2 q4
   simp only [Prod.mk.injEq] at this
   omega
  ·exact .nil
 ·refine List.Pairwise.imp_of_mem ?_ hkn
  intro k1 k2 hk1 hk2 hne x hx y hy e
  subst e
  split at hx
  ·split at hy
   ·obtain ⟨x1, hx1, rfl⟩ := hin k1 hk1
    obtain ⟨x2, hx2, rfl⟩ := hin k2 hk2
    rw [Int.toNat_natCast] at hx hy
    obtain ⟨i, hi⟩ := List.mem_iff_getElem?.1 hx
    obtain ⟨j, hj⟩ := List.mem_iff_getElem?.1 hy
    obtain ⟨-, h3, -⟩ := hc.row x1.1 (List.mem_map.2 ⟨x1, hx1, rfl⟩) i _ hi
    obtain ⟨-, h4, -⟩ := hc.row x2.1 (List.mem_map.2 ⟨x2, hx2, rfl⟩) j _ hj
    exact hne (by omega)
   ·simp at hy
  ·simp at hx
end
end Go.Proofs.YtehjfmjibiafdaaGreat
