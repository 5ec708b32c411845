import Derived.Test.YtehjfmjibiafdaaGreatZooTellsJ43
/- Families: Children, Under. (printed by mk_fam7.py) -/
namespace Go.Proofs.YtehjfmjibiafdaaGreat
open Go Go.RowKit Go.Maps Go.Sort
attribute [local go_sem] AllFrom.cons_eq AllFrom.nil_eq putF_nil putF_cons wantedL_none wantedL_some OpGoalT OpGoalV OpGoalQ OpGoalA OpGoalK YieldsR preF_nil preF_cons

theorem kids_sorted {B : List Bd} (h : SortB B) (x : Hd) : (kidsB B x).Pairwise (fun a b => ltH a b = true) := by
  unfold kidsB
  rw [List.pairwise_map]
  exact h.sublist List.filter_sublist
/-- A permutation of the children that is sorted is the children. -/
theorem kids_eq {B C : List Bd} {x : Hd} {l : List Hd} (h : SortB B) (hC : C.Perm B) (hp : l.Perm (kidsB C x)) (hs : l.Pairwise (fun a b => ltH b a = false)) : l = kidsB B x := by
  have hk := kids_sorted h x
  have hp2 : l.Perm (kidsB B x) := hp.trans ((hC.filter _).map _)
  have hne : l.Pairwise (fun a b => a ≠ b) := (List.Perm.pairwise_iff (fun h => Ne.symm h) hp2).2 (hk.imp fun h => ltH_ne h)
  have hl : l.Pairwise (fun a b => ltH a b = true) := (hs.and hne).imp (by
    rintro a b ⟨h1, h2⟩
    cases e : ltH a b with
    | true => rfl
    | false => exact absurd (ltH_tri e h1) h2)
  refine List.Perm.eq_of_pairwise (le := fun a b : Hd => ltH a b = true) (fun a b ha hb h1 h2 => ?_) hl hk hp2
  rw [ltH_asymm h1] at h2; cases h2
theorem kids_app (C D : List Bd) (x : Hd) : kidsB (C ++ D) x = kidsB C x ++ kidsB D x := by unfold kidsB; rw [List.filter_append, List.map_append]
theorem kids_one (b : Bd) (x : Hd) : kidsB [b] x = if eqB b.2 x = true then [b.1] else [] := by
  unfold kidsB eqB
  by_cases e : b.2 = x <;> simp [e]
theorem kids_len (B : List Bd) (x : Hd) : (kidsB B x).length ≤ B.length := by
  unfold kidsB
  rw [List.length_map]
  exact List.length_filter_le _ _
section
variable {w : World} {f : Nat} {B : List Bd} {F : List Nat}
set_option maxRecDepth 20000 in
set_option maxHeartbeats 4000000 in
theorem fkids_any (h : RepF w f B F) (hB : B.length ≤ 1200000000000) (s g : Int) : Calls Tryz.prog 138 #[.pointer (some ⟨f, 0, none⟩), .agg #[.int .i64 s, .int .i64 g]] w (MadeRecs 41 2 handleC (kidsB B (s, g)) w) := by
  obtain ⟨w0, hw0, hb0, hz0, hs0⟩ := box1 w (.cells #[.int .i64 s, .int .i64 g] 41)
  obtain ⟨ho, hr, m, l, h1, h2, h3, hF, h5⟩ := h.below hb0
  obtain ⟨o, hrun, hR⟩ := h2.range Tryz.underlying115
  obtain ⟨w1, hw1, hb1, -, hs1⟩ := box1 w0 o
  rw [hw1] at hR
  have e0 := blk_cell h1 0
  simp only [List.getElem?_toArray, List.getElem?_cons_zero] at e0
  have hfl := blk_lt h1
  have hll : l.length ≤ 1200000000000 := by rw [h3.length_eq]; exact hB
  have HR := Lib.hid hR; have Hb0 := Lib.hid hb0; have Hb1 := Lib.hid hb1; have Hz0 := Lib.hid hz0; have Hs0 := Lib.hid hs0; have Hs1 := Lib.hid hs1; have Ho := Lib.hid ho; have H3 := Lib.hid h3; have Hll := Lib.hid hll
  clear hR hb0 hb1 hz0 hs0 hs1 ho h3 hll
  clear h h1 h2 hr hF h5 hB
  go_enter Tryz.func138, Tryz.ntmps138
  go_wp2_with fail
  clear hrun hw1 hw0 e0 hfl
  go_loopw [5, 14] (fun v _ wr => ∃ (D ts : List Bd), RangeAt Tryz.prog 41 wr m w0.heap.size (l.map bdPr) (ts.map bdPr) ∧ (D ++ ts).Perm l ∧ wr.ownsRow w0.heap.size 41 2 v (kidsB D (s, g)).length ((kidsB D (s, g)).flatMap handleC) ∧ Below w0.heap.size w0 wr) (fun _ _ wr => wr.rangeLeft m w0.heap.size)
  case atStart => exact ⟨[], l, HR.out, .refl _, ⟨rfl, .inl ⟨rfl, rfl⟩⟩, Hb1.out⟩
  case round =>
    obtain ⟨D, ts, hR, hp, hown, hB⟩ := hrel
    obtain ⟨A, cap, rfl, -, -⟩ := row_slice hown
    have hlen : D.length + ts.length = l.length := by rw [← List.length_append]; exact hp.length_eq
    have hkl := kids_len D (s, g)
    have hzr := (Mod.ofBelow hB).keep Hz0.out (by simp)
    by_cases hts : ts = []
    · subst hts
      have hov := fun ty => RangeAt.over (P := Tryz.prog) (by simpa using hR) ty
      simp only [List.append_nil] at hp
      have H1 := Lib.hid (sortHandles_any hown (by have := Hll.out; simp at hlen; omega))
      have Hp := Lib.hid hp; have HB := Lib.hid hB; have Hown := Lib.hid hown
      clear hp hB hown
      clear hR hlen hzr
      go_wp2_with fail
      refine H1.out.mono ?_
      rintro e w2 ⟨rfl, l', hp', hs', hown', hmod⟩
      have hl' : l' = kidsB B (s, g) := kids_eq Ho.out.so (Hp.out.trans H3.out) hp' (hs'.imp fun {x y} h => by
        have h : ltOf cmpH y x = false := h
        rw [ltHd_eq] at h; exact h)
      have hB2 : Below w0.heap.size w0 w2 := HB.out.trans (hmod.toBelow (fun x hx => own_ge Hown.out x (by simpa using hx)) HB.out.size)
      rw [hl'] at hown'
      have hown2 := row_base hown' (B' := w.heap.size) (fun k hk => by have := own_ge hown' k hk; have := Hs0.out; omega)
      have hBw := Hb0.out.trans (hB2.mono Hb0.out.size)
      have HBw := Lib.hid hBw; have HO2 := Lib.hid hown2
      clear hBw hown2
      clear hp' hs' hmod hl' hown' hB2
      go_wp2
      refine bodyPost_ret (v := .slice A (kidsB D (s, g)).length cap) (by unfold results; try go_simp) rfl ?_
      exact ⟨_, rfl, HO2.out, HBw.out⟩
    · obtain ⟨t1, x, t2, w2, rfl, hn, hen, hx, hR2, hm2, hs2⟩ := hR.nextE hts
      have hmeas := hR.left_eq
      obtain ⟨⟨c0, c1⟩, p0, p1⟩ := x
      have hne := own_ne_range hown hR
      have hrl := hR.lt
      have hown2 := row_mod hown hm2 (fun k hk e => by
        have hk' : k = w0.heap.size := by simpa using e
        subst hk'; exact hne.1 (by rw [hk]; simp))
      have hB2 : Below w0.heap.size w0 w2 := hB.trans (hm2.toBelow (by simp) hB.size)
      simp only [bdPr, hdV, handleC] at hn hen
      have hDl : (kidsB D (s, g)).length < 1200000000000 := by have := Hll.out; simp at hlen; omega
      have hzr2 := hm2.keep hzr (by have := Hs0.out; simp; omega)
      have hb24 : Below w2.heap.size w2 ((w2.alloc (.cells #[.int .i64 c0, .int .i64 c1] 41)).alloc (.cells #[.int .i64 p0, .int .i64 p1] 41)) := ((Below.refl _ _).alloc (Nat.le_refl _) _).alloc (by simp) _
      have hB4 := hB2.trans (hb24.mono hB2.size)
      have hown4 := row_mod hown2 (Mod.ofBelow hb24) (by simp)
      have hR4 := hR2.mod (Mod.ofBelow hb24) (by simp) (by simp)
      have heq := fun w => eqlHandle w p0 p1 s g
      have hka := kids_app D [((c0, c1), (p0, p1))] (s, g)
      rw [kids_one] at hka
      simp only at hka
      have q0 := blk_cell hzr2 0
      have q1 := blk_cell hzr2 1
      simp only [List.getElem?_toArray, List.getElem?_cons_zero, List.getElem?_cons_succ] at q0 q1
      have ql := blk_lt hzr2
      have HR := Lib.hid hR; have Hp := Lib.hid hp; have Hown := Lib.hid hown; have HB := Lib.hid hB; have HR2 := Lib.hid hR2; have Hm2 := Lib.hid hm2; have Hs2 := Lib.hid hs2; have Hmeas := Lib.hid hmeas; have HNe := Lib.hid hne; have Hown2 := Lib.hid hown2; have HB2 := Lib.hid hB2; have Hx := Lib.hid hx; have HDl := Lib.hid hDl; have HR4 := Lib.hid hR4; have Hown4 := Lib.hid hown4; have HB4 := Lib.hid hB4; have Hka := Lib.hid hka; have HKl := Lib.hid hkl
      clear hR hp hown hB hR2 hm2 hs2 hmeas hne hown2 hB2 hx hDl hR4 hown4 hB4 hka hkl
      clear hlen hzr hb24 hzr2
      cases hr : eqB (p0, p1) (s, g) with
      | false =>
        rw [hr] at heq
        have Hr := Lib.hid hr
        clear hr
        go_wp2_with fail
        go_roundw
        case rel =>
          refine ⟨D ++ [((c0, c1), (p0, p1))], t1 ++ t2, HR4.out, (mid_perm D t1 t2 _).symm.trans Hp.out, ?_, HB4.out⟩
          rw [Hka.out, if_neg (by rw [Hr.out]; simp), List.append_nil]
          exact Hown4.out
        case measure => rw [HR4.out.left_eq, Hmeas.out]; simp
      | true =>
        rw [hr] at heq
        have Hr := Lib.hid hr
        clear hr
        go_wp2_with (at_builtin; refine app_handleG rfl _ _ rfl w0.heap.size (.slice A (kidsB D (s, g)).length cap) (kidsB D (s, g)) (c0, c1) ⟨w2.heap.size + 2, 0, none⟩ 1 rfl (Hown4.out.alloc _) rfl (new_rec (by simp) rfl) (by have := HDl.out; omega) (by have := HB2.out.size; simp; omega) ?_; intro v' w5 hown5 hg5)
        go_roundw
        case rel =>
          refine ⟨D ++ [((c0, c1), (p0, p1))], t1 ++ t2, ?_, (mid_perm D t1 t2 _).symm.trans Hp.out, ?_, ?_⟩
          · exact (HR4.out.mod ((Mod.refl [] _).alloc _) (by simp) (by simp)).mod (grown_mod hg5) HNe.out.2 HNe.out.1
          · rw [Hka.out, if_pos Hr.out]; exact hown5
          · exact (HB4.out.alloc HB4.out.size _).trans ((Below.refl _ _).grown hg5 (by have := HB2.out.size; simp; omega) (own_ge Hown.out))
        case measure =>
          have h3 := (HR4.out.mod ((Mod.refl [] _).alloc _) (by simp) (by simp)).mod (grown_mod hg5) HNe.out.2 HNe.out.1
          rw [h3.left_eq, Hmeas.out]; simp
end
end Go.Proofs.YtehjfmjibiafdaaGreat

/- Families: Under. (printed by mk_fam8.py) -/
namespace Go.Proofs.YtehjfmjibiafdaaGreat
open Go Go.RowKit Go.Maps
attribute [local go_sem] AllFrom.cons_eq AllFrom.nil_eq putF_nil putF_cons wantedL_none wantedL_some OpGoalT OpGoalV OpGoalQ OpGoalA OpGoalK YieldsR preF_nil preF_cons

/-- The region that appends one handle (operations 2 and 3). -/
structure IPuH (w0 : World) (base : Nat) (v : Value) (M : List Hd) (x : Hd) (L : Nat → Bool) (σ : Nat → Value) (V : World) : Prop where
  b : L 3 = false → Below w0.heap.size w0 V
  o : L 2 = true → L 3 = false → oneR w0.heap.size (handleC x).toArray 41 (σ 2) V
  a : L 3 = true → (∃ V0, Below w0.heap.size w0 V0 ∧ V0.grownBy V v.ownBlock) ∧ V.ownsRow base 41 2 (σ 3) (M ++ [x]).length ((M ++ [x]).flatMap handleC)
section
variable {w0 V V' : World} {base : Nat} {v : Value} {M : List Hd} {x : Hd} {L : Nat → Bool} {σ : Nat → Value}
theorem IPuH.start (h : Below w0.heap.size w0 V) : IPuH w0 base v M x (fun _ => false) σ V := ⟨fun _ => h, fun e => (by cases e), fun e => (by cases e)⟩
theorem IPuH.read (h : IPuH w0 base v M x L σ V) {i : Nat} (h1 : 2 ≠ i ∧ 3 ≠ i) (u : Value) : IPuH w0 base v M x (upd L i) (updv σ i u) V := by
  obtain ⟨n1, n2⟩ := h1
  have eL : ∀ j, j ≠ i → upd L i j = L j := fun j hj => by unfold upd; simp [hj]
  have es : ∀ j, j ≠ i → updv σ i u j = σ j := fun j hj => by unfold updv; rw [if_neg hj]
  refine ⟨?_, ?_, ?_⟩
  · rw [eL 3 n2]; exact h.b
  · rw [eL 2 n1, eL 3 n2, es 2 n1]; exact h.o
  · rw [eL 3 n2, es 3 n2]; exact h.a
theorem IPuH.oned (h : IPuH w0 base v M x L σ V) (h3 : L 3 = false) : IPuH w0 base v M x (upd L 2) (updv σ 2 (.slice (some ⟨V.heap.size, 0, none⟩) 1 1)) (V.alloc (.cells (handleC x).toArray 41)) := by
  have eL : upd L 2 3 = L 3 := by unfold upd; simp
  have hs := (h.b h3).size
  refine ⟨fun _ => (h.b h3).alloc hs _, fun _ _ => oneR_new hs, ?_⟩
  rw [eL, h3]; intro e; cases e
theorem IPuH.apped (h : IPuH w0 base v M x L σ V) (h3 : L 3 = false) {u : Value} (hg : V.grownBy V' v.ownBlock) (hv : V'.ownsRow base 41 2 u (M ++ [x]).length ((M ++ [x]).flatMap handleC)) : IPuH w0 base v M x (upd L 3) (updv σ 3 u) V' := by
  refine ⟨fun e => by simp [upd] at e, fun _ e => by simp [upd] at e, fun _ => ⟨⟨V, h.b h3, hg⟩, ?_⟩⟩
  simpa [updv] using hv
/-- All but v's block is as it was. -/
theorem IPuH.mod (h : IPuH w0 base v M x L σ V) : Mod v.ownBlock.toList w0 V := by
  cases e : L 3 with
  | false => exact (Mod.ofBelow (h.b e)).mono (by simp)
  | true =>
    obtain ⟨⟨V0, h1, h2⟩, -⟩ := h.a e
    exact ((Mod.ofBelow h1).mono (by simp) : Mod v.ownBlock.toList w0 V0).step (grown_mod h2)
end
section
variable {f : Nat} {B : List Bd} {F : List Nat}
set_option maxRecDepth 20000 in
set_option maxHeartbeats 8000000 in
theorem funder_any (hl : B.length ≤ 1200000000000) : ∀ (n : Nat) (s g : Int) (w : World), Low B n (s, g) → RepF w f B F → Calls Tryz.prog 93 #[.pointer (some ⟨f, 0, none⟩), .agg #[.int .i64 s, .int .i64 g]] w (MadeRecs 41 2 handleC (underN B n (s, g)) w) := by
  intro n
  induction n with
  | zero => intro s g w hl0; exact hl0.elim
  | succ n ih =>
    intro s g w hlow h
    obtain ⟨w0, hw0, hb0, hz0, hs0⟩ := box1 w (.cells #[.int .i64 s, .int .i64 g] 41)
    have h0 := h.below hb0
    have hO := h.ok
    have H1 := Lib.hid (fkids_any h0 hl s g)
    have hlen := underN_len hO hlow
    have hall := undP_all B n (s, g)
    have hplen := undP_len B n (kidsB B (s, g))
    rw [hall] at hplen
    have q0 := blk_cell hz0 0
    have q1 := blk_cell hz0 1
    simp only [List.getElem?_toArray, List.getElem?_cons_zero, List.getElem?_cons_succ] at q0 q1
    have ql := blk_lt hz0
    have HZ0 := Lib.hid h0; have Hb0 := Lib.hid hb0; have HLB := Lib.hid hl; have Hs0 := Lib.hid hs0; have IH := Lib.hid ih; have Hlow := Lib.hid hlow; have Hlen := Lib.hid hlen; have Hall := Lib.hid hall; have Hplen := Lib.hid hplen
    clear h0 hb0 hl hs0 ih hlow hlen hall hplen
    clear h hz0 hO
    go_enter Tryz.func93, Tryz.ntmps93
    go_wp2_with fail
    clear hw0 q0 q1 ql
    refine H1.out.mono ?_
    rintro e w2 ⟨vk, rfl, hk, hb2⟩
    have h2 := HZ0.out.below hb2
    have hkl : (kidsB B (s, g)).length ≤ 1200000000000 := by
      have h1 := kids_len B (s, g)
      have := HLB.out
      omega
    have hBw2 := Hb0.out.trans (hb2.mono Hb0.out.size)
    have hkl2 : (kidsB B (s, g)).length ≤ 9223372036854775807 := by omega
    have hlow' : ∀ c ∈ kidsB B (s, g), Low B n c := Hlow.out
    generalize kidsB B (s, g) = ks at *
    obtain ⟨A, cap, rfl, -, -⟩ := row_slice hk
    have H2 := Lib.hid h2; have Hk := Lib.hid hk; have HBw2 := Lib.hid hBw2; have Hlow' := Lib.hid hlow'; have HKL := Lib.hid hkl
    clear h2 hk hBw2 hlow' hkl
    clear hb2 H1
    go_wp2_with fail
    go_loopw [5, 12] (fun v i wr => ∃ k : Nat, k ≤ ks.length ∧ i = .int .i64 k ∧ wr.ownsRow w2.heap.size 41 2 v (undP B n ks k).length ((undP B n ks k).flatMap handleC) ∧ Below w2.heap.size w2 wr) (fun _ i _ => ks.length - (Go.RowKit.intOf i).toNat)
    case atStart => exact ⟨0, by omega, rfl, ⟨rfl, .inl ⟨rfl, rfl⟩⟩, Below.refl _ _⟩
    case round =>
      obtain ⟨k, hkk, rfl, hown, hbel⟩ := hrel
      have hsz := hbel.size
      by_cases hlt : k < ks.length
      · have hro := row_mod Hk.out (Mod.ofBelow hbel) (by simp)
        obtain ⟨g0, cap0, cur0, hv, -, -, -⟩ := row_some hro (by omega)
        cases hv
        have hpc := row_piece handleC_len hro hlt 0 (handleC ks[k]) (fun j u hu => by rw [Nat.zero_add]; exact hu)
        have hg0 := row_lt hro g0 rfl
        have hki : (k : Int) < (ks.length : Int) := by omega
        have hst := undP_succ B n ks k hlt
        have hlowx := Hlow'.out _ (List.getElem_mem hlt)
        have hl1 := Hplen.out (k + 1)
        have hl0 := Hplen.out k
        obtain ⟨A5, cap5, rfl, -, -⟩ := row_slice hown
        rw [hst, List.length_append, List.length_append] at hl1
        generalize undP B n ks k = M at *
        generalize ks[k] = x at *
        obtain ⟨c0, c1⟩ := x
        obtain ⟨w3, hw3, hb3, hz3, hs3⟩ := box1 wr (.cells #[.int .i64 c0, .int .i64 c1] 41)
        have hO3 := hown.alloc (.cells #[.int .i64 c0, .int .i64 c1] 41)
        rw [hw3] at hO3
        have hb03 := hbel.trans (hb3.mono hsz)
        have hvlt : ∀ y, (Value.slice A5 M.length cap5).ownBlock = some y → y < wr.heap.size := row_lt hown
        have hge := own_ge hO3
        generalize hvv : Value.slice A5 M.length cap5 = vv at *
        have hnb : wr.heap.size ∉ vv.ownBlock.toList := fun e => by have := hvlt _ (by simpa using e); omega
        have hF2 : ∀ y ∈ F, y ∉ vv.ownBlock.toList := fun y hy e => by
          have h1 := H2.out.lt y hy
          have h2 := hge y (by simpa using e)
          omega
        have HP := Lib.hid hpc; have Hst := Lib.hid hst; have Hlowx := Lib.hid hlowx; have Hl1 := Lib.hid hl1; have Hl0 := Lib.hid hl0; have HO3 := Lib.hid hO3; have Hb03 := Lib.hid hb03; have Hs3 := Lib.hid hs3; have Hz3 := Lib.hid hz3; have Hge := Lib.hid hge; have Hnb := Lib.hid hnb; have HF2 := Lib.hid hF2; have Hvv := Lib.hid hvv
        clear hpc hst hlowx hl1 hl0 hO3 hb03 hs3 hz3 hge hnb hF2 hvv
        clear hro hown hbel hb3 hvlt
        go_wp2_with (refine wpList_load_flat rfl 41 (.tmp 14) rfl _ rfl [.int .i64 c0, .int .i64 c1] _ Tryz.underlying41 rfl (by kernel_rfl) HP.out ?_)
        clear hw3
        refine wp_planK [2, 3] 6 [4] [some 16, some 17, some 18, some 19, some 20, some 21, some 22, some 23, some 5] [[], [], [1], [0, 1, 2], [], [], [0, 1, 2, 3, 4, 5], [0, 1, 2, 3, 4, 5, 6], [0, 1, 2, 3, 4, 5, 6, 7]] [0, 1, 2, 3, 4, 5] (fun Lf σ V => IPuH w3 w2.heap.size vv M (c0, c1) Lf σ V) mixed rfl (by kernel_rfl) (by decide) (by decide) (by decide) (IPuH.start below_drew) rfl ?_
        iterate 6 apply Exists.intro
        refine ⟨rfl, ?_, ?_⟩
        · simp only [List.take_succ_cons, List.take_zero, AllFrom.cons_eq, AllFrom.nil_eq, OpGoalK]
          refine ⟨?_, ?_, ?_, ?_, ?_, ?_, trivial⟩
          all_goals (intro L' σ V h1 h2 h3 hI hp; have HA1 := Lib.hid h1; have HA2 := Lib.hid h2; have HA3 := Lib.hid h3; clear h1 h2 h3; (try simp only [List.getD_cons_zero, List.getD_cons_succ, preK_cons, preK_nil] at hp); (try simp only [List.mem_cons, List.not_mem_nil, or_false, eq_self, Nat.reduceEqDiff, Nat.reduceAdd, Nat.zero_add, false_or, true_or, true_and, and_true] at hp); (first | (have hq : True := hp; clear hq hp) | skip); have HI := Lib.hid hI; clear hI)
          all_goals (
            have hzV := HI.out.mod.keep Hz3.out Hnb.out
            have q0 := blk_cell hzV 0
            have q1 := blk_cell hzV 1
            simp only [List.getElem?_toArray, List.getElem?_cons_zero, List.getElem?_cons_succ] at q0 q1
            have ql := blk_lt hzV
            clear hzV)
          · (go_simp; exact ⟨.inr rfl, HI.out.read (by decide) _⟩)
          · (go_simp; exact ⟨.inr rfl, HI.out.read (by decide) _⟩)
          · go_simp
            exact PostK.mk (c := undef) (.inl (by decide)) (HI.out.oned (HA3.out 3 (by decide)))
          · simp only [wantedL_none, if_true]
            have hbb := HI.out.b HA1.out
            have ha := HI.out.o (HA2.out 2 (by decide)) HA1.out
            have hrw := row_mod HO3.out (Mod.ofBelow hbb) (by simp)
            have Ha := Lib.hid ha; have Hrw := Lib.hid hrw
            have Hlen2 := Lib.hid (show (M.length + 1) * 16 ≤ 140737488355328 by have := Hl0.out; have := Hlen.out; have := HLB.out; omega)
            have Hbs := Lib.hid (show w2.heap.size ≤ V.heap.size from Nat.le_trans Hb03.out.size hbb.size)
            clear ha hrw hbb
            refine yr_app (enc := handleC) (n := 2) (bytes := 16) (.tmp 16) (.tmp 18) 55 41 rfl Tryz.underlying55 info_handle rfl (by omega) (by omega) handleC_one handleC_len w2.heap.size vv M (c0, c1) w3.heap.size (handleC (c0, c1)).toArray 41 (by go_simp) Hrw.out (by go_simp; exact Ha.out) rfl Hlen2.out Hbs.out ?_
            intro v' V' hv hg _
            exact PostK.mk (c := undef) (.inl (by decide)) (HI.out.apped HA1.out hg hv)
          · (go_simp; exact ⟨.inr rfl, HI.out.read (by decide) _⟩)
          · (go_simp; exact ⟨.inr rfl, HI.out.read (by decide) _⟩)
        · intro L' σ V h1 hI hp
          have hA3 := (hI.a (h1 3 (by decide))).2
          have hmV := hI.mod
          clear h1 hI
          simp only [preK_cons, preK_nil, List.getD_cons_zero, List.getD_cons_succ] at hp; simp only [List.mem_cons, List.not_mem_nil, or_false, eq_self, Nat.reduceEqDiff, false_or, true_or, true_and, and_true] at hp
          have hFV := (H2.out.below Hb03.out).mod hmV HF2.out
          have H6 := Lib.hid (IH.out c0 c1 V Hlowx.out hFV)
          have hbV : Below w2.heap.size w2 V := Hb03.out.trans (hmV.toBelow (fun x hx => Hge.out x (by simpa using hx)) Hb03.out.size)
          have HA3 := Lib.hid hA3; have HbV := Lib.hid hbV
          clear hA3 hbV
          clear hmV hFV
          simp only [List.drop_succ_cons, List.drop_zero]
          go_simp
          clear hp
          generalize σ 3 = v3 at *
          generalize σ 2 = v2 at *
          go_wp2_with fail
          refine H6.out.mono ?_
          rintro e w6 ⟨v6, rfl, hown6, hb6⟩
          have hown56 := row_mod HA3.out (Mod.ofBelow hb6) (by simp)
          have hb06 := HbV.out.trans (hb6.mono HbV.out.size)
          have Hown6 := Lib.hid hown6; have Hb06 := Lib.hid hb06; have Hown56 := Lib.hid hown56
          clear hown6 hb06 hown56
          clear hb6
          go_wp2_with (at_builtin; refine app_list rfl _ _ rfl w2.heap.size V.heap.size v3 _ (M ++ [(c0, c1)]) (underN B n (c0, c1)) rfl Hown56.out rfl Hown6.out (by have := Hl1.out; have := Hlen.out; have := HLB.out; rw [List.length_append]; omega) Hb06.out.size ?_; intro v7 w7 hown7 hg7)
          refine ⟨rfl, ?_⟩
          go_wp2_with fail
          go_roundw
          case rel => exact ⟨k + 1, by omega, by go_num, by rw [Hst.out]; exact hown7, Hb06.out.trans ((Below.refl _ _).grown hg7 Hb06.out.size (own_ge Hown56.out))⟩
          case measure => simp [Go.RowKit.intOf]; omega
        all_goals exact undef
      · obtain rfl : k = ks.length := by omega
        rw [Hall.out] at hown
        have hBf := HBw2.out.trans (hbel.mono HBw2.out.size)
        have hown := row_base hown (B' := w.heap.size) (fun k hk => by have := own_ge hown k hk; have := HBw2.out.size; omega)
        have Hown := Lib.hid hown; have HBf := Lib.hid hBf
        clear hown hBf
        clear hbel
        go_wp2
        go_ret
        exact ⟨_, rfl, Hown.out, HBf.out⟩
end
end Go.Proofs.YtehjfmjibiafdaaGreat
