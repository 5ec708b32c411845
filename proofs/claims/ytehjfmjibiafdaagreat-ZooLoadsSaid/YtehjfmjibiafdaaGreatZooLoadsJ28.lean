import Derived.Test.YtehjfmjibiafdaaGreatZooLoadsJ8
import Derived.Test.YtehjfmjibiafdaaGreatZooLoadsJ27
import Derived.Test.YtehjfmjibiafdaaGreatZooLoadsJ18
import Derived.Test.YtehjfmjibiafdaaGreatZooLoadsJ2
import Derived.Shelf.SlIterI.Collect
import Derived.Test.YtehjfmjibiafdaaGreatZooLoadsJ15
import Derived.Test.YtehjfmjibiafdaaGreatZooLoadsJ17
/- The contract of Eq at lists of bonds. -/
namespace Go.Proofs.YtehjfmjibiafdaaGreat
open Go Go.RowKit

attribute [local go_sem] AllFrom.cons_eq AllFrom.nil_eq putF_nil putF_cons wantedL_none wantedL_some OpGoalQ YieldsR preF_nil preF_cons

set_option maxRecDepth 20000 in
set_option maxHeartbeats 1000000 in
theorem eqBond_any (A : Option Addr) (c : Nat) (A' : Option Addr) (c' : Nat) (l l' : List Bd) (w : World) (hl : l.length ≤ 9223372036854775807) (hl' : l'.length ≤ 9223372036854775807)
    (hA : Lies w w.heap.size A (l.flatMap bdC)) (hA' : Lies w w.heap.size A' (l'.flatMap bdC)) :
    Calls Tryz.prog 36 #[.slice A l.length c, .slice A' l'.length c'] w fun e w' => e = .returned (.bool (eqB l l')) ∧ Below w.heap.size w w' := by
  by_cases hlen : l.length = l'.length
  · have hb : ((l.length : Int) != (l'.length : Int)) = false := by simp [hlen]
    have Hlen := Lib.hid hlen
    clear hlen
    go_enter Tryz.func36, Tryz.ntmps36
    go_wp2
    go_loopw [14] (fun i wr => ∃ k : Nat, k ≤ l.length ∧ i = .int .i64 k ∧ l.take k = l'.take k ∧ Below w.heap.size w wr) (fun i _ => l.length - (intOf i).toNat)
    case atStart => exact ⟨0, by omega, rfl, rfl, Below.refl _ _⟩
    case round =>
      obtain ⟨k, hk, rfl, heq, hbel⟩ := hrel
      have Heq := Lib.hid heq
      clear heq hb
      have hsz := hbel.size
      by_cases hlt : k < l.length
      · have hlt' : k < l'.length := by rw [← Hlen.out]; exact hlt
        obtain ⟨ab, ao, rfl, hal, hc⟩ := hA.rec_at bdC_len (by omega) hlt
        obtain ⟨bb, bo, rfl, hbl, hc'⟩ := hA'.rec_at bdC_len (by omega) hlt'
        have hs := take_succ_get l k hlt
        have hs' := take_succ_get l' k hlt'
        have hne : l[k] ≠ l'[k] → l ≠ l' := by
          intro h e; subst e; exact h rfl
        have hc1 : ∀ j u, (bdC l[k])[j]? = some u → wr.cell? ((⟨ab, ao + k * 4, none⟩ : Addr).add j) = some u := fun j u hu => by
          have := (hbel.cell (p := ⟨ab, ao + k * 4 + j, none⟩) hal).trans (hc j u hu)
          rw [Addr.add_mid]; exact this
        have hc2 : ∀ j u, (bdC l'[k])[j]? = some u → wr.cell? ((⟨bb, bo + k * 4, none⟩ : Addr).add j) = some u := fun j u hu => by
          have := (hbel.cell (p := ⟨bb, bo + k * 4 + j, none⟩) hbl).trans (hc' j u hu)
          rw [Addr.add_mid]; exact this
        have hal2 : ab < wr.heap.size := by omega
        have hbl2 : bb < wr.heap.size := by omega
        have hin : (k : Int) < (l'.length : Int) := by omega
        generalize l[k] = x at *
        generalize l'[k] = y at *
        have Hs := Lib.hid hs; have Hs' := Lib.hid hs'; have Hne := Lib.hid hne; have Hc1 := Lib.hid hc1; have Hc2 := Lib.hid hc2; have Hbel := Lib.hid hbel
        have he := fun w => neqBond w x y
        clear hs hs' hne hc hc' hA hA' hc1 hc2 hbel
        generalize hr : eqB x y = r at *
        have Hr := Lib.hid hr
        clear hr
        have hDa : ∀ u ∈ bdC x, u.oneCell' = true := bdC_one x
        have HDa := Lib.hid hDa
        clear hDa
        go_wp2_with (first | (refine wpList_load_flat rfl 84 (.tmp 17) rfl _ rfl (bdC x) _ Tryz.underlying84 rfl (sz_Bond _) Hc1.out ?_) | (refine wpList_store_new rfl 84 (.tmp 6) (.tmp 18) rfl wr (ints [0, 0, 0, 0]) (bdC x) 84 rfl rfl rfl (sz_Bond _) HDa.out ?_))
        have hnew : ∀ j u, (bdC x)[j]? = some u → (wr.alloc (.cells (bdC x).toArray 84)).drew.cell? ((⟨wr.heap.size, 0, none⟩ : Addr).add j) = some u := fun j u hu => new_rec rfl (by simp) j u hu
        have hold : ∀ j u, (bdC y)[j]? = some u → (wr.alloc (.cells (bdC x).toArray 84)).drew.cell? ((⟨bb, bo + k * 4, none⟩ : Addr).add j) = some u := fun j u hu => by
          have := Hc2.out j u hu
          rw [Addr.add_mid] at this ⊢
          exact (((Below.refl wr.heap.size wr).alloc (Nat.le_refl _) _).cell (p := ⟨bb, bo + k * 4 + j, none⟩) hbl2).trans this
        have Hnew := Lib.hid hnew; have Hold := Lib.hid hold
        clear hnew hold
        refine wp_planR 6 [1, 2] [some 19, some 20, some 21, some 22, some 23, some 24] [[], [], [], [1, 2], [1, 2, 3], [0, 1, 2, 3, 4]] [0, 1, 2, 3, 4, 5] mixed rfl (by kernel_rfl) (by decide) (by decide) rfl ?_
        iterate 6 apply Exists.intro
        refine ⟨rfl, ?_, ?_⟩
        · simp only [List.take_succ_cons, List.take_zero, AllFrom.cons_eq, AllFrom.nil_eq, OpGoalQ]
          refine ⟨?_, ?_, ?_, ?_, ?_, ?_, trivial⟩
          all_goals (intro σ hp; (try simp only [List.getD_cons_zero, List.getD_cons_succ, List.map_cons, List.map_nil, preF_cons, preF_nil, isV, and_true] at hp); (first | (have hq : True := hp; clear hq hp) | skip))
          · (simp only [wantedL_none, ↓reduceIte, List.getD_cons_zero, List.getD_cons_succ]; refine yr_load 84 (.tmp 6) (by rfl) ⟨wr.heap.size, 0, none⟩ ?_ (bdC x) _ Tryz.underlying84 rfl (sz_Bond _) Hnew.out ?_; (· go_simp); (· exact ⟨rfl, rfl⟩))
          · (go_simp; exact ⟨rfl, rfl⟩)
          · (go_simp; exact ⟨rfl, rfl⟩)
          · (go_simp; exact ⟨rfl, rfl⟩)
          · (simp only [wantedL_none, ↓reduceIte, List.getD_cons_zero, List.getD_cons_succ]; refine yr_load 84 (.tmp 22) (by rfl) ⟨bb, bo + k * 4, none⟩ ?_ (bdC y) _ Tryz.underlying84 rfl (sz_Bond _) Hold.out ?_; (· go_simp); (· exact ⟨rfl, rfl⟩))
          · (go_simp; exact ⟨rfl, rfl⟩)
        intro σ hp
        simp only [List.getD_cons_zero, List.getD_cons_succ, List.map_cons, List.map_nil, preF_cons, preF_nil, isV, and_true] at hp
        simp only [List.drop_succ_cons, List.drop_zero]
        go_simp
        clear hp
        cases r with
        | true =>
          have hxy : x = y := by simpa [eqB] using Hr.out
          have Hxy := Lib.hid hxy
          clear hxy
          go_simp
          refine ⟨rfl, ?_⟩
          go_wp2
          go_roundw
          case rel => exact ⟨k + 1, by omega, by go_num, by rw [Hs.out, Hs'.out, Heq.out, Hxy.out], (Hbel.out.alloc hsz _).drew⟩
          case measure => simp [intOf]; omega
        | false =>
          have hxy : x ≠ y := by intro e; have := Hr.out; rw [e, eqB_self] at this; cases this
          have Hf := Lib.hid (eqB_ne (Hne.out hxy))
          clear hxy
          go_simp
          refine ⟨rfl, ?_⟩
          go_wp2
          go_ret
          exact ⟨by rw [Hf.out]; rfl, (Hbel.out.alloc hsz _).drew⟩
      · have he : l = l' := by
          have := Heq.out
          rwa [List.take_of_length_le (by omega), List.take_of_length_le (by have := Hlen.out; omega)] at this
        have Hf : Hid (eqB l l' = true) := by rw [he]; exact eqB_self _
        clear he
        go_wp2
        go_ret
        exact ⟨by rw [Hf.out]; rfl, hbel⟩
  · have hb : ((l.length : Int) != (l'.length : Int)) = true := by simp; omega
    have Hf := Lib.hid (eqB_ne (fun e : l = l' => hlen (congrArg List.length e)))
    clear hlen
    go_enter Tryz.func36, Tryz.ntmps36
    go_wp2
    go_ret
    exact ⟨by rw [Hf.out]; rfl, Below.refl _ _⟩
end Go.Proofs.YtehjfmjibiafdaaGreat

/- A family and the reference's bonds side by side; related. (printed by mk_fam6.py) -/
namespace Go.Proofs.YtehjfmjibiafdaaGreat
open Go Go.RowKit
attribute [local go_sem] AllFrom.cons_eq AllFrom.nil_eq putF_nil putF_cons wantedL_none wantedL_some OpGoalT OpGoalV OpGoalQ OpGoalA OpGoalK YieldsR preF_nil preF_cons

def AF (f : Nat) (B : List Bd) (w : World) (F : List Nat) : Prop := RepF w f B F
def AB (vg vl vr : Value) (q : Nat) (B : List Bd) (w : World) (F : List Nat) : Prop := RepB vg vl vr w q B F
abbrev PF (vg vl vr : Value) (Lo : Nat) (Z : List Nat) (f q : Nat) (B B' : List Bd) (w : World) : Prop := Sep Lo Z (AF f B) (AB vg vl vr q B') w
section
variable {vg vl vr : Value} {Lo : Nat} {Z : List Nat} {f q : Nat} {B B' : List Bd} {w : World}
theorem PF.ok (h : PF vg vl vr Lo Z f q B B' w) : FamOk B := by obtain ⟨F, G, h⟩ := h; exact h.a.ok
theorem radopt_any (hO : FamOk B) (hl : B.length ≤ 1200000000000) {F : List Nat} (h : RepB vg vl vr w q B F) (s g t u : Int) : Calls Tryz.prog 34 #[.pointer (some ⟨q, 0, none⟩), .agg #[.int .i64 s, .int .i64 g], .agg #[.int .i64 t, .int .i64 u]] w (RFRet vg vl vr (adoB B (s, g) (t, u)) (.int .i64 (adoE B (s, g) (t, u))) q F w) := by
  by_cases e : (s, g) = (t, u)
  · obtain ⟨rfl, rfl⟩ := Prod.mk.inj e
    rw [show adoB B (s, g) (s, g) = B by unfold adoB; rw [if_pos (Up.refl _)], show adoE B (s, g) (s, g) = 8 by unfold adoE; rw [if_pos (Up.refl _)]]
    exact radopt_same h s g
  · exact radopt_diff hO hl h s g t u e
end
end Go.Proofs.YtehjfmjibiafdaaGreat

/- Families: Children, Under. (printed by mk_fam7.py) -/
namespace Go.Proofs.YtehjfmjibiafdaaGreat
open Go Go.RowKit Go.Maps Go.Sort
attribute [local go_sem] AllFrom.cons_eq AllFrom.nil_eq putF_nil putF_cons wantedL_none wantedL_some OpGoalT OpGoalV OpGoalQ OpGoalA OpGoalK YieldsR preF_nil preF_cons

section
variable {w : World} {f : Nat} {B : List Bd} {F : List Nat}
end
end Go.Proofs.YtehjfmjibiafdaaGreat

/- Families: Under. (printed by mk_fam8.py) -/
namespace Go.Proofs.YtehjfmjibiafdaaGreat
open Go Go.RowKit Go.Maps
attribute [local go_sem] AllFrom.cons_eq AllFrom.nil_eq putF_nil putF_cons wantedL_none wantedL_some OpGoalT OpGoalV OpGoalQ OpGoalA OpGoalK YieldsR preF_nil preF_cons

/-- The region that appends one handle (operations 2 and 3). -/
structure IPuH (w0 : World) (base : Nat) (v : Value) (M : List Hd) (x : Hd) (L : Nat → Bool) (σ : Nat → Value) (V : World) : Prop where
  b : L 3 = false → Below w0.heap.size w0 V
  o : L 2 = true → L 3 = false → oneR w0.heap.size (handleC x).toArray 41 (σ 2) V
  a : L 3 = true → (∃ V0, Below w0.heap.size w0 V0 ∧ V0.grownBy V v.ownBlock) ∧ V.ownsRow base 41 2 (σ 3) (M ++ [x]).length ((M ++ [x]).flatMap handleC)
section
variable {w0 V V' : World} {base : Nat} {v : Value} {M : List Hd} {x : Hd} {L : Nat → Bool} {σ : Nat → Value}
theorem IPuH.start (h : Below w0.heap.size w0 V) : IPuH w0 base v M x (fun _ => false) σ V := ⟨fun _ => h, fun e => (by cases e), fun e => (by cases e)⟩
theorem IPuH.read (h : IPuH w0 base v M x L σ V) {i : Nat} (h1 : 2 ≠ i ∧ 3 ≠ i) (u : Value) : IPuH w0 base v M x (upd L i) (updv σ i u) V := by
  obtain ⟨n1, n2⟩ := h1
  have eL : ∀ j, j ≠ i → upd L i j = L j := fun j hj => by unfold upd; simp [hj]
  have es : ∀ j, j ≠ i → updv σ i u j = σ j := fun j hj => by unfold updv; rw [if_neg hj]
  refine ⟨?_, ?_, ?_⟩
  · rw [eL 3 n2]; exact h.b
  · rw [eL 2 n1, eL 3 n2, es 2 n1]; exact h.o
  · rw [eL 3 n2, es 3 n2]; exact h.a
theorem IPuH.oned (h : IPuH w0 base v M x L σ V) (h3 : L 3 = false) : IPuH w0 base v M x (upd L 2) (updv σ 2 (.slice (some ⟨V.heap.size, 0, none⟩) 1 1)) (V.alloc (.cells (handleC x).toArray 41)) := by
  have eL : upd L 2 3 = L 3 := by unfold upd; simp
  have hs := (h.b h3).size
  refine ⟨fun _ => (h.b h3).alloc hs _, fun _ _ => oneR_new hs, ?_⟩
  rw [eL, h3]; intro e; cases e
theorem IPuH.apped (h : IPuH w0 base v M x L σ V) (h3 : L 3 = false) {u : Value} (hg : V.grownBy V' v.ownBlock) (hv : V'.ownsRow base 41 2 u (M ++ [x]).length ((M ++ [x]).flatMap handleC)) : IPuH w0 base v M x (upd L 3) (updv σ 3 u) V' := by
  refine ⟨fun e => by simp [upd] at e, fun _ e => by simp [upd] at e, fun _ => ⟨⟨V, h.b h3, hg⟩, ?_⟩⟩
  simpa [updv] using hv
/-- All but v's block is as it was. -/
theorem IPuH.mod (h : IPuH w0 base v M x L σ V) : Mod v.ownBlock.toList w0 V := by
  cases e : L 3 with
  | false => exact (Mod.ofBelow (h.b e)).mono (by simp)
  | true =>
    obtain ⟨⟨V0, h1, h2⟩, -⟩ := h.a e
    exact ((Mod.ofBelow h1).mono (by simp) : Mod v.ownBlock.toList w0 V0).step (grown_mod h2)
end
section
variable {f : Nat} {B : List Bd} {F : List Nat}
end
end Go.Proofs.YtehjfmjibiafdaaGreat

/- The reference's zoo: Rows: those that match a query. (printed by mk_zrows.py) -/
namespace Go.Proofs.YtehjfmjibiafdaaGreat
open Go Go.RowKit
variable {vB : Value}

attribute [local go_sem] AllFrom.cons_eq AllFrom.nil_eq putF_nil putF_cons wantedL_none wantedL_some OpGoalT OpGoalV OpGoalQ YieldsR preF_nil preF_cons

/-- The rows that match. -/
def rowsM (L : List Rw) (n t a : Int) : List Rw := L.filter (fun x => matchesB x.2.1 n t a)

/-- What Rows returns: a slice of one's own, or nil and an error. -/
def RowsPost (B : Nat) (L : List Rw) (n t a : Int) (w : World) (e : Ending) (w' : World) : Prop :=
  ∃ v, e = .returned (.tuple #[v, .int .i64 (qcheck n t a)]) ∧ w'.ownsRow B 69 11 v (if qcheck n t a = 0 then rowsM L n t a else []).length ((if qcheck n t a = 0 then rowsM L n t a else []).flatMap rwC) ∧ Below w.heap.size w w'
end Go.Proofs.YtehjfmjibiafdaaGreat

/- slices.Collect(maps.Keys(m)) at a map with integer keys: the keys, in some order. -/
namespace Go.Proofs.YtehjfmjibiafdaaGreat
open Go Go.RowKit Go.Shelf Go.Maps Go.Sort

def keysTab_ren : Go.Shelf.Ren := ⟨fun | 7 => 59 | 10 => 112 | n => n, fun | 23 => 93 | 26 => 3 | 3 => 113 | 28 => 121 | 0 => 0 | 27 => 120 | 33 => 166 | 4 => 4 | n => n, fun | n => n⟩
theorem keysTab : Go.Proofs.SlLaysZI.n7 Tryz.prog keysTab_ren := {
  mixed := by kernel_rfl,
  f7 := ⟨Tryz.f59.name, by decide, Tryz.func59.trans (congrArg some (by kernel_rfl))⟩,
  f10 := ⟨Tryz.f112.name, by decide, Tryz.func112.trans (congrArg some (by kernel_rfl))⟩,
  t0 := Tryz.underlying0,
  a0 := Tryz.isAgg0,
  z0 := Tryz.sizeOf0,
  v0 := Tryz.zeroValue0,
  t4 := Tryz.underlying4,
  a4 := Tryz.isAgg4,
  z4 := Tryz.sizeOf4,
  v4 := Tryz.zeroValue4,
  t23 := Tryz.underlying93,
  a23 := Tryz.isAgg93,
  z23 := Tryz.sizeOf93,
  v23 := Tryz.zeroValue93,
  t26 := Tryz.underlying3,
  a26 := Tryz.isAgg3,
  z26 := Tryz.sizeOf3,
  v26 := Tryz.zeroValue3,
  t27 := Tryz.underlying120,
  a27 := Tryz.isAgg120,
  z27 := Tryz.sizeOf120,
  v27 := Tryz.zeroValue120,
  t28 := Tryz.underlying121,
  a28 := Tryz.isAgg121,
  z28 := Tryz.sizeOf121,
  v28 := Tryz.zeroValue121,
  t33 := Tryz.underlying166,
  a33 := Tryz.isAgg166,
  z33 := Tryz.sizeOf166,
  v33 := Tryz.zeroValue166 }
def collInt_ren : Go.Shelf.Ren := ⟨fun | 8 => 58 | 11 => 111 | n => n, fun | 26 => 3 | 28 => 121 | 24 => 22 | 0 => 0 | 33 => 166 | 4 => 4 | n => n, fun | n => n⟩
theorem collInt : Go.Proofs.SlLaysZI.n8 Tryz.prog collInt_ren := {
  mixed := by kernel_rfl,
  f8 := ⟨Tryz.f58.name, by decide, Tryz.func58.trans (congrArg some (by kernel_rfl))⟩,
  f11 := ⟨Tryz.f111.name, by decide, Tryz.func111.trans (congrArg some (by kernel_rfl))⟩,
  t0 := Tryz.underlying0,
  a0 := Tryz.isAgg0,
  z0 := Tryz.sizeOf0,
  v0 := Tryz.zeroValue0,
  t24 := Tryz.underlying22,
  a24 := Tryz.isAgg22,
  z24 := Tryz.sizeOf22,
  v24 := Tryz.zeroValue22,
  t26 := Tryz.underlying3,
  a26 := Tryz.isAgg3,
  z26 := Tryz.sizeOf3,
  v26 := Tryz.zeroValue3,
  t28 := Tryz.underlying121,
  a28 := Tryz.isAgg121,
  z28 := Tryz.sizeOf121,
  v28 := Tryz.zeroValue121,
  i26 := by kernel_rfl }

/-- A map of one's own as the shelf's contracts read it; what the elements are is left out. -/
def noElem (_ : Value) : Option (DataW Unit × List MemPlace) := some (.nil, [])
def intV (v : Value) : Int := match v with
  | .int _ a => a
  | _ => 0
theorem MapAt.owns {w : World} {b : Nat} {l : List (Nat × Nat)} (h : MapAt Tryz.prog 3 w b (l.map colPr)) (hl : l.length ≤ maxLen) :
    ∃ D : DataW Unit, w.ownsMap Tryz.prog 3 noElem b l.length D ∧ (Go.intKeys D).Perm (l.map fun x => (x.1 : Int)) ∧ Maps.size D = l.length := by
  obtain ⟨es, clock, hb, hk⟩ := h
  have hsz : es.size = l.length := by
    have := congrArg List.length hk.prs
    simpa [prs] using this
  have hrg : ∀ x ∈ es.toList, Go.intOf (WideElems.rg Tryz.prog 3 noElem x).1 = intV x.key := by
    intro x hx
    obtain ⟨kl, hkl⟩ := hk.keys x hx
    obtain ⟨z, h1, h2, -⟩ := Maps.keyOf_i64 Tryz.underlying3 hkl
    rw [WideElems.rg_of (WideElems.rd_mk (born := x.born) hkl rfl), h2, h1]
    rfl
  refine ⟨_, ⟨es, clock, hb, ⟨by omega, hk.st, fun x hx => ?_⟩, by omega, rfl⟩, ?_, ?_⟩
  · obtain ⟨kl, hkl⟩ := hk.keys x hx
    exact ⟨_, WideElems.rd_mk (born := x.born) hkl rfl⟩
  · show (((es.toList.map (WideElems.rg Tryz.prog 3 noElem)).foldr DataW.insert []).map fun p => Go.intOf p.1).Perm _
    refine ((WideShapes.sorted_perm _).map _).trans ?_
    generalize WideElems.rg Tryz.prog 3 noElem = f at hrg ⊢
    rw [List.map_map]
    have e1 : es.toList.map ((fun p => Go.intOf p.1) ∘ f) = (es.toList.map (fun e => (e.key, e.val))).map (fun p => intV p.1) := by
      rw [List.map_map]
      exact List.map_congr_left fun x hx => hrg x hx
    have e2 : es.toList.map (fun e => (e.key, e.val)) = l.map colPr := hk.prs
    rw [e1, e2, List.map_map]
    exact .refl _
  · show ((es.toList.map (WideElems.rg Tryz.prog 3 noElem)).foldr DataW.insert []).length = l.length
    rw [(WideShapes.sorted_perm _).length_eq, List.length_map]
    simpa using hsz

/-- What Collect(Keys(m)) gives. -/
def KeysPost (B : Nat) (l : List (Nat × Nat)) (w : World) (e : Ending) (w' : World) : Prop :=
  ∃ (v : Value) (ss : List Int), e = .returned v ∧ ss.Perm (l.map fun x => (x.1 : Int)) ∧ w'.ownsRow B 3 1 v ss.length (ints ss) ∧ Below w.heap.size w w'
section
variable {w : World} {b : Nat} {l : List (Nat × Nat)}
set_option maxRecDepth 100000 in
theorem keys_any (w : World) (b : Nat) : Calls Tryz.prog 59 #[.map (some b)] w fun e w' => e = .returned (.func (.func 112) #[] #[.pointer (some ⟨w.heap.size, 0, none⟩)]) ∧ w' = w.alloc (.cells #[.map (some b)] 93) :=
  (callsIn_wide (n := 5)).1 (AnyZI.keys_in keysTab Fence.wide 5 trivial rfl (some b) w)
set_option maxRecDepth 100000 in
theorem coll_any (h : MapAt Tryz.prog 3 w b (l.map colPr)) (hl : l.length ≤ 1000) :
    Calls Tryz.prog 58 #[.func (.func 112) #[] #[.pointer (some ⟨w.heap.size, 0, none⟩)]] (w.alloc (.cells #[.map (some b)] 93)) (KeysPost w.heap.size l (w.alloc (.cells #[.map (some b)] 93))) := by
  obtain ⟨D, hD, hp, hs⟩ := h.owns (by unfold maxLen; omega)
  have hbl := hD.lt
  have hseq : SeqGives Fence.wide 4 Tryz.prog 112 #[.pointer (some ⟨w.heap.size, 0, none⟩)] encZ (fun ss => ss.Perm (Go.intKeys D)) (Maps.size D) (w.alloc (.cells #[.map (some b)] 93)) :=
    AnyZI.keys_gives (ρ := keysTab_ren) { keysTab with } Fence.wide _ trivial rfl (by omega) w.heap.size b l.length D _ (by simp) (by simp) (by
      obtain ⟨es, clock, hb, Ft, hs, hD⟩ := hD
      exact ⟨es, clock, (Below.heap_alloc _ _ b hbl).trans hb, Ft, hs, hD⟩)
  have hc := AnyZI.collect_in collInt Fence.wide 6 trivial trivial rfl (by omega) 112 #[.pointer (some ⟨w.heap.size, 0, none⟩)] trivial (enters_of Tryz.func112 (by kernel_rfl) rfl) _ _ (by rw [hs]; unfold maxLen; omega) (by rw [hs]; omega) _ hseq
  refine ((callsIn_wide (n := 6)).1 hc).mono ?_
  rintro e w' ⟨v, ss, rfl, hS, hrow, -, hb⟩
  exact ⟨v, ss, rfl, hS.trans hp, ownsRow_base_a hrow (by simp), hb⟩
end
end Go.Proofs.YtehjfmjibiafdaaGreat

/- Rows of a world: the plain part. (printed by mk_wrows.py) -/
namespace Go.Proofs.YtehjfmjibiafdaaGreat
open Go Go.RowKit

/-! The plain part. -/
def rowsK (rw : Nat → List Rw) (n t a : Int) (ks : List Int) : List Rw := ks.flatMap (fun k => if matchesB k n t a = true then rw k.toNat else [])
theorem rowsK_snoc (rw : Nat → List Rw) (n t a : Int) (ks : List Int) (k : Int) : rowsK rw n t a (ks ++ [k]) = rowsK rw n t a ks ++ (if matchesB k n t a = true then rw k.toNat else []) := by
  unfold rowsK; rw [List.flatMap_append]; simp
theorem rowsK_len {rw : Nat → List Rw} {n t a : Int} : ∀ {ks : List Int}, (∀ k ∈ ks, (rw k.toNat).length ≤ 60) → (rowsK rw n t a ks).length ≤ 60 * ks.length
  | [], _ => by simp [rowsK]
  | k :: ks, h => by
    have ih := rowsK_len (n := n) (t := t) (a := a) (fun x hx => h x (List.mem_cons_of_mem _ hx))
    have h1 := h k (by simp)
    unfold rowsK at ih ⊢
    rw [List.flatMap_cons, List.length_append, List.length_cons, Nat.mul_add]
    have h2 : (if matchesB k n t a = true then rw k.toNat else []).length ≤ 60 := by
      split
      · exact h1
      · simp
    omega
section
variable {sl : Sl} {L : List Rw} {tb : List (Nat × Nat)} {rw : Nat → List Rw} {pl : List Pl}
theorem WCore.tabs (hc : WCore (· ∈ L) (tb.map (·.1)) rw pl) (hO : WOk sl L) : (∀ k ∈ tb.map (·.1), k < 256 ∧ (rw k).length ≤ 60) ∧ tb.length ≤ 256 := by
  have h1 : ∀ k ∈ tb.map (·.1), k < 256 ∧ (rw k).length ≤ 60 := by
    intro k hk
    have hl := hc.len (fun _ h => h) hk
    have := hO.len
    refine ⟨?_, by omega⟩
    have hne := hc.ne k hk
    cases hr : rw k with
    | nil => exact absurd hr hne
    | cons x r =>
      obtain ⟨h2, h3, -⟩ := hc.row k hk 0 x (by rw [hr]; rfl)
      exact (beastZ_good (hO.be x h2) h3).2
  refine ⟨h1, ?_⟩
  have h2 : (tb.map (·.1)).length ≤ (List.range 256).length := List.Nodup.length_le_of_subset hc.tn (fun k hk => List.mem_range.2 (h1 k hk).1)
  simpa using h2
theorem rowsK_mem (hc : WCore (· ∈ L) (tb.map (·.1)) rw pl) {ks : List Int} (hp : ks.Perm (tb.map fun x => (x.1 : Int))) (n t a : Int) (y : Rw) : y ∈ rowsK rw n t a ks ↔ y ∈ rowsM L n t a := by
  unfold rowsK rowsM
  rw [List.mem_flatMap, List.mem_filter]
  constructor
  · rintro ⟨k, hk, hy⟩
    split at hy
    · next hm =>
      obtain ⟨x, hx, rfl⟩ := List.mem_map.1 (hp.mem_iff.1 hk)
      rw [Int.toNat_natCast] at hy
      obtain ⟨i, hi⟩ := List.mem_iff_getElem?.1 hy
      obtain ⟨h2, h3, -⟩ := hc.row x.1 (List.mem_map.2 ⟨x, hx, rfl⟩) i y hi
      exact ⟨h2, by rw [h3]; exact hm⟩
    · simp at hy
  · rintro ⟨hy, hm⟩
    obtain ⟨s, k, i, h1, h2, h3⟩ := hc.has y hy
    obtain ⟨hk, -⟩ := hc.pla s k i h2
    obtain ⟨-, h5, -⟩ := hc.row k hk i y h3
    obtain ⟨x, hx, rfl⟩ := List.mem_map.1 hk
    refine ⟨(x.1 : Int), hp.mem_iff.2 (List.mem_map.2 ⟨x, hx, rfl⟩), ?_⟩
    rw [h5] at hm
    rw [if_pos hm, Int.toNat_natCast]
    exact List.mem_of_getElem? h3
theorem rowsK_nodup (hc : WCore (· ∈ L) (tb.map (·.1)) rw pl) {ks : List Int} (hp : ks.Perm (tb.map fun x => (x.1 : Int))) (n t a : Int) : (rowsK rw n t a ks).Nodup := by
  have hin : ∀ k ∈ ks, ∃ x ∈ tb, k = (x.1 : Int) := fun k hk => by
    obtain ⟨x, hx, e⟩ := List.mem_map.1 (hp.mem_iff.1 hk)
    exact ⟨x, hx, e.symm⟩
  have hkn : ks.Nodup := by
    refine List.Nodup.perm ?_ hp.symm
    have := hc.tn
    unfold List.Nodup at this ⊢
    rw [List.pairwise_map] at this ⊢
    exact this.imp (fun h e => h (by omega))
  unfold rowsK List.Nodup
  rw [List.pairwise_flatMap]
  refine ⟨fun k hk => ?_, ?_⟩
  · split
    · obtain ⟨x, hx, rfl⟩ := hin k hk
      rw [Int.toNat_natCast]
      refine List.pairwise_iff_getElem.2 fun i j hi hj hij e => ?_
      have hkt : x.1 ∈ tb.map (·.1) := List.mem_map.2 ⟨x, hx, rfl⟩
      obtain ⟨-, -, s, q1, q2⟩ := hc.row x.1 hkt i _ (List.getElem?_eq_getElem hi)
      obtain ⟨-, -, s', q3, q4⟩ := hc.row x.1 hkt j _ (List.getElem?_eq_getElem hj)
      rw [e] at q1
      have : s = s' := by omega
      subst this
      have := key_one hc.pn q2 q4
      simp only [Prod.mk.injEq] at this
      omega
    · exact .nil
  · refine List.Pairwise.imp_of_mem ?_ hkn
    intro k1 k2 hk1 hk2 hne x hx y hy e
    subst e
    split at hx
    · split at hy
      · obtain ⟨x1, hx1, rfl⟩ := hin k1 hk1
        obtain ⟨x2, hx2, rfl⟩ := hin k2 hk2
        rw [Int.toNat_natCast] at hx hy
        obtain ⟨i, hi⟩ := List.mem_iff_getElem?.1 hx
        obtain ⟨j, hj⟩ := List.mem_iff_getElem?.1 hy
        obtain ⟨-, h3, -⟩ := hc.row x1.1 (List.mem_map.2 ⟨x1, hx1, rfl⟩) i _ hi
        obtain ⟨-, h4, -⟩ := hc.row x2.1 (List.mem_map.2 ⟨x2, hx2, rfl⟩) j _ hj
        exact hne (by omega)
      · simp at hy
    · simp at hx
end
end Go.Proofs.YtehjfmjibiafdaaGreat
