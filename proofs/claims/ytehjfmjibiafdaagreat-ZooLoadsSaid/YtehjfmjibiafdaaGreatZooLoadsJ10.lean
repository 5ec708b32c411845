import Derived.Test.YtehjfmjibiafdaaGreatZooLoadsJ9
import Derived.Test.YtehjfmjibiafdaaGreatZooLoadsJ8
import Derived.Lib.LazyBuf
/- Tables in memory. -/
namespace Go.Proofs.YtehjfmjibiafdaaGreat
open Go Go.RowKit

/-- The value of kind k. -/
def valK (k : Nat) (b : Bt) : Int := (btI b).getD (k + 1) 0
/-- A column l in block c; F: its blocks. -/
def Col (w : World) (c : Nat) (l : List Int) (F : List Nat) : Prop := ∃ v, FieldAt intC 3 1 w c 0 #[v] 179 v l ∧ F = c :: v.ownBlock.toList
theorem Col.mod {w w' : World} {c : Nat} {l : List Int} {F G : List Nat} (h : Col w c l F) (hm : Mod G w w') (hd : ∀ k ∈ F, k ∉ G) : Col w' c l F := by
  obtain ⟨v, hf, rfl⟩ := h
  exact ⟨v, hf.mod hm (hd c (by simp)) (fun k hk => hd k (by simp [hk])), rfl⟩
theorem Col.lt {w : World} {c : Nat} {l : List Int} {F : List Nat} (h : Col w c l F) : ∀ k ∈ F, k < w.heap.size := by
  obtain ⟨v, hf, rfl⟩ := h
  intro k hk
  rcases List.mem_cons.1 hk with rfl | hk
  · exact hf.lt
  · exact row_lt hf.row k (by simpa using hk)

/-- Columns of the kinds of cs (kind, block); ls: their lists; Fs: their blocks, none of them in base. -/
structure ColsAt (w : World) (cs : List (Nat × Nat)) (ls : Nat → List Int) (Fs : Nat → List Nat) (base : List Nat) : Prop where
  col : ∀ kc ∈ cs, Col w kc.2 (ls kc.1) (Fs kc.1)
  apart : ∀ kc ∈ cs, ∀ kd ∈ cs, kc.1 ≠ kd.1 → ∀ x ∈ Fs kc.1, x ∉ Fs kd.1
  off : ∀ kc ∈ cs, ∀ x ∈ Fs kc.1, x ∉ base
theorem ColsAt.mod {w w' : World} {cs : List (Nat × Nat)} {ls : Nat → List Int} {Fs : Nat → List Nat} {base G : List Nat} (h : ColsAt w cs ls Fs base) (hm : Mod G w w') (hd : ∀ kc ∈ cs, ∀ x ∈ Fs kc.1, x ∉ G) : ColsAt w' cs ls Fs base :=
  ⟨fun kc hk => (h.col kc hk).mod hm (hd kc hk), h.apart, h.off⟩
theorem ColsAt.congr {w : World} {cs : List (Nat × Nat)} {ls ls' : Nat → List Int} {Fs : Nat → List Nat} {base : List Nat} (h : ColsAt w cs ls Fs base) (he : ∀ kc ∈ cs, ls kc.1 = ls' kc.1) : ColsAt w cs ls' Fs base :=
  ⟨fun kc hk => by rw [← he kc hk]; exact h.col kc hk, h.apart, h.off⟩
def updL {α : Type} (f : Nat → α) (k : Nat) (x : α) : Nat → α := fun j => if j = k then x else f j
theorem updL_same {α : Type} (f : Nat → α) (k : Nat) (x : α) : updL f k x k = x := by simp [updL]
theorem updL_ne {α : Type} (f : Nat → α) {k j : Nat} (x : α) (h : j ≠ k) : updL f k x j = f j := by simp [updL, h]
theorem kind_inj {cs : List (Nat × Nat)} (hn : (cs.map (·.1)).Nodup) {kc kd : Nat × Nat} (h1 : kc ∈ cs) (h2 : kd ∈ cs) (e : kc.1 = kd.1) : kc = kd := by
  induction cs with
  | nil => cases h1
  | cons a cs ih =>
    simp only [List.map_cons, List.nodup_cons] at hn
    rcases List.mem_cons.1 h1 with e1 | m1
    · rcases List.mem_cons.1 h2 with e2 | m2
      · rw [e1, e2]
      · exact absurd (by rw [← e1, e]; exact List.mem_map.2 ⟨kd, m2, rfl⟩) hn.1
    · rcases List.mem_cons.1 h2 with e2 | m2
      · exact absurd (by rw [← e2, ← e]; exact List.mem_map.2 ⟨kc, m1, rfl⟩) hn.1
      · exact ih hn.2 m1 m2
/-- One column has turned. -/
theorem ColsAt.step {w w' : World} {cs : List (Nat × Nat)} {ls : Nat → List Int} {Fs : Nat → List Nat} {base : List Nat} (h : ColsAt w cs ls Fs base) (hn : (cs.map (·.1)).Nodup) (hb : ∀ x ∈ base, x < w.heap.size) {kc : Nat × Nat} (hk : kc ∈ cs)
    {v : Value} {l' : List Int} (hF : Fs kc.1 = kc.2 :: v.ownBlock.toList) (hp : FieldPost intC 3 1 w kc.2 0 #[v] 179 v l' w') :
    ∃ Fs', ColsAt w' cs (updL ls kc.1 l') Fs' base ∧ (∀ kd ∈ cs, ∀ x ∈ Fs' kd.1, x ∈ Fs kd.1 ∨ w.heap.size ≤ x) ∧ Mod (Fs kc.1) w w' := by
  obtain ⟨⟨v', hf, hl⟩, hm⟩ := hp
  have hm' : Mod (Fs kc.1) w w' := by rw [hF]; exact hm
  have hnew : ∀ x ∈ kc.2 :: v'.ownBlock.toList, x ∈ Fs kc.1 ∨ w.heap.size ≤ x := by
    intro x hx
    rw [hF]
    rcases List.mem_cons.1 hx with rfl | hx
    · exact .inl (by simp)
    · rcases hl x (by simpa using hx) with h1 | h1
      · exact .inl (by simp [h1])
      · exact .inr h1
  have hold : ∀ kd ∈ cs, ∀ x ∈ Fs kd.1, x < w.heap.size := fun kd hd => (h.col kd hd).lt
  refine ⟨updL Fs kc.1 (kc.2 :: v'.ownBlock.toList), ⟨?_, ?_, ?_⟩, ?_, hm'⟩
  · intro kd hd
    by_cases e : kd.1 = kc.1
    · have := kind_inj hn hd hk e
      subst this
      rw [updL_same, updL_same]
      exact ⟨v', by simpa using hf, rfl⟩
    · rw [updL_ne _ _ e, updL_ne _ _ e]
      exact (h.col kd hd).mod hm' (fun x hx => h.apart kd hd kc hk e x hx)
  · intro ka ha kd hd hne x hx hx2
    by_cases e : ka.1 = kc.1
    · rw [e, updL_same] at hx
      rw [updL_ne _ _ (by rw [← e]; exact Ne.symm hne)] at hx2
      rcases hnew x hx with h1 | h1
      · exact h.apart kc hk kd hd (by rw [← e]; exact hne) x h1 hx2
      · have := hold kd hd x hx2; omega
    · rw [updL_ne _ _ e] at hx
      by_cases e2 : kd.1 = kc.1
      · rw [e2, updL_same] at hx2
        rcases hnew x hx2 with h1 | h1
        · exact h.apart ka ha kc hk e x hx h1
        · have := hold ka ha x hx; omega
      · rw [updL_ne _ _ e2] at hx2
        exact h.apart ka ha kd hd hne x hx hx2
  · intro kd hd x hx hxb
    by_cases e : kd.1 = kc.1
    · rw [e, updL_same] at hx
      rcases hnew x hx with h1 | h1
      · exact h.off kc hk x h1 hxb
      · have := hb x hxb; omega
    · rw [updL_ne _ _ e] at hx
      exact h.off kd hd x hx hxb
  · intro kd hd x hx
    by_cases e : kd.1 = kc.1
    · rw [e, updL_same] at hx
      rw [e]; exact hnew x hx
    · rw [updL_ne _ _ e] at hx
      exact .inl hx

/-- The entries of a table's map. -/
def colPr (kc : Nat × Nat) : Value × Value := (.int .i64 (kc.1 : Int), .pointer (some ⟨kc.2, 0, none⟩))
def tabCs (kn : Nat) (vh : Value) (m : Nat) : Array Value := #[.int .i64 (kn : Int), vh, .map (some m)]
/-- A table of the kinds kn at block p, its parts named. -/
structure TabAt (w : World) (p : Nat) (kn : Nat) (hs : List Hd) (ls : Nat → List Int) (vh : Value) (m : Nat) (cs : List (Nat × Nat)) (Fs : Nat → List Nat) : Prop where
  hd : FieldAt handleC 41 2 w p 1 (tabCs kn vh m) 176 vh hs
  map : MapAt Tryz.prog 3 w m (cs.map colPr)
  kinds : cs.map (·.1) = natKinds kn 8
  cols : ColsAt w cs ls Fs (p :: m :: vh.ownBlock.toList)
  mp : m ≠ p
  mh : ∀ k, vh.ownBlock = some k → k ≠ m
def tabF (p m : Nat) (vh : Value) (cs : List (Nat × Nat)) (Fs : Nat → List Nat) : List Nat := p :: m :: (vh.ownBlock.toList ++ cs.flatMap (fun kc => Fs kc.1))
theorem natKinds_nodup (m n : Nat) : (natKinds m n).Nodup := by
  unfold natKinds
  exact List.Nodup.sublist List.filter_sublist List.nodup_range
section
variable {w w' : World} {p kn m : Nat} {hs : List Hd} {ls : Nat → List Int} {vh : Value} {cs : List (Nat × Nat)} {Fs : Nat → List Nat}
theorem TabAt.nodup (h : TabAt w p kn hs ls vh m cs Fs) : (cs.map (·.1)).Nodup := by rw [h.kinds]; exact natKinds_nodup _ _
theorem TabAt.mod (h : TabAt w p kn hs ls vh m cs Fs) {G : List Nat} (hm : Mod G w w') (hd : ∀ k ∈ tabF p m vh cs Fs, k ∉ G) : TabAt w' p kn hs ls vh m cs Fs :=
  ⟨h.hd.mod hm (hd p (by simp [tabF])) (fun k hk => hd k (by simp [tabF, hk])), h.map.mod hm (hd m (by simp [tabF])), h.kinds,
    h.cols.mod hm (fun kc hk x hx => hd x (by simp only [tabF, List.mem_cons, List.mem_append, List.mem_flatMap]; exact .inr (.inr (.inr ⟨kc, hk, hx⟩)))), h.mp, h.mh⟩
theorem TabAt.lt (h : TabAt w p kn hs ls vh m cs Fs) : ∀ k ∈ tabF p m vh cs Fs, k < w.heap.size := by
  intro k hk
  simp only [tabF, List.mem_cons, List.mem_append, List.mem_flatMap] at hk
  rcases hk with rfl | rfl | hk | ⟨kc, hc, hk⟩
  · exact h.hd.lt
  · exact h.map.lt
  · exact row_lt h.hd.row k (by simpa using hk)
  · exact (h.cols.col kc hc).lt k hk
end
/-- A table with rows in memory; F: its blocks. -/
def RepT (w : World) (p kn : Nat) (rows : List Rw) (F : List Nat) : Prop :=
  ∃ vh m cs Fs, TabAt w p kn (rows.map (·.1)) (fun k => rows.map fun r => valK k r.2) vh m cs Fs ∧ F = tabF p m vh cs Fs
theorem RepT.mod {w w' : World} {p kn : Nat} {rows : List Rw} {F G : List Nat} (h : RepT w p kn rows F) (hm : Mod G w w') (hd : ∀ k ∈ F, k ∉ G) : RepT w' p kn rows F := by
  obtain ⟨vh, m, cs, Fs, ht, rfl⟩ := h
  exact ⟨vh, m, cs, Fs, ht.mod hm hd, rfl⟩
theorem RepT.lt {w : World} {p kn : Nat} {rows : List Rw} {F : List Nat} (h : RepT w p kn rows F) : ∀ k ∈ F, k < w.heap.size := by
  obtain ⟨vh, m, cs, Fs, ht, rfl⟩ := h
  exact ht.lt

theorem keyedInt : Go.Maps.Keyed Tryz.prog 3 := Go.Maps.int_keyed Tryz.underlying3
theorem keyInt {z : Int} (h : InR z) : keyOf Tryz.prog 3 (.int .i64 z) = some (.int .i64 z) := Go.Maps.keyOf_int_mk Tryz.underlying3 (by
  unfold InR at h
  simp [Lit.wf, IntKind.min, IntKind.max, IntKind.bits, IntKind.signed]
  omega)
end Go.Proofs.YtehjfmjibiafdaaGreat

/- slices.Clone, and the reference's Copy. -/
namespace Go.Proofs.YtehjfmjibiafdaaGreat
open Go Go.RowKit

def MadeR {α : Type} (E n : Nat) (enc : α → List Value) (l : List α) (w : World) (e : Ending) (w' : World) : Prop := ∃ v, e = .returned v ∧ w'.ownsRow w.heap.size E n v l.length (l.flatMap enc) ∧ Below w.heap.size w w'
theorem flat_one {α : Type} {enc : α → List Value} (h : ∀ x, ∀ u ∈ enc x, u.oneCell' = true) (l : List α) : ∀ u ∈ l.flatMap enc, u.oneCell' = true := fun u hu => by
  obtain ⟨x, _, hx⟩ := List.mem_flatMap.1 hu
  exact h x u hx

set_option maxRecDepth 100000 in
set_option maxHeartbeats 1000000 in
theorem cloneH_any (A : Option Addr) (c : Nat) (l : List (Int × Int)) (w : World) (hl : l.length * 16 ≤ 140737488351232) (hA : Lies w w.heap.size A (l.flatMap handleC)) (hn : A = none → l = []) (hc : A = none → c = 0) :
    Calls Tryz.prog 113 #[.slice A l.length c] w (MadeR 41 2 handleC l w) := by
  have Hl := Lib.hid hl
  have hl2 : l.length ≤ 9223372036854775807 := by omega
  clear hl
  cases A with
  | none =>
    obtain rfl := hn rfl
    obtain rfl := hc rfl
    clear hn hc hA Hl hl2
    have hnil := fun w => run_eql_slice_nil w 55 41 none 0 0 Tryz.underlying55
    simp only [Option.isNone_none] at hnil
    go_enter Tryz.func113, Tryz.ntmps113
    go_wp2
    go_ret
    exact ⟨_, rfl, ⟨rfl, .inl ⟨rfl, rfl⟩⟩, Below.refl _ _⟩
  | some a =>
    have hnews : ∀ j u, (l.flatMap handleC)[j]? = some u → w.cell? (a.add j) = some u := fun j u hu => by
      obtain ⟨a', e, _, h⟩ := hA j u hu
      cases e; exact h
    have hb : ∀ j u, (l.flatMap handleC)[j]? = some u → a.block < w.heap.size := fun j u hu => by
      obtain ⟨a', e, h, _⟩ := hA j u hu
      cases e; exact h
    have hnew2 : ∀ o, ∀ j u, (l.flatMap handleC)[j]? = some u → (w.alloc o).cell? (a.add j) = some u := fun o j u hu =>
      (((Below.refl w.heap.size w).alloc (Nat.le_refl _) o).cell (p := a.add j) (by rw [add_block]; exact hb j u hu)).trans (hnews j u hu)
    have HN := Lib.hid hnew2; have HN0 := Lib.hid hnews
    have H0 := Lib.hid (flatV_length handleC_len l)
    have HO := Lib.hid (flat_one handleC_one l)
    obtain ⟨i0, hi, hz0, hz1, hz2⟩ := info_parts info_handle
    have HI := Lib.hid hi; have HZ0 := Lib.hid hz0; have HZ1 := Lib.hid hz1; have HZ2 := Lib.hid hz2
    clear hA hn hc hnews hb hnew2 hi hz0 hz1 hz2
    have hnil := fun w => run_eql_slice_nil w 55 41 (some a) l.length c Tryz.underlying55
    simp only [Option.isNone_some] at hnil
    go_enter Tryz.func113, Tryz.ntmps113
    go_wp2_with (at_builtin; refine wpList_append_own_at _ rfl _ _ 55 rfl w.heap.size 41 i0 _ 2 16 Tryz.underlying55 HI.out HZ0.out HZ1.out HZ2.out rfl (by omega) (.slice (some ⟨w.heap.size, 0, none⟩) 0 0) 0 [] rfl ⟨by simp, .inr ⟨w.heap.size, 0, #[], rfl, Nat.le_refl _, heap_alloc_new w _, Nat.le_refl _, by unfold maxLen; omega, rfl, rfl⟩⟩ a l.length c (l.flatMap handleC) rfl (H0.out) (HN.out _) HO.out (by unfold maxLen; omega) (by have := Hl.out; omega) (by simp) ?_; intro v' w' hown hg _ _)
    go_ret
    refine ⟨_, rfl, ?_, ((Below.refl w.heap.size w).alloc (Nat.le_refl _) _).grown hg (by simp) (fun k hk => by cases hk; exact Nat.le_refl _)⟩
    simpa using hown

set_option maxRecDepth 100000 in
set_option maxHeartbeats 1000000 in
theorem copyR_any (A : Option Addr) (c : Nat) (l : List Rw) (w : World) (hl : l.length * 88 ≤ 140737488351232) (hA : Lies w w.heap.size A (l.flatMap rwC)) (hn : A = none → l = []) (hc : A = none → c = 0) :
    Calls Tryz.prog 40 #[.slice A l.length c] w (MadeR 69 11 rwC l w) := by
  have Hl := Lib.hid hl
  have hl2 : l.length ≤ 9223372036854775807 := by omega
  clear hl
  cases A with
  | none =>
    obtain rfl := hn rfl
    obtain rfl := hc rfl
    clear hn hc hA Hl hl2
    have hnil := fun w => run_eql_slice_nil w 23 69 none 0 0 Tryz.underlying23
    simp only [Option.isNone_none] at hnil
    go_enter Tryz.func40, Tryz.ntmps40
    go_wp2
    go_ret
    exact ⟨_, rfl, ⟨rfl, .inl ⟨rfl, rfl⟩⟩, Below.refl _ _⟩
  | some a =>
    have hnews : ∀ j u, (l.flatMap rwC)[j]? = some u → w.cell? (a.add j) = some u := fun j u hu => by
      obtain ⟨a', e, _, h⟩ := hA j u hu
      cases e; exact h
    have hb : ∀ j u, (l.flatMap rwC)[j]? = some u → a.block < w.heap.size := fun j u hu => by
      obtain ⟨a', e, h, _⟩ := hA j u hu
      cases e; exact h
    have hnew2 : ∀ o, ∀ j u, (l.flatMap rwC)[j]? = some u → (w.alloc o).cell? (a.add j) = some u := fun o j u hu =>
      (((Below.refl w.heap.size w).alloc (Nat.le_refl _) o).cell (p := a.add j) (by rw [add_block]; exact hb j u hu)).trans (hnews j u hu)
    have HN := Lib.hid hnew2; have HN0 := Lib.hid hnews
    have H0 := Lib.hid (flatV_length rwC_len l)
    have HO := Lib.hid (flat_one rwC_one l)
    obtain ⟨i0, hi, hz0, hz1, hz2⟩ := info_parts inf_Row
    have HI := Lib.hid hi; have HZ0 := Lib.hid hz0; have HZ1 := Lib.hid hz1; have HZ2 := Lib.hid hz2
    clear hA hn hc hnews hb hnew2 hi hz0 hz1 hz2
    have hnil := fun w => run_eql_slice_nil w 23 69 (some a) l.length c Tryz.underlying23
    simp only [Option.isNone_some] at hnil
    go_enter Tryz.func40, Tryz.ntmps40
    go_wp2_with (at_builtin; refine wpList_append_own_at _ rfl _ _ 23 rfl w.heap.size 69 i0 _ 11 88 Tryz.underlying23 HI.out HZ0.out HZ1.out HZ2.out rfl (by omega) (.slice none 0 0) 0 [] rfl ⟨by simp, .inl ⟨rfl, rfl⟩⟩ a l.length c (l.flatMap rwC) rfl (H0.out) HN0.out HO.out (by unfold maxLen; omega) (by have := Hl.out; omega) (Nat.le_refl _) ?_; intro v' w' hown hg _ _)
    go_ret
    refine ⟨_, rfl, ?_, (Below.refl w.heap.size w).grown hg (Nat.le_refl _) (fun k hk => by cases hk)⟩
    simpa using hown
end Go.Proofs.YtehjfmjibiafdaaGreat

/- Tables: isRow, of, Handles, Column, Set. -/
namespace Go.Proofs.YtehjfmjibiafdaaGreat
open Go Go.RowKit

def rowB (r : Int) (n : Nat) : Bool := decide (0 ≤ r) && decide (r < (n : Int))
theorem rowB_iff {r : Int} {n : Nat} : rowB r n = true ↔ ∃ k : Nat, r = k ∧ k < n := by
  simp only [rowB, Bool.and_eq_true, decide_eq_true_eq]
  constructor
  · intro h; exact ⟨r.toNat, by omega, by omega⟩
  · rintro ⟨k, rfl, h⟩; omega

section
variable {w : World} {p kn m : Nat} {hs : List Hd} {ls : Nat → List Int} {vh : Value} {cs : List (Nat × Nat)} {Fs : Nat → List Nat}

theorem isRow_any (h : TabAt w p kn hs ls vh m cs Fs) (r : Int) :
    Calls Tryz.prog 109 #[.pointer (some ⟨p, 0, none⟩), .int .i64 r] w fun e w' => e = .returned (.bool (rowB r hs.length)) ∧ w = w' := by
  obtain ⟨A, cap, he, hn, hc⟩ := row_slice h.hd.row
  have c1 := h.hd.cell
  rw [he] at c1
  have hle : hs.length ≤ 9223372036854775807 := by unfold maxLen at hc; omega
  clear he hn hc
  by_cases h0 : 0 ≤ r
  · have hd : decide (0 ≤ r) = true := by simpa using h0
    have H := Lib.hid (show rowB r hs.length = decide (r < (hs.length : Int)) by unfold rowB; rw [hd]; rfl)
    clear h h0
    go_enter Tryz.func109, Tryz.ntmps109
    go_wp2
    go_ret
    exact ⟨by rw [H.out]; rfl, rfl⟩
  · have hd : decide (0 ≤ r) = false := by simpa using h0
    have H := Lib.hid (show rowB r hs.length = false by unfold rowB; rw [hd]; rfl)
    clear h h0
    go_enter Tryz.func109, Tryz.ntmps109
    go_wp2
    go_ret
    exact ⟨by rw [H.out]; rfl, rfl⟩

theorem inR_nat {k : Nat} (h : k < 256) : InR (k : Int) := by unfold InR; omega
theorem handles_any (h : TabAt w p kn hs ls vh m cs Fs) (hl : hs.length ≤ 1200000000000) :
    Calls Tryz.prog 61 #[.pointer (some ⟨p, 0, none⟩)] w (MadeR 41 2 handleC hs w) := by
  obtain ⟨A, cap, he, hn, hc⟩ := row_slice h.hd.row
  have c1 := h.hd.cell
  have hrow := h.hd.row
  rw [he] at c1 hrow
  obtain ⟨A', cap', he', _, hlies⟩ := own_lies hrow
  cases he'
  have hnil : A = none → hs = [] ∧ cap = 0 := by
    rintro rfl
    rcases hrow with ⟨hl, ⟨h1, h2⟩ | ⟨g, cap2, cur, h1, _⟩⟩
    · simp only [Value.slice.injEq, true_and] at h1
      exact ⟨List.eq_nil_of_length_eq_zero h1.1, h1.2⟩
    · cases h1
  have hcl := cloneH_any A cap hs w (by omega) hlies (fun e => (hnil e).1) (fun e => (hnil e).2)
  have H := Lib.hid hcl
  have hle : hs.length ≤ 9223372036854775807 := by omega
  clear h he hn hc hrow hlies hnil hcl hl
  go_enter Tryz.func61, Tryz.ntmps61
  go_wp2_with fail
  refine H.out.mono ?_
  rintro e w1 ⟨v, rfl, hown, hb⟩
  have HO := Lib.hid hown; have HB := Lib.hid hb
  clear hown hb
  obtain ⟨A2, cap2, rfl, -, -⟩ := row_slice HO.out
  go_wp2
  go_ret
  exact ⟨_, rfl, HO.out, HB.out⟩
end
end Go.Proofs.YtehjfmjibiafdaaGreat

/- Tables: Column, Set. -/
namespace Go.Proofs.YtehjfmjibiafdaaGreat
open Go Go.RowKit

section
variable {w : World} {p kn m : Nat} {hs : List Hd} {ls : Nat → List Int} {vh : Value} {cs : List (Nat × Nat)} {Fs : Nat → List Nat}
end
end Go.Proofs.YtehjfmjibiafdaaGreat
