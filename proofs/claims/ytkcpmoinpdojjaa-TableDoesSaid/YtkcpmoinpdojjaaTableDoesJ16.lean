import Derived.Test.YtkcpmoinpdojjaaTableDoesJ15
import Derived.ProofKit
import Derived.Below
import Derived.Carry
import Derived.SizedLaws
import Derived.Deep.Slices
import Derived.Test.YtkcpmoinpdojjaaChecked
import Derived.JoinedOf
import Derived.KernelRfl
import Derived.OpenShut
import Derived.Test.YtkcpmoinpdojjaaTableDoesJ2
import Derived.Test.YtkcpmoinpdojjaaTableDoesJ1
import Derived.Test.YtkcpmoinpdojjaaProg
import Derived.Test.YtkcpmoinpdojjaaTableDoesJ8
/- Tables side by side: Remove, Set, Row, Column. -/
namespace Go.Proofs.Ytkcpmoinpdojjaa
open Go Go.RowKit

def zeroR : Rw := ((0, 0), 0, 0, 0, 0, 0, 0, 0, 0, 0)
/-- The row at r; whether there is one; the rows without it. -/
def rowG (rows : List Rw) (r : Int) : Rw := if rowB r rows.length = true then rows.getD r.toNat zeroR else zeroR
def rowZ (rows : List Rw) (r : Int) : Int := if rowB r rows.length = true then 0 else 5
def remV (rows : List Rw) (r : Int) : List Rw := if rowB r rows.length = true then remL rows r.toNat else rows
def setV (kn : Nat) (rows : List Rw) (r k n : Int) : List Rw := if setE kn r rows.length k n = 0 then rows.set r.toNat (rwSet (rows.getD r.toNat zeroR) k.toNat n) else rows

theorem rowG_at {rows : List Rw} {q : Nat} (hq : q < rows.length) : rowG rows q = rows[q] ∧ rowZ rows q = 0 ∧ remV rows q = remL rows q := by
  have : rowB (q : Int) rows.length = true := rowB_iff.2 ⟨q, rfl, hq⟩
  refine ⟨?_, ?_, ?_⟩
  · unfold rowG; rw [if_pos this, Int.toNat_natCast, List.getD_eq_getElem?_getD, List.getElem?_eq_getElem hq]; rfl
  · unfold rowZ; rw [if_pos this]
  · unfold remV; rw [if_pos this, Int.toNat_natCast]
theorem rowG_no {rows : List Rw} {r : Int} (h : rowB r rows.length = false) : rowG rows r = zeroR ∧ rowZ rows r = 5 ∧ remV rows r = rows := by
  have : ¬ rowB r rows.length = true := by rw [h]; simp
  exact ⟨if_neg this, if_neg this, if_neg this⟩
theorem rowI_map {kn : Nat} {rows : List Rw} (hg : ∀ x ∈ rows, GoodR kn x) {r : Nat} (hr : r < rows.length) (hr' : r < (rows.map (·.1)).length) : rowI kn (rows.map (·.1))[r] (fun k => (colsR rows k).getD r 0) = rwI rows[r] := by
  rw [← rowI_good r hr (hg _ (List.getElem_mem hr)), List.getElem_map]
theorem zeroR_I : zero11 = rwI zeroR := rfl

/-- The answer of a call that names a row. -/
def RowAns (x : Rw) (z : Int) (e : Ending) : Prop := e = .returned (.tuple #[.agg (rwC x).toArray, .int .i64 z])

section
variable {B : Nat} {Z : List Nat} {w w' : World} {p q kn m : Nat} {cs : List (Nat × Nat)} {rows rows2 : List Rw}
theorem trow_any (h : Two B Z w p q kn m cs rows rows2) (hg : ∀ x ∈ rows, GoodR kn x) (r : Int) (hl : rows.length ≤ 1200000000000) :
    Calls Try.prog 25 #[.pointer (some ⟨p, 0, none⟩), .int .i64 r] w (fun e w' => RowAns (rowG rows r) (rowZ rows r) e ∧ Below w.heap.size w w') := by
  obtain ⟨vh, Fs, vl, ht, hr, hd, hq, hv⟩ := h.ex
  cases hb : rowB r rows.length with
  | false =>
    obtain ⟨e1, e2, -⟩ := rowG_no hb
    refine (row_no ht r (by simpa using hb)).mono ?_
    rintro e w1 ⟨rfl, hbl⟩
    rw [e1, e2]
    exact ⟨rfl, hbl⟩
  | true =>
    obtain ⟨j, rfl, hj⟩ := rowB_iff.1 hb
    obtain ⟨e1, e2, -⟩ := rowG_at hj
    refine (row_yes ht j (by simpa using hj) (fun kc _ => by rw [colsR_len, List.length_map]) (by simpa using hl)).mono ?_
    rintro e w1 ⟨rfl, hbl⟩
    rw [e1, e2]
    exact ⟨by unfold RowAns; rw [rowI_map hg hj]; rfl, hbl⟩
theorem rrow_any (h : Two B Z w p q kn m cs rows rows2) (r : Int) (hl : rows2.length ≤ 1200000000000) :
    Calls Try.prog 26 #[.pointer (some ⟨q, 0, none⟩), .int .i64 r] w (fun e w' => RowAns (rowG rows2 r) (rowZ rows2 r) e ∧ Below w.heap.size w w') := by
  obtain ⟨vh, Fs, vl, ht, hr, hd, hq, hv⟩ := h.ex
  cases hb : rowB r rows2.length with
  | false =>
    obtain ⟨e1, e2, -⟩ := rowG_no hb
    refine (rrow_no hr r hb hl _ rfl).mono ?_
    rintro e w1 ⟨rfl, hbl⟩
    rw [e1, e2]
    exact ⟨rfl, hbl⟩
  | true =>
    obtain ⟨j, rfl, hj⟩ := rowB_iff.1 hb
    obtain ⟨e1, e2, -⟩ := rowG_at hj
    refine (rrow_yes hr j hj hl).mono ?_
    rintro e w1 ⟨rfl, hbl⟩
    rw [e1, e2]
    exact ⟨rfl, hbl⟩
theorem trem_any (h : Two B Z w p q kn m cs rows rows2) (hg : ∀ x ∈ rows, GoodR kn x) (r : Int) (hl : rows.length ≤ 1200000000000) :
    Calls Try.prog 21 #[.pointer (some ⟨p, 0, none⟩), .int .i64 r] w (fun e w' => RowAns (rowG rows r) (rowZ rows r) e ∧ Two B Z w' p q kn m cs (remV rows r) rows2 ∧ Below B w w' ∧ KeepZ Z w w') := by
  obtain ⟨⟨vh, Fs, vl, ht, hr, hd, hq, hv⟩, hB⟩ := id h
  cases hb : rowB r rows.length with
  | false =>
    obtain ⟨e1, e2, e3⟩ := rowG_no hb
    refine (remove_no ht r (by simpa using hb)).mono ?_
    rintro e w1 ⟨rfl, hbl⟩
    rw [e1, e2, e3]
    exact ⟨rfl, h.below hbl⟩
  | true =>
    obtain ⟨j, rfl, hj⟩ := rowB_iff.1 hb
    obtain ⟨e1, e2, e3⟩ := rowG_at hj
    refine (remove_ok ht j (by simpa using hj) (fun kc _ => by rw [colsR_len, List.length_map]) (by simpa using hl)).mono ?_
    rintro e w1 ⟨rfl, vh', Fs', ht', hy, hm⟩
    rw [e1, e2, e3]
    exact ⟨by unfold RowAns; rw [rowI_map hg hj]; rfl, two_tab ht hr hd hq hv hB (rows' := remL rows j) (by rw [← remL_map, colsR_rem]; exact ht') hy hm⟩
theorem rrem_any (h : Two B Z w p q kn m cs rows rows2) (r : Int) (hl : rows2.length ≤ 1200000000000) :
    Calls Try.prog 22 #[.pointer (some ⟨q, 0, none⟩), .int .i64 r] w (fun e w' => RowAns (rowG rows2 r) (rowZ rows2 r) e ∧ Two B Z w' p q kn m cs rows (remV rows2 r) ∧ Below B w w' ∧ KeepZ Z w w') := by
  obtain ⟨⟨vh, Fs, vl, ht, hr, hd, hq, hv⟩, hB⟩ := id h
  cases hb : rowB r rows2.length with
  | false =>
    obtain ⟨e1, e2, e3⟩ := rowG_no hb
    refine (rremove_no hr r hb hl).mono ?_
    rintro e w1 ⟨rfl, hbl⟩
    rw [e1, e2, e3]
    exact ⟨rfl, h.below hbl⟩
  | true =>
    obtain ⟨j, rfl, hj⟩ := rowB_iff.1 hb
    obtain ⟨e1, e2, e3⟩ := rowG_at hj
    refine (rremove_yes hr j hj hl).mono ?_
    rintro e w1 ⟨rfl, hp⟩
    rw [e1, e2, e3]
    exact ⟨rfl, two_ref ht hr hd hq hv hB hp⟩
theorem setE_ok {kn : Nat} {r : Int} {len : Nat} {k n : Int} (h : setE kn r len k n = 0) : ∃ j i : Nat, k = j ∧ r = i ∧ j < 8 ∧ i < len ∧ kn.testBit j = true ∧ ¬ (n < -1000000000 ∨ 1000000000 < n) := by
  unfold setE at h
  cases hr : rowB r len with
  | false => rw [if_pos hr] at h; simp at h
  | true =>
    obtain ⟨i, rfl, hi⟩ := rowB_iff.1 hr
    rw [if_neg (by rw [hr]; simp)] at h
    by_cases hk : kindE kn k = 0
    · rw [if_neg (by simpa using hk)] at h
      rcases kindE_cases kn k with ⟨hb, he⟩ | ⟨j, rfl, hj, hb, he⟩ | ⟨j, rfl, hj, hb, he⟩
      · rw [he] at hk; simp at hk
      · rw [he] at hk; simp at hk
      · refine ⟨j, i, rfl, rfl, hj, hi, hb, fun hn => ?_⟩
        rw [if_pos hn] at h; simp at h
    · rw [if_pos (by simpa using hk)] at h; exact absurd h hk
theorem setV_at {rows : List Rw} {i j : Nat} {n : Int} (hi : i < rows.length) (h : setE kn i rows.length j n = 0) : setV kn rows i j n = rows.set i (rwSet rows[i] j n) := by
  unfold setV; rw [if_pos h, Int.toNat_natCast, Int.toNat_natCast, List.getD_eq_getElem?_getD, List.getElem?_eq_getElem hi]; rfl
theorem tset_any (h : Two B Z w p q kn m cs rows rows2) (r k n : Int) (hl : rows.length ≤ 1200000000000) :
    Calls Try.prog 23 #[.pointer (some ⟨p, 0, none⟩), .int .i64 r, .int .i64 k, .int .i64 n] w (fun e w' => e = .returned (.int .i64 (setE kn r rows.length k n)) ∧ Two B Z w' p q kn m cs (setV kn rows r k n) rows2 ∧ Below B w w' ∧ KeepZ Z w w') := by
  obtain ⟨⟨vh, Fs, vl, ht, hr, hd, hq, hv⟩, hB⟩ := id h
  refine (set_any ht r k n (fun kc _ => by rw [colsR_len, List.length_map]) (by simpa using hl)).mono ?_
  rintro e w1 ⟨rfl, ht', hm⟩
  rw [List.length_map] at ht' ⊢
  refine ⟨rfl, two_tab ht hr hd hq hv hB ?_ (fun y hy => .inl hy) hm⟩
  by_cases hz : setE kn r rows.length k n = 0
  · rw [if_pos hz] at ht'
    obtain ⟨j, i, rfl, rfl, hj, hi, hb, hn⟩ := setE_ok hz
    rw [setV_at hi hz, map_set_same rows i hi, colsR_set rows i hi j hj]
    exact ht'
  · rw [if_neg hz] at ht'
    unfold setV; rw [if_neg hz]; exact ht'
theorem rset_any (h : Two B Z w p q kn m cs rows rows2) (hkn : kn < 256) (r k n : Int) (hl : rows2.length ≤ 1200000000000) :
    Calls Try.prog 24 #[.pointer (some ⟨q, 0, none⟩), .int .i64 r, .int .i64 k, .int .i64 n] w (fun e w' => e = .returned (.int .i64 (setE kn r rows2.length k n)) ∧ Two B Z w' p q kn m cs rows (setV kn rows2 r k n) ∧ Below B w w' ∧ KeepZ Z w w') := by
  obtain ⟨⟨vh, Fs, vl, ht, hr, hd, hq, hv⟩, hB⟩ := id h
  by_cases hz : setE kn r rows2.length k n = 0
  · obtain ⟨j, i, rfl, rfl, hj, hi, hb, hn⟩ := setE_ok hz
    refine (rset_ok hr hkn i j n hl hi hj hb hn).mono ?_
    rintro e w1 ⟨rfl, hp⟩
    rw [setV_at hi hz, hz]
    exact ⟨rfl, two_ref ht hr hd hq hv hB hp⟩
  · refine (rset_err hr hkn r k n hl hz).mono ?_
    rintro e w1 ⟨rfl, rfl⟩
    unfold setV; rw [if_neg hz]
    exact ⟨rfl, h.below (Below.refl _ _)⟩
theorem tcol_any (h : Two B Z w p q kn m cs rows rows2) (k : Int) (hl : rows.length ≤ 1200000000000) :
    Calls Try.prog 27 #[.pointer (some ⟨p, 0, none⟩), .int .i64 k] w (fun e w' => ColPost (if kindE kn k = 0 then colsR rows k.toNat else []) (kindE kn k) w e w' ∧ Below w.heap.size w w') := by
  obtain ⟨vh, Fs, vl, ht, hr, hd, hq, hv⟩ := h.ex
  refine (column_any ht k (fun j => by rw [colsR_len]; exact hl)).mono ?_
  rintro e w1 hc
  exact ⟨hc, hc.choose_spec.2.2⟩
theorem rcol_any (h : Two B Z w p q kn m cs rows rows2) (hkn : kn < 256) (k : Int) (hl : rows2.length ≤ 1200000000000) :
    Calls Try.prog 28 #[.pointer (some ⟨q, 0, none⟩), .int .i64 k] w (fun e w' => ColPost (if kindE kn k = 0 then colsR rows2 k.toNat else []) (kindE kn k) w e w' ∧ Below w.heap.size w w') := by
  obtain ⟨vh, Fs, vl, ht, hr, hd, hq, hv⟩ := h.ex
  refine (rcolumn_any hr hkn k hl).mono ?_
  rintro e w1 hc
  exact ⟨hc, hc.choose_spec.2.2⟩
theorem thandles_any (h : Two B Z w p q kn m cs rows rows2) (hl : rows.length ≤ 1200000000000) :
    Calls Try.prog 31 #[.pointer (some ⟨p, 0, none⟩)] w (fun e w' => MadeR 45 2 handleC (rows.map (·.1)) w e w' ∧ Below w.heap.size w w') := by
  obtain ⟨vh, Fs, vl, ht, hr, hd, hq, hv⟩ := h.ex
  refine (handles_any ht (by simpa using hl)).mono ?_
  rintro e w1 hc
  exact ⟨hc, hc.choose_spec.2.2⟩
end
end Go.Proofs.Ytkcpmoinpdojjaa

/- Tables side by side: what stays true from deed to deed. -/
namespace Go.Proofs.Ytkcpmoinpdojjaa
open Go Go.RowKit

theorem beastGo_zero (K : Int) : ∀ (vs : List Int) (k : Nat), beastGo K k vs = 0 → ∀ i, i < vs.length → hasK K (k + i) = false → vs.getD i 0 = 0
  | [], _, _, i, hi, _ => by simp at hi
  | v :: vs, k, h, i, hi, hk => by
    rw [beastGo] at h
    by_cases h1 : hasK K k = false ∧ v ≠ 0
    · rw [if_pos h1] at h; simp at h
    · rw [if_neg h1] at h
      by_cases h2 : v < -1000000000 ∨ 1000000000 < v
      · rw [if_pos h2] at h; simp at h
      · rw [if_neg h2] at h
        match i, hi, hk with
        | 0, _, hk => exact Decidable.byContradiction fun e => h1 ⟨hk, e⟩
        | i + 1, hi, hk => exact beastGo_zero K vs (k + 1) h i (by simpa using hi) (by rw [show k + 1 + i = k + (i + 1) by omega]; exact hk)
theorem good_new {kn : Nat} (hkn : kn < 256) (x : Rw) (h : addZ kn x.2 = 0) : GoodR kn x := by
  obtain ⟨hd, K, a0, a1, a2, a3, a4, a5, a6, a7⟩ := x
  unfold addZ at h
  dsimp only at h
  by_cases hb : beastE K [a0, a1, a2, a3, a4, a5, a6, a7] = 0
  · rw [if_neg (by simpa using hb)] at h
    by_cases hK : K = (kn : Int)
    · subst hK
      refine ⟨rfl, fun k hk ht => ?_⟩
      unfold beastE at hb
      by_cases hs : isSetB (kn : Int) = true
      · rw [if_pos hs] at hb
        have := beastGo_zero (kn : Int) _ 0 hb k (by simpa using hk) (by rw [Nat.zero_add, hasK_nat kn k hkn]; exact ht)
        exact this
      · rw [if_neg hs] at hb; simp at hb
    · rw [if_pos hK] at h; simp at h
  · rw [if_pos (by simpa using hb)] at h; exact absurd h hb
theorem good_addL {kn : Nat} (hkn : kn < 256) {rows : List Rw} (hg : ∀ y ∈ rows, GoodR kn y) (x : Rw) : ∀ y ∈ addL kn rows x, GoodR kn y := by
  intro y hy
  unfold addL at hy
  by_cases h : addZ kn x.2 = 0
  · rw [if_pos h] at hy
    rcases List.mem_append.1 hy with hy | hy
    · exact hg y hy
    · rw [List.mem_singleton] at hy; subst hy; exact good_new hkn y h
  · rw [if_neg h] at hy; exact hg y hy
theorem good_remV {kn : Nat} {rows : List Rw} (hg : ∀ y ∈ rows, GoodR kn y) (r : Int) : ∀ y ∈ remV rows r, GoodR kn y := by
  unfold remV; split
  · exact good_rem hg _
  · exact hg
theorem good_setV {kn : Nat} {rows : List Rw} (hg : ∀ y ∈ rows, GoodR kn y) (r k n : Int) : ∀ y ∈ setV kn rows r k n, GoodR kn y := by
  by_cases hz : setE kn r rows.length k n = 0
  · obtain ⟨j, i, rfl, rfl, hj, hi, hb, hn⟩ := setE_ok hz
    rw [setV_at hi hz]; exact good_set hg i hi j hj hb n
  · unfold setV; rw [if_neg hz]; exact hg
theorem addL_len (kn : Nat) (rows : List Rw) (x : Rw) : (addL kn rows x).length ≤ rows.length + 1 := by
  unfold addL; split <;> simp
theorem remV_len (rows : List Rw) (r : Int) : (remV rows r).length ≤ rows.length := by
  unfold remV; split
  · rw [remL_length]; omega
  · exact Nat.le_refl _
theorem setV_len (kn : Nat) (rows : List Rw) (r k n : Int) : (setV kn rows r k n).length = rows.length := by
  unfold setV; split <;> simp

/-- A deed; its fifteen numbers. -/
abbrev Dd := (Int × Int × Int × Int) × Hd × Bt
def ddI (d : Dd) : List Int := [d.1.1, d.1.2.1, d.1.2.2.1, d.1.2.2.2] ++ (hdI d.2.1 ++ btI d.2.2)
def ddC (d : Dd) : List Value := ints (ddI d)
theorem ddC_len (d : Dd) : (ddC d).length = 15 := rfl
theorem ddC_one (d : Dd) : ∀ u ∈ ddC d, u.oneCell' = true := ints_one _
end Go.Proofs.Ytkcpmoinpdojjaa

/- A law's statement out of its contract: the call returns true and nothing that was there has turned. -/
namespace Go.Proofs.Ytkcpmoinpdojjaa
open Go Go.ChangeShapes Go.WideShapes Go.ChangeAt Go.RowKit

theorem trodAll_stays {H : Type} {enc : TypeId × Value → H} {P : Program} (hl : laidOutB P = true) {W W' : World} (hB : Below W.heap.size W W') :
    ∀ (ts : List TypeId) (vs : List Value) (ds : List (DataW H)) (ps : List MemPlace), (∀ t ∈ ts, P.readableRec t = true ∧ t < P.types.size) → (∀ p ∈ ps, p.block < W.heap.size) →
      DataW.TrodAll enc P W 0 (fun _ => true) true ts vs ds ps → DataW.TrodAll enc P W' 0 (fun b => decide (b < W.heap.size)) true ts vs ds ps := by
  intro ts
  induction ts with
  | nil =>
    intro vs ds ps _ _ h
    cases vs <;> cases ds <;> first | exact h | exact h.elim
  | cons t ts ih =>
    intro vs ds ps hr hlt h
    cases vs with
    | nil => cases ds <;> exact h.elim
    | cons v vs =>
      cases ds with
      | nil => exact h.elim
      | cons d ds =>
        obtain ⟨p, q, h1, h2, rfl⟩ := h
        have ht := hr t (by simp)
        exact ⟨p, q, Below.trod hl ht.1 ht.2 h1 hB (fun x hx => hlt x (by simp [hx])),
          ih vs ds q (fun t' ht' => hr t' (by simp [ht'])) (fun x hx => hlt x (by simp [hx])) h2, rfl⟩

theorem trodAll_length {H : Type} {enc : TypeId × Value → H} {P : Program} {W : World} {b : Nat} {sp : Nat → Bool} {hd : Bool} :
    ∀ (ts : List TypeId) (vs : List Value) (ds : List (DataW H)) (ps : List MemPlace), DataW.TrodAll enc P W b sp hd ts vs ds ps → ds.length = ts.length := by
  intro ts
  induction ts with
  | nil => intro vs ds ps h; cases vs <;> cases ds <;> first | rfl | exact h.elim
  | cons t ts ih =>
    intro vs ds ps h
    cases vs with
    | nil => cases ds <;> exact h.elim
    | cons v vs =>
      cases ds with
      | nil => exact h.elim
      | cons d ds =>
        obtain ⟨p, q, _, h2, _⟩ := h
        simp [ih vs ds q h2]

/-- What a law's row asks behind the call. -/
theorem law_post {H : Type} {enc : TypeId × Value → H} {P : Program} {fn : Func} {s : ChangeSpec} {W W' : World} {args : Array Value} {ds gs : List (DataW H)} {before : List MemPlace} {tb : TypeId}
    (hl : laidOutB P = true) (hr : ∀ t ∈ fn.params.toList, P.readableRec t = true ∧ t < P.types.size) (hv : s.vars = []) (hres : fn.resultTypes = #[tb]) (hb : P.underlying tb = some .bool)
    (hspec : ∀ (ds : List (DataW H)), ds.length = fn.params.toList.length → s.fn H ds = { results := [.lit (.bool true)], args := ds })
    (hW : DataW.Whole enc P fn.params.toList s.vars false W args.toList ds gs before) (hB : Below W.heap.size W W') :
    s.post enc P fn false true false false W args (.bool true) W' := by
  have hlt := hW.lt
  have hW' := hW
  obtain ⟨p, q, hA, hV, rfl, _, _⟩ := hW
  rw [hv] at hV
  obtain ⟨rfl, rfl⟩ := trodVars_none hV
  have he : s.fn H (ds ++ []) = { results := [.lit (.bool true)], args := ds } := by
    rw [List.append_nil]; exact hspec ds (trodAll_length _ _ _ _ hA)
  refine ⟨ds, [], p ++ [], [], p, [], hW', ?_, ?_, ?_, hB.frame _, fun h => by cases h⟩
  · rw [he, hres]
    exact trodAll_mk1 (shut_bool hb true)
  · rw [he]
    exact trodAll_stays hl hB _ _ _ _ hr (fun x hx => hlt x (by simp [hx])) hA
  · rw [he, hv]
    exact rfl

/-- The contract that a law's row wants, out of one on values. -/
theorem law_lifted {H : Type} {enc : TypeId × Value → H} {C : Checked} {os : Os} (started : os.Started) {f : FuncId} {fn : Func} {s : ChangeSpec} {tb : TypeId}
    (own : ownKnob C.prog.godebug = none) (hl : laidOutB C.prog = true) (hno : C.prog.inits.idxOf? f = none) (hfn : C.prog.funcs[f]? = some fn)
    (hr : ∀ t ∈ fn.params.toList, C.prog.readableRec t = true ∧ t < C.prog.types.size) (hv : s.vars = []) (hres : fn.resultTypes = #[tb]) (hb : C.prog.underlying tb = some .bool)
    (hspec : ∀ (ds : List (DataW H)), ds.length = fn.params.toList.length → s.fn H ds = { results := [.lit (.bool true)], args := ds })
    (witness : ∃ (w : World) (tape : Tape) (i : Input), w.os = os ∧ (w.forCall tape i).Shaped C.prog ∧ i.vars = [] ∧ Input.okWide C.prog (w.forCall tape i) .any w.heap.size f i ∧
      s.pre6 enc C.prog fn [] false (w.forCall tape i).memory i.args ∧ Assume.holds {} C.prog (lone (Frame.enter C.prog f i.args .normal) [] (w.forCall tape i)))
    (hc : ∀ (W : World) (base : Nat) (args : Array Value) (ds : List (DataW H)) (ps : List MemPlace),
      (∀ (j : Nat) t v, fn.params[j]? = some t → args[j]? = some v → Value.okWide C.prog W .any base t v) →
      DataW.TrodAll enc C.prog W 0 (fun _ => true) true fn.params.toList args.toList ds ps → (∀ p ∈ ps, p.block < W.heap.size) →
      Calls C.prog f args W fun e W' => e = .returned (.bool true) ∧ Below W.heap.size W W') :
    ReturnsInHanded {} C os f .any (s.pre6 enc C.prog fn [] false) (s.post enc C.prog fn false true false false) := by
  refine returnsInHanded_of_change own started hno hfn witness ?_
  intro W base args ds gs before hval hW _ _
  have hlt := hW.lt
  have hW' := hW
  obtain ⟨p, q, hA, _, rfl, _, _⟩ := hW
  refine (hc W base args ds p hval hA (fun x hx => hlt x (by simp [hx]))).mono ?_
  rintro e W' ⟨rfl, hB⟩
  exact ⟨_, rfl, law_post hl hr hv hres hb hspec hW' hB⟩
#print axioms law_lifted
end Go.Proofs.Ytkcpmoinpdojjaa

/- A law's statement out of its contract, where the contract wants to know how large the arguments may be. -/
namespace Go.Proofs.Ytkcpmoinpdojjaa
open Go Go.ChangeShapes Go.WideShapes Go.ChangeAt Go.RowKit

theorem law_lifted_sized {H : Type} {enc : TypeId × Value → H} {C : Checked} {os : Os} (started : os.Started) {f : FuncId} {fn : Func} {s : ChangeSpec} {tb : TypeId}
    (own : ownKnob C.prog.godebug = none) (hl : laidOutB C.prog = true) (hno : C.prog.inits.idxOf? f = none) (hfn : C.prog.funcs[f]? = some fn)
    (hr : ∀ t ∈ fn.params.toList, C.prog.readableRec t = true ∧ t < C.prog.types.size) (hv : s.vars = []) (hres : fn.resultTypes = #[tb]) (hb : C.prog.underlying tb = some .bool)
    (hspec : ∀ (ds : List (DataW H)), ds.length = fn.params.toList.length → s.fn H ds = { results := [.lit (.bool true)], args := ds })
    (witness : ∃ (w : World) (tape : Tape) (i : Input), w.os = os ∧ (w.forCall tape i).Shaped C.prog ∧ i.vars = [] ∧ Input.okWide C.prog (w.forCall tape i) .any w.heap.size f i ∧
      s.pre6 enc C.prog fn [] false (w.forCall tape i).memory i.args ∧ Assume.holds {} C.prog (lone (Frame.enter C.prog f i.args .normal) [] (w.forCall tape i)))
    (hc : ∀ (W : World) (base : Nat) (args : Array Value) (ds : List (DataW H)) (ps : List MemPlace),
      (∀ (j : Nat) t v, fn.params[j]? = some t → args[j]? = some v → Value.okWide C.prog W .any base t v) →
      DataW.TrodAll enc C.prog W 0 (fun _ => true) true fn.params.toList args.toList ds ps → (∀ p ∈ ps, p.block < W.heap.size) →
      (∀ (j : Nat) t d, fn.params.toList[j]? = some t → ds[j]? = some d → ∀ m ∈ d.weights C.prog t, m ≤ reachBytes) →
      Calls C.prog f args W fun e W' => e = .returned (.bool true) ∧ Below W.heap.size W W') :
    ReturnsInHanded {} C os f .any (s.pre6 enc C.prog fn [] false) (s.post enc C.prog fn false true false false) := by
  refine returnsInHanded_of_change_sized own started hno hfn witness ?_
  intro W base args ds gs before hval hW _ hsz _
  have hlt := hW.lt
  have hW' := hW
  obtain ⟨p, q, hA, _, rfl, _, _⟩ := hW
  refine (hc W base args ds p hval hA (fun x hx => hlt x (by simp [hx])) ?_).mono ?_
  · intro j t d ht hd m hm
    have h1 : (fn.params.toList ++ s.plain.varTypes C.prog)[j]? = some t := by
      rw [List.getElem?_append_left (List.getElem?_eq_some_iff.1 ht).1]; exact ht
    have h2 : (ds ++ gs)[j]? = some d := by
      rw [List.getElem?_append_left (List.getElem?_eq_some_iff.1 hd).1]; exact hd
    have := List.all_eq_true.1 hsz m (DataW.weights_mem_each h1 h2 m hm)
    simpa using this
  · rintro e W' ⟨rfl, hB⟩
    exact ⟨_, rfl, law_post hl hr hv hres hb hspec hW' hB⟩

/-- How long a slice may be. -/
theorem slice_size {H : Type} {enc : TypeId × Value → H} {P : Program} {t e : TypeId} {W : World} {A : Option Addr} {n c : Nat} {d : DataW H} {ps : List MemPlace} (ht : P.underlying t = some (.slice e))
    (h : DataW.Trod enc P W 0 (fun _ => true) true t (.slice A n c) d ps) (hw : ∀ m ∈ d.weights P t, m ≤ reachBytes) : n * P.bytesOf e ≤ reachBytes := by
  obtain ⟨fuel, hf⟩ := h
  rcases Go.Deep.open_slice ht hf with ⟨hcs, _⟩ | ⟨a, len, cap, m, n', D, Pl, hcs, _, hl, hm, hmm, hx, hi⟩
  · have : n = 0 := by
      have : A = none ∧ n = 0 ∧ c = 0 := by simpa [Value.cells] using hcs
      exact this.2.1
    subst this
    simp
  · have : A = some a ∧ n = len ∧ c = cap := by simpa [Value.cells] using hcs
    obtain ⟨rfl, rfl, rfl⟩ := this
    have hd := (Prod.mk.inj hx).1
    have h1 := hw ((n + (m - n)) * P.bytesOf e) (by rw [hd]; simp [DataW.weights, ht])
    exact Nat.le_trans (Nat.mul_le_mul_right _ (by omega)) h1
/-- A nil slice has no elements. -/
theorem slice_none {P : Program} {t e : TypeId} {W : World} {b : Nat} {r : Reach} {n c : Nat} {H : Type} {enc : TypeId × Value → H} {d : DataW H} {ps : List MemPlace} (ht : P.underlying t = some (.slice e))
    (h : DataW.Trod enc P W 0 (fun _ => true) true t (.slice none n c) d ps) : n = 0 ∧ c = 0 := by
  obtain ⟨fuel, hf⟩ := h
  rcases Go.Deep.open_slice ht hf with ⟨hcs, _⟩ | ⟨a, len, cap, m, n', D, Pl, hcs, _⟩
  · simpa [Value.cells] using hcs
  · simp [Value.cells] at hcs
theorem reach_val : reachBytes = 140737488351232 := by decide
end Go.Proofs.Ytkcpmoinpdojjaa

/- Closed facts on the translated program that every law's row asks. -/
namespace Go.Proofs.Ytkcpmoinpdojjaa
open Go
theorem own_ : ownKnob Try.prog.godebug = none := by kernel_rfl
theorem laid_ : laidOutB Try.prog = true := by kernel_rfl
theorem mapsRowed_ : mapsRowed Try.prog = true := by kernel_rfl
theorem stops_ : (Try.prog.stops == []) = true := by kernel_rfl
theorem stopKnobs_ : (Try.prog.stopKnobs == []) = true := by kernel_rfl
theorem plainKeys_ : (false == Try.prog.plainKeys) = true := by kernel_rfl
theorem stopsHeard_ : Try.prog.stopsHeard = true := by kernel_rfl
theorem mayEnter_ : Try.prog.mayEnter = true := by kernel_rfl
theorem liftsFinal_ : (false == Try.prog.liftsFinal) = true := by kernel_rfl
theorem make_ : (Try.prog.make == some .cut) = true := by kernel_rfl
theorem and_intro {a b : Bool} (ha : a = true) (hb : b = true) : (a && b) = true := by rw [ha, hb]; rfl
end Go.Proofs.Ytkcpmoinpdojjaa

/- Arguments whose cells are all integers: opened to lists. -/
namespace Go.Proofs.Ytkcpmoinpdojjaa
open Go Go.ChangeShapes Go.WideShapes Go.RowKit

/-- Whatever reads at this type is laid out as 64-bit integers. -/
def IntCells (P : Program) (t : TypeId) : Prop :=
  ∀ {H : Type} {enc : TypeId × Value → H} {w : World} {base : Nat} {sp : Nat → Bool} {held : Bool} {fuel : Nat} {cs : List Value} {x : DataW H × List MemPlace},
    DataW.trod enc P w base sp held fuel t cs = some x → cs.length = P.cellsOf t ∧ ∀ u ∈ cs, ∃ z, u = .int .i64 z ∧ InR z

theorem inR_of_wf {z : Int} (h : (Lit.int .i64 z).wf = true) : InR z := by
  simp [Lit.wf, IntKind.min, IntKind.max, IntKind.bits, IntKind.signed] at h
  unfold InR
  omega

section
variable {P : Program} {t e : TypeId}
theorem IntCells.int (ht : P.underlying t = some (.int .i64)) (hC : P.cellsOf t = 1) : IntCells P t := by
  intro H enc w base sp held fuel cs x h
  obtain ⟨n, rfl, _, hw⟩ := DataW.trod_int ht h
  refine ⟨by rw [hC]; rfl, fun u hu => ?_⟩
  simp at hu
  exact ⟨n, hu, inR_of_wf hw⟩

theorem IntCells.struct {fs : Array Field} (ht : P.underlying t = some (.struct fs))
    (hc : ((List.range (P.cellsOf t)).all fun c => fs.any fun f => decide (f.offset ≤ c) && decide (c < f.offset + P.cellsOf f.type)) = true)
    (hf : ∀ f ∈ fs, IntCells P f.type) : IntCells P t := by
  intro H enc w base sp held fuel cs x h
  obtain ⟨xs, n, _, _, hlen, hxs, hg⟩ := DataW.trod_struct ht h
  refine ⟨hlen, fun u hu => ?_⟩
  obtain ⟨c, hcl, rfl⟩ := List.mem_iff_getElem.1 hu
  have := List.all_eq_true.1 hc c (by simp; omega)
  rw [Array.any_eq_true] at this
  obtain ⟨i, hi, hi2⟩ := this
  simp only [Bool.and_eq_true, decide_eq_true_eq] at hi2
  have h1 := hg i fs[i] (Array.getElem?_eq_getElem hi)
  have h2 : xs[i]? = some (xs[i]'(by omega)) := List.getElem?_eq_getElem (by omega)
  rw [h2] at h1
  refine ((hf fs[i] (Array.getElem_mem hi)) h1).2 _ ?_
  rw [List.mem_iff_getElem?]
  refine ⟨c - fs[i].offset, ?_⟩
  rw [List.getElem?_take, if_pos (by omega), List.getElem?_drop, show fs[i].offset + (c - fs[i].offset) = c by omega]
  exact List.getElem?_eq_getElem hcl

theorem IntCells.array {n : Nat} (ht : P.underlying t = some (.array n e)) (hC : P.cellsOf t = n * P.cellsOf e) (hpos : 0 < P.cellsOf e) (he : IntCells P e) : IntCells P t := by
  intro H enc w base sp held fuel cs x h
  obtain ⟨xs, m, _, _, hlen, hxs, hg⟩ := DataW.trod_array ht h
  refine ⟨hlen, fun u hu => ?_⟩
  obtain ⟨c, hcl, rfl⟩ := List.mem_iff_getElem.1 hu
  have hi : c / P.cellsOf e < n := by
    rw [Nat.div_lt_iff_lt_mul hpos]; omega
  have h1 := hg (c / P.cellsOf e) hi
  have h2 : xs[c / P.cellsOf e]? = some (xs[c / P.cellsOf e]'(by omega)) := List.getElem?_eq_getElem (by omega)
  rw [h2] at h1
  refine (he h1).2 _ ?_
  rw [List.mem_iff_getElem?]
  refine ⟨c % P.cellsOf e, ?_⟩
  rw [List.getElem?_take, if_pos (Nat.mod_lt _ hpos), List.getElem?_drop, Nat.mul_comm, Nat.div_add_mod]
  exact List.getElem?_eq_getElem hcl

theorem ints_of {cs : List Value} (h : ∀ u ∈ cs, ∃ z, u = .int .i64 z ∧ InR z) : ∃ zs : List Int, cs = ints zs ∧ ∀ z ∈ zs, InR z := by
  induction cs with
  | nil => exact ⟨[], rfl, by simp⟩
  | cons u cs ih =>
    obtain ⟨z, rfl, hz⟩ := h u (by simp)
    obtain ⟨zs, rfl, hzs⟩ := ih (fun u hu => h u (by simp [hu]))
    exact ⟨z :: zs, rfl, by simpa using ⟨hz, hzs⟩⟩

/-- A struct or an array by value. -/
theorem open_flat {H : Type} {enc : TypeId × Value → H} {W : World} {d : DataW H} {ps : List MemPlace} {cs : Array Value} (he : IntCells P t)
    (h : DataW.Trod enc P W 0 (fun _ => true) true t (.agg cs) d ps) : ∃ zs : List Int, cs = (ints zs).toArray ∧ zs.length = P.cellsOf t ∧ ∀ z ∈ zs, InR z := by
  obtain ⟨fuel, hf⟩ := h
  obtain ⟨hl, hz⟩ := he hf
  obtain ⟨zs, hzs, hr⟩ := ints_of hz
  have hcs : cs.toList = ints zs := hzs
  refine ⟨zs, by rw [← hcs], ?_, hr⟩
  have : (ints zs).length = P.cellsOf t := by rw [← hzs]; exact hl
  rwa [ints_length] at this

/-- A slice of such elements. -/
theorem open_slice_flat {H : Type} {enc : TypeId × Value → H} {W : World} {b : Nat} {r : Reach} {v : Value} {d : DataW H} {ps : List MemPlace} {B k : Nat} (ht : P.underlying t = some (.slice e))
    (he : IntCells P e) (hk : P.cellsOf e = k) (hpos : 0 < k) (hv : Value.okWide P W r b t v) (h : DataW.Trod enc P W 0 (fun _ => true) true t v d ps) (hlt : ∀ p ∈ ps, p.block < B) :
    ∃ (A : Option Addr) (n c : Nat) (zs : List Int), v = .slice A n c ∧ n ≤ c ∧ c ≤ 9223372036854775807 ∧ zs.length = n * k ∧ (∀ z ∈ zs, InR z) ∧ Lies W B A (ints zs) := by
  obtain ⟨a0, n0, c0, rfl⟩ := okWide_slice ht hv
  obtain ⟨fuel, hf⟩ := h
  rcases Go.Deep.open_slice ht hf with ⟨hcs, _⟩ | ⟨a, len, cap, m, n, D, Pl, hcs, _, hl, hm, hmm, hx, hi⟩
  · have : a0 = none ∧ n0 = 0 ∧ c0 = 0 := by simpa [Value.cells] using hcs
    obtain ⟨rfl, rfl, rfl⟩ := this
    exact ⟨none, 0, 0, [], rfl, by omega, by omega, by simp, by simp, Lies.nil _ _ _⟩
  · have : a0 = some a ∧ n0 = len ∧ c0 = cap := by simpa [Value.cells] using hcs
    obtain ⟨rfl, rfl, rfl⟩ := this
    simp only [if_true] at hmm
    subst hmm
    have hcell : ∀ j, j < n0 * k → ∃ z, W.cell? (a.add j) = some (.int .i64 z) ∧ InR z := by
      intro j hj
      have hij : j / k < n0 := by rw [Nat.div_lt_iff_lt_mul hpos]; omega
      obtain ⟨cs', hc', ht'⟩ := hi (j / k) (by omega)
      obtain ⟨_, hl', hat⟩ := World.cells?_some hc'
      obtain ⟨_, hz⟩ := he ht'
      rw [hk] at hat hl'
      have hjk : j % k < k := Nat.mod_lt _ hpos
      have h1 := hat (j % k) hjk
      rw [add_add_, Nat.mul_comm, Nat.div_add_mod] at h1
      have h2 : cs'[j % k]? = some (cs'[j % k]'(by omega)) := List.getElem?_eq_getElem (by omega)
      obtain ⟨z, hz1, hz2⟩ := hz _ (List.getElem_mem (by omega : j % k < cs'.length))
      rw [h2, hz1] at h1
      exact ⟨z, h1, hz2⟩
    have hblk : n0 * k ≠ 0 → a.block < B := by
      intro hne
      have hpos' : 0 < m * k := by
        have : 0 < n0 := Nat.pos_of_ne_zero fun e => hne (by simp [e])
        exact Nat.mul_pos (by omega) hpos
      have hmem : (MemPlace.cell a.block (a.off + 0)) ∈ ps := by
        have : ps = MemPlace.row a (m * P.cellsOf e) ++ (List.range m).flatMap Pl := (Prod.mk.inj hx).2
        rw [this, hk]
        refine List.mem_append.2 (.inl ?_)
        unfold MemPlace.row
        rw [List.mem_map]
        exact ⟨0, by simpa using hpos', rfl⟩
      exact hlt _ hmem
    let f : Nat → Int := fun j => match W.cell? (a.add j) with | some (.int .i64 z) => z | _ => 0
    have hf' : ∀ j, j < n0 * k → W.cell? (a.add j) = some (.int .i64 (f j)) ∧ InR (f j) := by
      intro j hj
      obtain ⟨z, h1, h2⟩ := hcell j hj
      have : f j = z := by simp only [f, h1]
      rw [this]; exact ⟨h1, h2⟩
    refine ⟨some a, n0, _, (List.range (n0 * k)).map f, rfl, hl, by simpa [maxLen] using hm, by simp, ?_, ?_⟩
    · intro z hz
      simp only [List.mem_map, List.mem_range] at hz
      obtain ⟨j, hj, rfl⟩ := hz
      exact (hf' j hj).2
    · intro j u hu
      simp only [ints, List.map_map, List.getElem?_map] at hu
      have hj : j < n0 * k := by
        rcases Nat.lt_or_ge j (n0 * k) with h | h
        · exact h
        · rw [List.getElem?_eq_none (by simpa using h)] at hu; cases hu
      rw [List.getElem?_range hj] at hu
      simp at hu
      subst hu
      exact ⟨a, rfl, hblk (by omega), (hf' j hj).1⟩
end
end Go.Proofs.Ytkcpmoinpdojjaa

/- Types whose cells are all integers. -/
namespace Go.Proofs.Ytkcpmoinpdojjaa
open Go

theorem intCells_int : IntCells Try.prog 3 := IntCells.int Try.underlying3 (by kernel_rfl)
theorem intCells_arr : IntCells Try.prog 22 := IntCells.array Try.underlying22 (by kernel_rfl) (of_decide_eq_true (by kernel_rfl)) intCells_int
theorem intCells_Query : IntCells Try.prog 26 := IntCells.struct Try.underlying26 (by kernel_rfl) (by
  intro f hf
  simp only [List.mem_toArray, List.mem_cons, List.not_mem_nil, or_false] at hf
  rcases hf with rfl | rfl | rfl <;> exact intCells_int)
theorem intCells_Beast : IntCells Try.prog 24 := IntCells.struct Try.underlying24 (by kernel_rfl) (by
  intro f hf
  simp only [List.mem_toArray, List.mem_cons, List.not_mem_nil, or_false] at hf
  rcases hf with rfl | rfl
  · exact intCells_int
  · exact intCells_arr)
theorem intCells_System : IntCells Try.prog 28 := IntCells.struct Try.underlying28 (by kernel_rfl) (by
  intro f hf
  simp only [List.mem_toArray, List.mem_cons, List.not_mem_nil, or_false] at hf
  rcases hf with rfl | rfl | rfl | rfl | rfl
  · exact intCells_Query
  all_goals exact intCells_int)
theorem intCells_Handle : IntCells Try.prog 45 := IntCells.struct Try.underlying45 (by kernel_rfl) (by
  intro f hf
  simp only [List.mem_toArray, List.mem_cons, List.not_mem_nil, or_false] at hf
  rcases hf with rfl | rfl <;> exact intCells_int)
end Go.Proofs.Ytkcpmoinpdojjaa

/- Slices of bools among the arguments; lists of pairs of integers. -/
namespace Go.Proofs.Ytkcpmoinpdojjaa
open Go Go.ChangeShapes Go.WideShapes Go.RowKit

theorem open_slice_bools {H : Type} {enc : TypeId × Value → H} {P : Program} {t e : TypeId} {W : World} {b : Nat} {r : Reach} {v : Value} {d : DataW H} {ps : List MemPlace} {B : Nat} (ht : P.underlying t = some (.slice e))
    (he : P.underlying e = some .bool) (hk : P.cellsOf e = 1) (hv : Value.okWide P W r b t v) (h : DataW.Trod enc P W 0 (fun _ => true) true t v d ps) (hlt : ∀ p ∈ ps, p.block < B) :
    ∃ (A : Option Addr) (n c : Nat) (zs : List Bool), v = .slice A n c ∧ n ≤ c ∧ c ≤ 9223372036854775807 ∧ zs.length = n ∧ Lies W B A (bools zs) := by
  obtain ⟨a0, n0, c0, rfl⟩ := okWide_slice ht hv
  obtain ⟨fuel, hf⟩ := h
  rcases Go.Deep.open_slice ht hf with ⟨hcs, _⟩ | ⟨a, len, cap, m, n, D, Pl, hcs, _, hl, hm, hmm, hx, hi⟩
  · have : a0 = none ∧ n0 = 0 ∧ c0 = 0 := by simpa [Value.cells] using hcs
    obtain ⟨rfl, rfl, rfl⟩ := this
    exact ⟨none, 0, 0, [], rfl, by omega, by omega, rfl, Lies.nil _ _ _⟩
  · have : a0 = some a ∧ n0 = len ∧ c0 = cap := by simpa [Value.cells] using hcs
    obtain ⟨rfl, rfl, rfl⟩ := this
    simp only [if_true] at hmm
    subst hmm
    have hcell : ∀ j, j < n0 → ∃ z, W.cell? (a.add j) = some (.bool z) := by
      intro j hj
      obtain ⟨cs', hc', ht'⟩ := hi j (by omega)
      obtain ⟨_, hl', hat⟩ := World.cells?_some hc'
      obtain ⟨z, hz1, _⟩ := DataW.trod_bool he ht'
      rw [hk] at hat hl'
      have h1 := hat 0 (by omega)
      rw [add_add_, Nat.mul_one, Nat.add_zero, hz1] at h1
      exact ⟨z, h1⟩
    have hblk : n0 ≠ 0 → a.block < B := by
      intro hne
      have hmem : (MemPlace.cell a.block (a.off + 0)) ∈ ps := by
        have : ps = MemPlace.row a (m * P.cellsOf e) ++ (List.range m).flatMap Pl := (Prod.mk.inj hx).2
        rw [this, hk]
        refine List.mem_append.2 (.inl ?_)
        unfold MemPlace.row
        rw [List.mem_map]
        exact ⟨0, by simp; omega, rfl⟩
      exact hlt _ hmem
    let f : Nat → Bool := fun j => match W.cell? (a.add j) with | some (.bool z) => z | _ => false
    have hf' : ∀ j, j < n0 → W.cell? (a.add j) = some (.bool (f j)) := by
      intro j hj
      obtain ⟨z, h1⟩ := hcell j hj
      have : f j = z := by simp only [f, h1]
      rw [this]; exact h1
    refine ⟨some a, n0, _, (List.range n0).map f, rfl, hl, by simpa [maxLen] using hm, by simp, ?_⟩
    intro j u hu
    simp only [bools, List.map_map, List.getElem?_map] at hu
    have hj : j < n0 := by
      rcases Nat.lt_or_ge j n0 with h | h
      · exact h
      · rw [List.getElem?_eq_none (by simpa using h)] at hu; cases hu
    rw [List.getElem?_range hj] at hu
    simp at hu
    subst hu
    exact ⟨a, rfl, hblk (by omega), hf' j hj⟩

def handleI (h : Int × Int) : List Int := [h.1, h.2]
theorem handleI_mk : ∀ zs : List Int, zs.length = 2 → ∃ x, handleI x = zs
  | [a, b], _ => ⟨(a, b), rfl⟩
theorem ints_flatMap {α : Type} (f : α → List Int) (l : List α) : ints (l.flatMap f) = l.flatMap fun x => ints (f x) := by
  unfold ints; rw [List.map_flatMap]
theorem Lies.bool {w : World} {B : Nat} {A : Option Addr} {zs : List Bool} (h : Lies w B A (bools zs)) {k : Nat} (hk : k < zs.length) :
    ∃ b o, A = some ⟨b, o, none⟩ ∧ b < B ∧ w.cell? ⟨b, o + k, none⟩ = some (.bool zs[k]) := by
  have h1 : Lies w B A (zs.flatMap boolC) := by rw [← bools_flat]; exact h
  obtain ⟨b, o, e, hb, hc⟩ := h1.rec_at (n := 1) (fun _ => rfl) (by omega) hk
  have := hc 0 _ rfl
  rw [Nat.mul_one, Nat.add_zero] at this
  exact ⟨b, o, e, hb, this⟩
end Go.Proofs.Ytkcpmoinpdojjaa
