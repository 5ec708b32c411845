import Derived.Test.YtehjfmjibiafdaaGreatZooLoadsJ5
import Derived.Test.YtehjfmjibiafdaaGreatZooLoadsJ4
import Derived.Deep.QuietTactic
import Derived.BigQuiet
/- What Live, All and Gens return, at the program's slots and at the reference's. -/
namespace Go.Proofs.YtehjfmjibiafdaaGreat
open Go.RowKit

def slotC (x : Int × Bool) : List Value := [.int .i64 x.1, .bool x.2]
theorem slotC_len (x : Int × Bool) : (slotC x).length = 2 := rfl
theorem below_drewN {B : Nat} {a w : World} (h : Below B a w) (n : Nat) : Below B a (w.drewN n) := ⟨h.os, h.tape, h.output, h.size, h.block⟩

/-- The program's slots l lie at block p; F: the blocks that they take. -/
def RepS (w : World) (p : Nat) (l : Sl) (F : List Nat) : Prop :=
  ∃ v, w.heap[p]? = some (.cells #[v] 157 (0, 0)) ∧ w.ownsRow 0 159 2 v l.length (l.flatMap slotC) ∧ F = p :: v.ownBlock.toList ∧ F.Nodup

theorem RepS.mod {w w' : World} {p : Nat} {l : Sl} {F G : List Nat} (h : RepS w p l F) (hm : Mod G w w') (hd : ∀ k ∈ F, k ∉ G) : RepS w' p l F := by
  obtain ⟨v, h1, h2, rfl, h3⟩ := h
  exact ⟨v, hm.keep h1 (hd p (by simp)), row_mod h2 hm (fun k hk => hd k (by simp [hk])), rfl, h3⟩

theorem RepS.lt {w : World} {p : Nat} {l : Sl} {F : List Nat} (h : RepS w p l F) : ∀ k ∈ F, k < w.heap.size := by
  obtain ⟨v, h1, h2, rfl, h3⟩ := h
  intro k hk
  rcases List.mem_cons.1 hk with rfl | hk
  · exact blk_lt h1
  · exact row_lt h2 k (by simpa using hk)
theorem liveB_neg {l : Sl} {s g : Int} (h : s < 0) : liveB l s g = false := by
  unfold liveB
  rw [show decide (0 ≤ s) = false by simp; omega]; rfl
theorem liveB_out {l : Sl} {n : Nat} {g : Int} (h : l.length ≤ n) : liveB l n g = false := by
  unfold liveB
  rw [Int.toNat_natCast, List.getElem?_eq_none h]; simp
theorem liveB_in {l : Sl} {n : Nat} {g : Int} (h : n < l.length) : liveB l n g = eqB l[n] (g, true) := by
  unfold liveB
  rw [Int.toNat_natCast, List.getElem?_eq_getElem h]
  obtain ⟨a, b⟩ := l[n]
  simp [eqB]
  cases b <;> simp

set_option maxHeartbeats 1000000 in
theorem live_any (p : Nat) (l : Sl) (F : List Nat) (s g : Int) (w : World) (h : RepS w p l F) :
    Calls Tryz.prog 55 #[.pointer (some ⟨p, 0, none⟩), .agg #[.int .i64 s, .int .i64 g]] w fun e w' => e = .returned (.bool (liveB l s g)) ∧ Below w.heap.size w w' := by
  obtain ⟨v, hp, hrow, rfl, hne⟩ := h
  obtain ⟨A, cap, rfl, hc1, hc2⟩ := row_slice hrow
  have hc := blk_cell hp 0
  simp at hc
  have hle : l.length ≤ 9223372036854775807 := by unfold maxLen at hc2; omega
  have hpl := blk_lt hp
  have hB : ∀ nq, Below w.heap.size w ((w.alloc (.cells #[.int .i64 s, .int .i64 g] 41)).drewN nq) := fun nq => below_drewN ((Below.refl _ _).alloc (Nat.le_refl _) _) nq
  clear hp hne hc2
  by_cases hs : s < 0
  · have H := Lib.hid (liveB_neg (l := l) (g := g) hs)
    have hd : decide (0 ≤ s) = false := by simp; omega
    clear hrow
    go_enter Tryz.func55, Tryz.ntmps55
    go_wp2
    go_quiet (fail)
    go_wp2
    go_ret
    exact ⟨by rw [H.out]; rfl, hB _⟩
  · obtain ⟨n, rfl⟩ := Int.eq_ofNat_of_zero_le (show 0 ≤ s by omega)
    clear hs
    by_cases hn : n < l.length
    · obtain ⟨g0, cap', he, hcell⟩ := row_rec slotC_len hrow hn
      cases he
      have hgl := row_lt hrow g0 rfl
      have hx := liveB_in (g := g) hn
      have c0 := hcell 0 _ rfl
      have c1 := hcell 1 _ rfl
      simp only [Nat.add_zero] at c0
      clear hcell hrow
      generalize l[n] = x at *
      obtain ⟨a, b⟩ := x
      simp only at c0 c1
      have H := Lib.hid hx
      clear hx
      have he := fun w => eqlSlot w a g b true
      have hg := guardSlot
      generalize eqB (a, b) (g, true) = r at *
      go_enter Tryz.func55, Tryz.ntmps55
      go_wp2
      go_quiet (fail)
      go_wp2
      go_ret
      exact ⟨by rw [H.out]; rfl, hB _⟩
    · have H := Lib.hid (liveB_out (l := l) (g := g) (Nat.le_of_not_lt hn))
      have hd : decide ((n : Int) < (l.length : Int)) = false := by simp; omega
      have hd2 : decide (n < l.length) = false := by simp; omega
      clear hrow
      go_enter Tryz.func55, Tryz.ntmps55
      go_wp2
      go_quiet (fail)
      go_wp2
      go_ret
      exact ⟨by rw [H.out]; rfl, hB _⟩

def handleC (h : Int × Int) : List Value := [.int .i64 h.1, .int .i64 h.2]
theorem handleC_len (x : Int × Int) : (handleC x).length = 2 := rfl
theorem handleC_one (x : Int × Int) : ∀ u ∈ handleC x, u.oneCell' = true := by intro u hu; simp [handleC] at hu; rcases hu with rfl | rfl <;> rfl
theorem slotC_one (x : Int × Bool) : ∀ u ∈ slotC x, u.oneCell' = true := by intro u hu; simp [slotC] at hu; rcases hu with rfl | rfl <;> rfl
theorem info_handle : (Tryz.prog.info? 41).map (fun i => (i.zero, i.size, i.bytes)) = some (some (.agg #[.int .i64 0, .int .i64 0]), 2, 16) := by kernel_rfl
theorem info_slot : (Tryz.prog.info? 159).map (fun i => (i.zero, i.size, i.bytes)) = some (some (.agg #[.int .i64 0, .bool false]), 2, 16) := by kernel_rfl
theorem info_bool : (Tryz.prog.info? 4).map (fun i => (i.zero, i.size, i.bytes)) = some (some (.bool false), 1, 1) := by kernel_rfl

/-- A list of records in new memory. -/
def MadeRecs {α : Type} (E k : Nat) (enc : α → List Value) (l : List α) (w : World) (e : Ending) (w' : World) : Prop :=
  ∃ v, e = .returned v ∧ w'.ownsRow w.heap.size E k v l.length (l.flatMap enc) ∧ Below w.heap.size w w'
/-- The cells of a record laid in a new block. -/
theorem new_rec {w : World} {n : Nat} {cs : Array Value} {t : TypeId} {xs : List Value} (hn : n = w.heap.size) (h : cs.toList = xs) : ∀ j u, xs[j]? = some u → (w.alloc (.cells cs t)).cell? ((⟨n, 0, none⟩ : Addr).add j) = some u := by
  intro j u hu
  subst h; subst hn
  have e : (⟨w.heap.size, 0, none⟩ : Addr).add j = ⟨w.heap.size, j, none⟩ := by unfold Addr.add; split <;> simp_all
  rw [e]
  simpa using hu

/-- append of one handle onto a row of one's own. -/
theorem app_handle {w : World} {ops : Array Oper} {rest : List Oper} {o : Oper} {a : Act} {Q : Exit → Act → World → Prop} (hgd : o.guard = none) (s x : Operand)
    (ho : o.op = .call { callee := .builtin .append, args := #[s, x], argTypes := #[55, 55] }) (base : Nat) (v : Value) (l : List (Int × Int)) (y : Int × Int) (ad : Addr) (c : Nat)
    (hs : a.eval s = v) (hown : w.ownsRow base 41 2 v l.length (l.flatMap handleC)) (hx : a.eval x = .slice (some ad) 1 c) (hc : ∀ j u, (handleC y)[j]? = some u → w.cell? (ad.add j) = some u)
    (hlen : l.length < 8796093022207) (hbase : base ≤ w.heap.size)
    (h : ∀ v' w', w'.ownsRow base 41 2 v' (l ++ [y]).length ((l ++ [y]).flatMap handleC) → Below base w w' → wpList Tryz.prog ops Q rest (a.put o.dst v') w') : wpList Tryz.prog ops Q (o :: rest) a w := by
  refine app_rec (enc := handleC) (n := 2) (z := .agg #[.int .i64 0, .int .i64 0]) (bytes := 16) hgd s x 55 41 ho Tryz.underlying55 info_handle rfl (by omega) (by omega) handleC_one handleC_len base v l y ad c hs hown hx hc (by omega) hbase ?_
  intro v' w' h1 h2 _
  exact h v' w' h1 ((Below.refl base w).grown h2 hbase (own_ge hown))

set_option maxHeartbeats 1000000 in
theorem gens_any (p : Nat) (l : Sl) (F : List Nat) (w : World) (h : RepS w p l F) (hl : l.length ≤ 60) :
    Calls Tryz.prog 37 #[.pointer (some ⟨p, 0, none⟩)] w (MadeInts w.heap.size (gensS l) w) := by
  obtain ⟨v, hp, hrow, rfl, hne⟩ := h
  obtain ⟨A, cap, rfl, hc1, hc2⟩ := row_slice hrow
  have hc := blk_cell hp 0
  simp at hc
  clear hp hne hc2
  go_enter Tryz.func37, Tryz.ntmps37
  go_wp2
  go_loopw [3, 11] (fun v i wr => ∃ k : Nat, k ≤ l.length ∧ i = .int .i64 k ∧ wr.ownsRow w.heap.size 3 1 v (gensS (l.take k)).length (ints (gensS (l.take k))) ∧ Below w.heap.size w wr) (fun _ i _ => l.length - (intOf i).toNat)
  case atStart => exact ⟨0, by omega, rfl, ⟨rfl, .inl ⟨rfl, rfl⟩⟩, Below.refl _ _⟩
  case round =>
    obtain ⟨k, hk, rfl, hown, hbel⟩ := hrel
    have hsz := hbel.size
    by_cases hlt : k < l.length
    · obtain ⟨g0, cap', he, hcell⟩ := row_rec slotC_len hrow hlt
      cases he
      have hgl := row_lt hrow g0 rfl
      have hs : gensS (l.take (k + 1)) = gensS (l.take k) ++ [l[k].1] := by rw [take_succ_get l k hlt, gensS, gensS, List.map_append]; rfl
      have hlen : (gensS (l.take k)).length ≤ 60 := by simp [gensS]; omega
      have c0 := (hbel.cell (p := ⟨g0, k * 2, none⟩) hgl).trans (hcell 0 _ rfl)
      have c1 := (hbel.cell (p := ⟨g0, k * 2 + 1, none⟩) hgl).trans (hcell 1 _ rfl)
      clear hcell hrow hc
      generalize gensS (l.take k) = L at *
      generalize l[k] = x at *
      obtain ⟨a, b⟩ := x
      simp only at c0 c1 hs
      have Hs := Lib.hid hs
      clear hs
      go_wp2_with (at_builtin; refine app_int rfl _ _ rfl w.heap.size _ L a ⟨wr.heap.size + 1, 0, none⟩ 1 rfl ((hown.alloc _).alloc _) rfl (by simp) (by omega) (by simp; omega) ?_; intro v' w1 hown2 hb1)
      go_roundw
      case rel => exact ⟨k + 1, by omega, by go_num, by rw [Hs.out]; exact hown2, ((hbel.alloc hsz _).alloc (by simp; omega) _).trans hb1⟩
      case measure => simp [intOf]; omega
    · obtain rfl : k = l.length := by omega
      rw [List.take_length] at hown
      clear hrow hc
      go_wp2
      go_ret
      exact ⟨_, rfl, hown, hbel⟩


set_option maxHeartbeats 1000000 in
theorem hasHandle_any (A : Option Addr) (c : Nat) (l : List (Int × Int)) (s g : Int) (w : World) (hl : l.length ≤ 9223372036854775807) (hA : Lies w w.heap.size A (l.flatMap handleC)) :
    Calls Tryz.prog 84 #[.slice A l.length c, .agg #[.int .i64 s, .int .i64 g]] w fun e w' => e = .returned (.bool (hasB l (s, g))) ∧ Below w.heap.size w w' := by
  go_enter Tryz.func84, Tryz.ntmps84
  go_wp2
  go_loopw [9] (fun i wr => ∃ k : Nat, k ≤ l.length ∧ i = .int .i64 k ∧ hasB (l.take k) (s, g) = false ∧ Below (w.heap.size + 1) (w.alloc (.cells #[.int .i64 s, .int .i64 g] 41)) wr) (fun i _ => l.length - (intOf i).toNat)
  case atStart => exact ⟨0, by omega, rfl, hasB_nil _, Below.refl _ _⟩
  case round =>
    obtain ⟨k, hk, rfl, hno, hbel⟩ := hrel
    have hsz := hbel.size
    simp only [World.size_alloc] at hsz
    have hsz2 : w.heap.size < wr.heap.size := hsz
    have hb0 : Below w.heap.size w wr := ((Below.refl w.heap.size w).alloc (Nat.le_refl _) _).trans (hbel.mono (by omega))
    have d0 : wr.cell? ⟨w.heap.size, 0, none⟩ = some (.int .i64 s) := (hbel.cell (p := ⟨w.heap.size, 0, none⟩) (by simp)).trans (by simp)
    have d1 : wr.cell? ⟨w.heap.size, 1, none⟩ = some (.int .i64 g) := (hbel.cell (p := ⟨w.heap.size, 1, none⟩) (by simp)).trans (by simp)
    by_cases hlt : k < l.length
    · obtain ⟨a, rfl, hal, hcell⟩ := hA.rec_ handleC_len (by omega) hlt
      have hs : hasB (l.take (k + 1)) (s, g) = (hasB (l.take k) (s, g) || eqB (s, g) l[k]) := by
        rw [take_succ_get l k hlt, hasB_snoc]; rfl
      have hs2 : eqB (s, g) l[k] = true → hasB l (s, g) = true := by
        intro h
        rw [hasB_iff]
        have : (s, g) = l[k] := by simpa [eqB] using h
        rw [this]; exact List.getElem_mem _
      have hc0 := fun j u hu => (hb0.cell (p := (a.add (k * 2)).add j) (by rw [add_block, add_block]; exact hal)).trans (hcell j u hu)
      have Hc0 := Lib.hid hc0
      clear hcell hc0 hA
      generalize l[k] = x at *
      obtain ⟨x0, x1⟩ := x
      have he := fun w => eqlHandle w s g x0 x1
      rw [hno, Bool.false_or] at hs
      generalize hr : eqB (s, g) (x0, x1) = r at *
      have Hs := Lib.hid hs; have Hs2 := Lib.hid hs2; have Hr := Lib.hid hr; have Hno := Lib.hid hno; have Hb := Lib.hid hbel; have Hb0 := Lib.hid hb0
      clear hs hs2 hr hno hbel hb0
      cases r with
      | true =>
        have H := Lib.hid (Hs2.out rfl)
        go_wp2_with (refine wpList_load_flat rfl 41 (.tmp 11) rfl _ rfl [.int .i64 x0, .int .i64 x1] _ Tryz.underlying41 rfl (by kernel_rfl) Hc0.out ?_)
        go_ret
        exact ⟨by rw [H.out]; rfl, Hb0.out.alloc (by omega) _⟩
      | false =>
        go_wp2_with (refine wpList_load_flat rfl 41 (.tmp 11) rfl _ rfl [.int .i64 x0, .int .i64 x1] _ Tryz.underlying41 rfl (by kernel_rfl) Hc0.out ?_)
        go_roundw
        case rel => exact ⟨k + 1, by omega, by go_num, Hs.out, Hb.out.alloc (by omega) _⟩
        case measure => simp [intOf]; omega
    · have hf : hasB l (s, g) = false := by rw [← hno, List.take_of_length_le (by omega)]
      have H := Lib.hid hf
      clear hf hno
      go_wp2
      go_ret
      exact ⟨by rw [H.out]; rfl, hb0⟩
end Go.Proofs.YtehjfmjibiafdaaGreat

/- The reference's slots: All, Is. -/
namespace Go.Proofs.YtehjfmjibiafdaaGreat
open Go.RowKit

theorem flat2_set {α : Type} {enc : α → List Value} (hf : ∀ x, (enc x).length = 2) (y : α) (u v : Value) (hy : enc y = [u, v]) : ∀ (l : List α) (k : Nat), k < l.length →
    ((l.flatMap enc).set (k * 2) u).set (k * 2 + 1) v = (l.set k y).flatMap enc
  | x :: l, 0, _ => by
    obtain ⟨a, b, hx⟩ : ∃ a b, enc x = [a, b] := by
      match h : enc x, hf x with
      | [a, b], _ => exact ⟨a, b, rfl⟩
    simp [hx, hy]
  | x :: l, k + 1, hk => by
    have ih := flat2_set hf y u v hy l k (by simpa using hk)
    have hx := hf x
    simp only [List.flatMap_cons, List.set_cons_succ]
    rw [List.set_append_right _ _ (by omega), List.set_append_right _ _ (by omega), hx, show (k + 1) * 2 - 2 = k * 2 by omega, show (k + 1) * 2 + 1 - 2 = k * 2 + 1 by omega, ih]
/-- The program's slots, opened at slot n. -/
theorem RepS.at_ {w : World} {p : Nat} {l : Sl} {F : List Nat} (h : RepS w p l F) {n : Nat} (hn : n < l.length) : ∃ g0 cap, w.heap[p]? = some (.cells #[.slice (some ⟨g0, 0, none⟩) l.length cap] 157 (0, 0)) ∧ g0 ∈ F ∧ g0 < w.heap.size ∧
    w.cell? ⟨g0, n * 2, none⟩ = some (.int .i64 l[n].1) ∧ w.cell? ⟨g0, n * 2 + 1, none⟩ = some (.bool l[n].2) ∧ (∀ i, w.frozen? ⟨g0, i, none⟩ = false) ∧
    (∀ y : Int × Bool, RepS ((w.setCell ⟨g0, n * 2, none⟩ (.int .i64 y.1)).setCell ⟨g0, n * 2 + 1, none⟩ (.bool y.2)) p (l.set n y) F) ∧ (∀ b : Bool, RepS (w.setCell ⟨g0, n * 2 + 1, none⟩ (.bool b)) p (l.set n (l[n].1, b)) F) := by
  obtain ⟨v, hp, hrow, rfl, hne⟩ := h
  obtain ⟨g0, cap, cur, rfl, -, hblk, -⟩ := row_some hrow (by omega)
  obtain ⟨g0', cap', he, hcell⟩ := row_rec slotC_len hrow hn
  cases he
  have hpg : p ≠ g0 := by
    intro e
    simp [Value.ownBlock, e] at hne
  refine ⟨g0, cap, hp, by simp [Value.ownBlock], blk_lt hblk, hcell 0 _ rfl, hcell 1 _ rfl, blk_free hblk, fun y => ?_, fun b => ?_⟩
  · refine ⟨_, ?_, ?_, rfl, hne⟩
    · rw [blk_set_ne (by simpa using hpg), blk_set_ne (by simpa using hpg)]; exact hp
    · have h2 := row_set (row_set hrow (n * 2) (.int .i64 y.1)) (n * 2 + 1) (.bool y.2)
      rw [flat2_set slotC_len y _ _ rfl l n hn] at h2
      rw [List.length_set]; exact h2
  · refine ⟨_, ?_, ?_, rfl, hne⟩
    · rw [blk_set_ne (by simpa using hpg)]; exact hp
    · have h2 := row_set hrow (n * 2 + 1) (.bool b)
      rw [flatV_set slotC_len l n hn 1 _ (l[n].1, b) (by omega) rfl] at h2
      rw [List.length_set]; exact h2
def bools (bs : List Bool) : List Value := bs.map (.bool ·)
/-- The reference's slots l lie at block q; F: the blocks that they take. -/
def RepRS (w : World) (q : Nat) (l : Sl) (F : List Nat) : Prop :=
  ∃ vg vl, w.heap[q]? = some (.cells #[vg, vl] 45 (0, 0)) ∧ w.ownsRow 0 3 1 vg l.length (ints (gensS l)) ∧ w.ownsRow 0 4 1 vl l.length (bools (livesS l)) ∧
    F = q :: (vg.ownBlock.toList ++ vl.ownBlock.toList) ∧ F.Nodup
theorem RepRS.mod {w w' : World} {q : Nat} {l : Sl} {F G : List Nat} (h : RepRS w q l F) (hm : Mod G w w') (hd : ∀ k ∈ F, k ∉ G) : RepRS w' q l F := by
  obtain ⟨vg, vl, h1, h2, h3, rfl, h4⟩ := h
  exact ⟨vg, vl, hm.keep h1 (hd q (by simp)), row_mod h2 hm (fun k hk => hd k (by simp [hk])), row_mod h3 hm (fun k hk => hd k (by simp [hk])), rfl, h4⟩
theorem RepRS.lt {w : World} {p : Nat} {l : Sl} {F : List Nat} (h : RepRS w p l F) : ∀ k ∈ F, k < w.heap.size := by
  obtain ⟨vg, vl, h1, h2, h3, rfl, h4⟩ := h
  intro k hk
  rcases List.mem_cons.1 hk with rfl | hk
  · exact blk_lt h1
  · rcases List.mem_append.1 hk with hk | hk
    · exact row_lt h2 k (by simpa using hk)
    · exact row_lt h3 k (by simpa using hk)
theorem gens_get (l : Sl) (k : Nat) (h : k < l.length) : (ints (gensS l))[k]? = some (.int .i64 l[k].1) := by simp [ints, gensS, h]
theorem lives_get (l : Sl) (k : Nat) (h : k < l.length) : (bools (livesS l))[k]? = some (.bool l[k].2) := by simp [bools, livesS, h]

attribute [local go_sem] AllFrom.cons_eq AllFrom.nil_eq putF_nil putF_cons wantedL_none wantedL_some OpGoalT YieldsR preF_nil preF_cons

end Go.Proofs.YtehjfmjibiafdaaGreat

/- The program's slots: New, Take, Free. -/
namespace Go.Proofs.YtehjfmjibiafdaaGreat
open Go.RowKit

attribute [local go_sem] AllFrom.cons_eq AllFrom.nil_eq putF_nil putF_cons wantedL_none wantedL_some OpGoalT OpGoalS YieldsR preF_nil preF_cons

theorem wrapSmall (z : Int) (h1 : 0 ≤ z) (h2 : z ≤ 1000000) : IntKind.i64.wrap z = z := by
  have e : z % 2 ^ 64 = z := Int.emod_eq_of_lt h1 (by omega)
  simp only [IntKind.wrap, IntKind.bits, IntKind.signed, e, Bool.true_and, decide_eq_true_eq]
  split <;> omega
theorem slotsNew_any (w : World) : Calls Tryz.prog 91 #[] w fun e w' => ∃ p, e = .returned (.pointer (some ⟨p, 0, none⟩)) ∧ Below w.heap.size w w' ∧ RepS w' p [] [p] ∧ w.heap.size ≤ p := by
  go_enter Tryz.func91, Tryz.ntmps91
  go_wp2
  go_ret
  refine ⟨w.heap.size, rfl, (Below.refl _ _).alloc (Nat.le_refl _) _, ⟨.slice none 0 0, heap_alloc_new w _, ⟨rfl, .inl ⟨rfl, rfl⟩⟩, rfl, by simp⟩, Nat.le_refl _⟩

/-- What a call that turns the slots l into l' leaves. -/
structure Turns (w : World) (F : List Nat) (F' : List Nat) (w' : World) : Prop where
  mod : Mod F w w'
  new : ∀ k ∈ F', k ∈ F ∨ w.heap.size ≤ k

/-- append of one slot onto a row of one's own. -/
theorem app_slot {w : World} {ops : Array Oper} {rest : List Oper} {o : Oper} {a : Act} {Q : Exit → Act → World → Prop} (hgd : o.guard = none) (s x : Operand)
    (ho : o.op = .call { callee := .builtin .append, args := #[s, x], argTypes := #[155, 155] }) (base : Nat) (v : Value) (l : Sl) (y : Int × Bool) (ad : Addr) (c : Nat)
    (hs : a.eval s = v) (hown : w.ownsRow base 159 2 v l.length (l.flatMap slotC)) (hx : a.eval x = .slice (some ad) 1 c) (hc : ∀ j u, (slotC y)[j]? = some u → w.cell? (ad.add j) = some u)
    (hlen : l.length < 8796093022207) (hbase : base ≤ w.heap.size)
    (h : ∀ v' w', w'.ownsRow base 159 2 v' (l ++ [y]).length ((l ++ [y]).flatMap slotC) → w.grownBy w' v.ownBlock → (v'.ownBlock = v.ownBlock ∨ v'.ownBlock = some w.heap.size) → wpList Tryz.prog ops Q rest (a.put o.dst v') w') : wpList Tryz.prog ops Q (o :: rest) a w :=
  app_rec (enc := slotC) (n := 2) (z := .agg #[.int .i64 0, .bool false]) (bytes := 16) hgd s x 155 159 ho Tryz.underlying155 info_slot rfl (by omega) (by omega) slotC_one slotC_len base v l y ad c hs hown hx hc (by omega) hbase h

end Go.Proofs.YtehjfmjibiafdaaGreat

/- The contract of Eq at lists of handles. -/
namespace Go.Proofs.YtehjfmjibiafdaaGreat
open Go.RowKit

/-- One record of a list that lies flat, by block and offset. -/
theorem Lies.rec_at {α : Type} {enc : α → List Value} {n : Nat} {w : World} {B : Nat} {A : Option Addr} {l : List α} (h : Lies w B A (l.flatMap enc)) (hf : ∀ x, (enc x).length = n) (hn : 0 < n) {k : Nat} (hk : k < l.length) :
    ∃ b o, A = some ⟨b, o, none⟩ ∧ b < B ∧ ∀ j u, (enc l[k])[j]? = some u → w.cell? ⟨b, o + k * n + j, none⟩ = some u := by
  obtain ⟨a, rfl, hb, hc⟩ := h.rec_ hf hn hk
  obtain ⟨a0, e, -, h0⟩ := h 0 ((l.flatMap enc)[0]'(by rw [flatV_length hf]; exact Nat.mul_pos (by omega) hn)) (List.getElem?_eq_getElem _)
  cases e
  obtain ⟨b, o, s⟩ := a
  have hs : s = none := by
    cases s with
    | none => rfl
    | some x =>
      rw [add_zero] at h0
      simp only [World.cell?] at h0
      split at h0
      · simp at h0
      · cases h0
  subst hs
  refine ⟨b, o, rfl, hb, fun j u hu => ?_⟩
  have := hc j u hu
  rw [add_add_] at this
  have e : (⟨b, o, none⟩ : Addr).add (k * n + j) = ⟨b, o + k * n + j, none⟩ := by
    unfold Addr.add
    split
    · next h0 => simp only [Addr.mk.injEq, true_and, and_true]; omega
    · simp only [Addr.mk.injEq, true_and, and_true]; omega
  rw [e] at this
  exact this

attribute [local go_sem] AllFrom.cons_eq AllFrom.nil_eq putF_nil putF_cons wantedL_none wantedL_some OpGoalT OpGoalS YieldsR preF_nil preF_cons

end Go.Proofs.YtehjfmjibiafdaaGreat
