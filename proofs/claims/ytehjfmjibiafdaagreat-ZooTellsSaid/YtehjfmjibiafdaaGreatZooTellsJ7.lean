import Derived.Test.YtehjfmjibiafdaaGreatZooTellsJ2
import Derived.Test.YtehjfmjibiafdaaGreatZooTellsJ3
import Derived.Test.YtehjfmjibiafdaaGreatZooTellsJ5
import Derived.Test.YtehjfmjibiafdaaGreatZooTellsJ6
import Derived.Test.YtehjfmjibiafdaaGreatZooTellsJ4
import Derived.Deep.QuietTactic
import Derived.BigQuiet
/- Structs of integers in memory: loads of a whole struct; lists of structs laid flat. -/
namespace Go.Proofs.YtehjfmjibiafdaaGreat
open Go Go.RowKit

section
variable {P : Program}
theorem run_load_flat (w : World) (ty : TypeId) (ad : Addr) (xs : List Value) (d : TypeDesc) (hu : P.underlying ty = some d) (hd : (match d with | .struct _ | .array _ _ => true | _ => false) = true)
    (hi : (P.info? ty).map (·.size) = some xs.length) (hc : ∀ j u, xs[j]? = some u → w.cell? (ad.add j) = some u) : (loadVar ty ad).run P w = .ok (.agg xs.toArray) w := by
  have hl : (loadCells ad xs.length).run P w = .ok xs.toArray w := run_loadCells_list (P := P) w ad xs hc
  cases hq : P.info? ty with
  | none => simp [hq] at hi
  | some i =>
    have hs : i.size = xs.length := by simpa [hq] using hi
    have hagg : (isAgg ty).run P w = .ok true w := by
      unfold isAgg
      rw [Sem.run_bind, run_underlying hu w]
      cases d <;> simp_all
    simp [loadVar, Sem.run_bind, hagg, sizeOf, typeInfo, hq, hs, hl]

theorem run_op_load (ρ : Operand → Value) (o : Oper) (w : World) (ty : TypeId) (x : Operand) (ho : o.op = .load ty x) (ad : Addr) (hx : ρ x = .pointer (some ad)) (xs : List Value) (d : TypeDesc) (hu : P.underlying ty = some d)
    (hd : (match d with | .struct _ | .array _ _ => true | _ => false) = true) (hi : (P.info? ty).map (·.size) = some xs.length) (hc : ∀ j u, xs[j]? = some u → w.cell? (ad.add j) = some u) :
    (execOp ρ o).run P w = .ok (.value (.agg xs.toArray)) w := by
  unfold execOp
  simp only [ho, hx, Instr.loadAt, Instr.sureAddr, Sem.run_bind, Sem.run_pure, Result.andThen_ok, run_load_flat w ty ad xs d hu hd hi hc]

theorem wpList_load_flat {ops : Array Oper} {rest : List Oper} {o : Oper} {a : Act} {w : World} {Q : Exit → Act → World → Prop} (hgd : o.guard = none) (ty : TypeId) (x : Operand) (ho : o.op = .load ty x)
    (ad : Addr) (hx : a.eval x = .pointer (some ad)) (xs : List Value) (d : TypeDesc) (hu : P.underlying ty = some d) (hd : (match d with | .struct _ | .array _ _ => true | _ => false) = true)
    (hi : (P.info? ty).map (·.size) = some xs.length) (hc : ∀ j u, xs[j]? = some u → w.cell? (ad.add j) = some u)
    (h : wpList P ops Q rest (a.put o.dst (.agg xs.toArray)) w) : wpList P ops Q (o :: rest) a w :=
  wpList_plain hgd fun K hK => by
    unfold Oper.wp
    rw [run_op_load a.eval o w ty x ho ad hx xs d hu hd hi hc, Oper.upon_value]
    exact hK _ _ h
end

theorem flat_get {α : Type} (f : α → List Int) (n : Nat) (hf : ∀ x, (f x).length = n) : ∀ (l : List α) (k : Nat) (hk : k < l.length) (j : Nat), j < n → (l.flatMap f)[k * n + j]? = (f l[k])[j]?
  | x :: l, 0, _, j, hj => by
    simp only [List.flatMap_cons, Nat.zero_mul, Nat.zero_add, List.getElem_cons_zero]
    rw [List.getElem?_append_left (by rw [hf]; exact hj)]
  | x :: l, k + 1, hk, j, hj => by
    simp only [List.flatMap_cons, List.getElem_cons_succ]
    rw [List.getElem?_append_right (by rw [hf, Nat.succ_mul]; omega), hf, show (k + 1) * n + j - n = k * n + j by rw [Nat.succ_mul]; omega]
    exact flat_get f n hf l k (by simpa using hk) j hj
theorem unflat {α : Type} (f : α → List Int) (k : Nat) (mk : ∀ zs : List Int, zs.length = k → ∃ x, f x = zs) : ∀ (n : Nat) (zs : List Int), zs.length = n * k → ∃ l : List α, l.length = n ∧ zs = l.flatMap f
  | 0, zs, h => ⟨[], rfl, List.eq_nil_of_length_eq_zero (by simpa using h)⟩
  | n + 1, zs, h => by
    rw [Nat.succ_mul] at h
    obtain ⟨x, hx⟩ := mk (zs.take k) (by rw [List.length_take]; omega)
    obtain ⟨l, hl, hz⟩ := unflat f k mk n (zs.drop k) (by rw [List.length_drop]; omega)
    exact ⟨x :: l, by simp [hl], by rw [List.flatMap_cons, hx, ← hz, List.take_append_drop]⟩

/-- One record of a list that lies flat. -/
theorem Lies.elem {α : Type} {f : α → List Int} {n : Nat} {w : World} {B : Nat} {A : Option Addr} {l : List α} (h : Lies w B A (ints (l.flatMap f))) (hf : ∀ x, (f x).length = n) (hn : 0 < n) {k : Nat} (hk : k < l.length) :
    ∃ a, A = some a ∧ a.block < B ∧ ∀ j u, (ints (f l[k]))[j]? = some u → w.cell? ((a.add (k * n)).add j) = some u := by
  have hget : ∀ j, j < n → ∃ u, (ints (l.flatMap f))[k * n + j]? = some u ∧ (ints (f l[k]))[j]? = some u := by
    intro j hj
    have h1 := flat_get f n hf l k hk j hj
    have h2 : (f l[k])[j]? = some ((f l[k])[j]'(by rw [hf]; exact hj)) := List.getElem?_eq_getElem _
    refine ⟨.int .i64 ((f l[k])[j]'(by rw [hf]; exact hj)), ?_, ?_⟩
    · rw [ints, List.getElem?_map, h1, h2]; rfl
    · rw [ints, List.getElem?_map, h2]; rfl
  obtain ⟨u0, h0, _⟩ := hget 0 hn
  obtain ⟨a, rfl, hb, _⟩ := h _ u0 h0
  refine ⟨a, rfl, hb, fun j u hu => ?_⟩
  have hj : j < n := by
    rcases Nat.lt_or_ge j n with h | h
    · exact h
    · rw [List.getElem?_eq_none (by rw [ints_length, hf]; exact h)] at hu; cases hu
  obtain ⟨u', h1, h2⟩ := hget j hj
  rw [h2] at hu
  cases hu
  obtain ⟨a', e, _, hc⟩ := h _ _ h1
  cases e
  rw [add_add_]
  exact hc
end Go.Proofs.YtehjfmjibiafdaaGreat

/- What Live, All and Gens return, at the program's slots and at the reference's. -/
namespace Go.Proofs.YtehjfmjibiafdaaGreat
open Go.RowKit

def slotC (x : Int × Bool) : List Value := [.int .i64 x.1, .bool x.2]
theorem slotC_len (x : Int × Bool) : (slotC x).length = 2 := rfl
theorem below_drewN {B : Nat} {a w : World} (h : Below B a w) (n : Nat) : Below B a (w.drewN n) := ⟨h.os, h.tape, h.output, h.size, h.block⟩

/-- The program's slots l lie at block p; F: the blocks that they take. -/
def RepS (w : World) (p : Nat) (l : Sl) (F : List Nat) : Prop :=
  ∃ v, w.heap[p]? = some (.cells #[v] 157 (0, 0)) ∧ w.ownsRow 0 159 2 v l.length (l.flatMap slotC) ∧ F = p :: v.ownBlock.toList ∧ F.Nodup

theorem RepS.mod {w w' : World} {p : Nat} {l : Sl} {F G : List Nat} (h : RepS w p l F) (hm : Mod G w w') (hd : ∀ k ∈ F, k ∉ G) : RepS w' p l F := by
  obtain ⟨v, h1, h2, rfl, h3⟩ := h
  exact ⟨v, hm.keep h1 (hd p (by simp)), row_mod h2 hm (fun k hk => hd k (by simp [hk])), rfl, h3⟩

theorem RepS.lt {w : World} {p : Nat} {l : Sl} {F : List Nat} (h : RepS w p l F) : ∀ k ∈ F, k < w.heap.size := by
  obtain ⟨v, h1, h2, rfl, h3⟩ := h
  intro k hk
  rcases List.mem_cons.1 hk with rfl | hk
  · exact blk_lt h1
  · exact row_lt h2 k (by simpa using hk)
theorem liveB_neg {l : Sl} {s g : Int} (h : s < 0) : liveB l s g = false := by
  unfold liveB
  rw [show decide (0 ≤ s) = false by simp; omega]; rfl
theorem liveB_out {l : Sl} {n : Nat} {g : Int} (h : l.length ≤ n) : liveB l n g = false := by
  unfold liveB
  rw [Int.toNat_natCast, List.getElem?_eq_none h]; simp
theorem liveB_in {l : Sl} {n : Nat} {g : Int} (h : n < l.length) : liveB l n g = eqB l[n] (g, true) := by
  unfold liveB
  rw [Int.toNat_natCast, List.getElem?_eq_getElem h]
  obtain ⟨a, b⟩ := l[n]
  simp [eqB]
  cases b <;> simp

set_option maxHeartbeats 1000000 in
theorem live_any (p : Nat) (l : Sl) (F : List Nat) (s g : Int) (w : World) (h : RepS w p l F) :
    Calls Tryz.prog 55 #[.pointer (some ⟨p, 0, none⟩), .agg #[.int .i64 s, .int .i64 g]] w fun e w' => e = .returned (.bool (liveB l s g)) ∧ Below w.heap.size w w' := by
  obtain ⟨v, hp, hrow, rfl, hne⟩ := h
  obtain ⟨A, cap, rfl, hc1, hc2⟩ := row_slice hrow
  have hc := blk_cell hp 0
  simp at hc
  have hle : l.length ≤ 9223372036854775807 := by unfold maxLen at hc2; omega
  have hpl := blk_lt hp
  have hB : ∀ nq, Below w.heap.size w ((w.alloc (.cells #[.int .i64 s, .int .i64 g] 41)).drewN nq) := fun nq => below_drewN ((Below.refl _ _).alloc (Nat.le_refl _) _) nq
  clear hp hne hc2
  by_cases hs : s < 0
  · have H := Lib.hid (liveB_neg (l := l) (g := g) hs)
    have hd : decide (0 ≤ s) = false := by simp; omega
    clear hrow
    go_enter Tryz.func55, Tryz.ntmps55
    go_wp2
    go_quiet (fail)
    go_wp2
    go_ret
    exact ⟨by rw [H.out]; rfl, hB _⟩
  · obtain ⟨n, rfl⟩ := Int.eq_ofNat_of_zero_le (show 0 ≤ s by omega)
    clear hs
    by_cases hn : n < l.length
    · obtain ⟨g0, cap', he, hcell⟩ := row_rec slotC_len hrow hn
      cases he
      have hgl := row_lt hrow g0 rfl
      have hx := liveB_in (g := g) hn
      have c0 := hcell 0 _ rfl
      have c1 := hcell 1 _ rfl
      simp only [Nat.add_zero] at c0
      clear hcell hrow
      generalize l[n] = x at *
      obtain ⟨a, b⟩ := x
      simp only at c0 c1
      have H := Lib.hid hx
      clear hx
      have he := fun w => eqlSlot w a g b true
      have hg := guardSlot
      generalize eqB (a, b) (g, true) = r at *
      go_enter Tryz.func55, Tryz.ntmps55
      go_wp2
      go_quiet (fail)
      go_wp2
      go_ret
      exact ⟨by rw [H.out]; rfl, hB _⟩
    · have H := Lib.hid (liveB_out (l := l) (g := g) (Nat.le_of_not_lt hn))
      have hd : decide ((n : Int) < (l.length : Int)) = false := by simp; omega
      have hd2 : decide (n < l.length) = false := by simp; omega
      clear hrow
      go_enter Tryz.func55, Tryz.ntmps55
      go_wp2
      go_quiet (fail)
      go_wp2
      go_ret
      exact ⟨by rw [H.out]; rfl, hB _⟩

def handleC (h : Int × Int) : List Value := [.int .i64 h.1, .int .i64 h.2]
theorem handleC_len (x : Int × Int) : (handleC x).length = 2 := rfl
theorem handleC_one (x : Int × Int) : ∀ u ∈ handleC x, u.oneCell' = true := by intro u hu; simp [handleC] at hu; rcases hu with rfl | rfl <;> rfl
theorem slotC_one (x : Int × Bool) : ∀ u ∈ slotC x, u.oneCell' = true := by intro u hu; simp [slotC] at hu; rcases hu with rfl | rfl <;> rfl
theorem info_handle : (Tryz.prog.info? 41).map (fun i => (i.zero, i.size, i.bytes)) = some (some (.agg #[.int .i64 0, .int .i64 0]), 2, 16) := by kernel_rfl
theorem info_slot : (Tryz.prog.info? 159).map (fun i => (i.zero, i.size, i.bytes)) = some (some (.agg #[.int .i64 0, .bool false]), 2, 16) := by kernel_rfl
theorem info_bool : (Tryz.prog.info? 4).map (fun i => (i.zero, i.size, i.bytes)) = some (some (.bool false), 1, 1) := by kernel_rfl

/-- A list of records in new memory. -/
def MadeRecs {α : Type} (E k : Nat) (enc : α → List Value) (l : List α) (w : World) (e : Ending) (w' : World) : Prop :=
  ∃ v, e = .returned v ∧ w'.ownsRow w.heap.size E k v l.length (l.flatMap enc) ∧ Below w.heap.size w w'
/-- The cells of a record laid in a new block. -/
theorem new_rec {w : World} {n : Nat} {cs : Array Value} {t : TypeId} {xs : List Value} (hn : n = w.heap.size) (h : cs.toList = xs) : ∀ j u, xs[j]? = some u → (w.alloc (.cells cs t)).cell? ((⟨n, 0, none⟩ : Addr).add j) = some u := by
  intro j u hu
  subst h; subst hn
  have e : (⟨w.heap.size, 0, none⟩ : Addr).add j = ⟨w.heap.size, j, none⟩ := by unfold Addr.add; split <;> simp_all
  rw [e]
  simpa using hu

/-- append of one handle onto a row of one's own. -/
theorem app_handle {w : World} {ops : Array Oper} {rest : List Oper} {o : Oper} {a : Act} {Q : Exit → Act → World → Prop} (hgd : o.guard = none) (s x : Operand)
    (ho : o.op = .call { callee := .builtin .append, args := #[s, x], argTypes := #[55, 55] }) (base : Nat) (v : Value) (l : List (Int × Int)) (y : Int × Int) (ad : Addr) (c : Nat)
    (hs : a.eval s = v) (hown : w.ownsRow base 41 2 v l.length (l.flatMap handleC)) (hx : a.eval x = .slice (some ad) 1 c) (hc : ∀ j u, (handleC y)[j]? = some u → w.cell? (ad.add j) = some u)
    (hlen : l.length < 8796093022207) (hbase : base ≤ w.heap.size)
    (h : ∀ v' w', w'.ownsRow base 41 2 v' (l ++ [y]).length ((l ++ [y]).flatMap handleC) → Below base w w' → wpList Tryz.prog ops Q rest (a.put o.dst v') w') : wpList Tryz.prog ops Q (o :: rest) a w := by
  refine app_rec (enc := handleC) (n := 2) (z := .agg #[.int .i64 0, .int .i64 0]) (bytes := 16) hgd s x 55 41 ho Tryz.underlying55 info_handle rfl (by omega) (by omega) handleC_one handleC_len base v l y ad c hs hown hx hc (by omega) hbase ?_
  intro v' w' h1 h2 _
  exact h v' w' h1 ((Below.refl base w).grown h2 hbase (own_ge hown))

set_option maxHeartbeats 1000000 in
theorem hasHandle_any (A : Option Addr) (c : Nat) (l : List (Int × Int)) (s g : Int) (w : World) (hl : l.length ≤ 9223372036854775807) (hA : Lies w w.heap.size A (l.flatMap handleC)) :
    Calls Tryz.prog 84 #[.slice A l.length c, .agg #[.int .i64 s, .int .i64 g]] w fun e w' => e = .returned (.bool (hasB l (s, g))) ∧ Below w.heap.size w w' := by
  go_enter Tryz.func84, Tryz.ntmps84
  go_wp2
  go_loopw [9] (fun i wr => ∃ k : Nat, k ≤ l.length ∧ i = .int .i64 k ∧ hasB (l.take k) (s, g) = false ∧ Below (w.heap.size + 1) (w.alloc (.cells #[.int .i64 s, .int .i64 g] 41)) wr) (fun i _ => l.length - (Go.RowKit.intOf i).toNat)
  case atStart => exact ⟨0, by omega, rfl, hasB_nil _, Below.refl _ _⟩
  case round =>
    obtain ⟨k, hk, rfl, hno, hbel⟩ := hrel
    have hsz := hbel.size
    simp only [World.size_alloc] at hsz
    have hsz2 : w.heap.size < wr.heap.size := hsz
    have hb0 : Below w.heap.size w wr := ((Below.refl w.heap.size w).alloc (Nat.le_refl _) _).trans (hbel.mono (by omega))
    have d0 : wr.cell? ⟨w.heap.size, 0, none⟩ = some (.int .i64 s) := (hbel.cell (p := ⟨w.heap.size, 0, none⟩) (by simp)).trans (by simp)
    have d1 : wr.cell? ⟨w.heap.size, 1, none⟩ = some (.int .i64 g) := (hbel.cell (p := ⟨w.heap.size, 1, none⟩) (by simp)).trans (by simp)
    by_cases hlt : k < l.length
    · obtain ⟨a, rfl, hal, hcell⟩ := hA.rec_ handleC_len (by omega) hlt
      have hs : hasB (l.take (k + 1)) (s, g) = (hasB (l.take k) (s, g) || eqB (s, g) l[k]) := by
        rw [take_succ_get l k hlt, hasB_snoc]; rfl
      have hs2 : eqB (s, g) l[k] = true → hasB l (s, g) = true := by
        intro h
        rw [hasB_iff]
        have : (s, g) = l[k] := by simpa [eqB] using h
        rw [this]; exact List.getElem_mem _
      have hc0 := fun j u hu => (hb0.cell (p := (a.add (k * 2)).add j) (by rw [add_block, add_block]; exact hal)).trans (hcell j u hu)
      have Hc0 := Lib.hid hc0
      clear hcell hc0 hA
      generalize l[k] = x at *
      obtain ⟨x0, x1⟩ := x
      have he := fun w => eqlHandle w s g x0 x1
      rw [hno, Bool.false_or] at hs
      generalize hr : eqB (s, g) (x0, x1) = r at *
      have Hs := Lib.hid hs; have Hs2 := Lib.hid hs2; have Hr := Lib.hid hr; have Hno := Lib.hid hno; have Hb := Lib.hid hbel; have Hb0 := Lib.hid hb0
      clear hs hs2 hr hno hbel hb0
      cases r with
      | true =>
        have H := Lib.hid (Hs2.out rfl)
        go_wp2_with (refine wpList_load_flat rfl 41 (.tmp 11) rfl _ rfl [.int .i64 x0, .int .i64 x1] _ Tryz.underlying41 rfl (by kernel_rfl) Hc0.out ?_)
        go_ret
        exact ⟨by rw [H.out]; rfl, Hb0.out.alloc (by omega) _⟩
      | false =>
        go_wp2_with (refine wpList_load_flat rfl 41 (.tmp 11) rfl _ rfl [.int .i64 x0, .int .i64 x1] _ Tryz.underlying41 rfl (by kernel_rfl) Hc0.out ?_)
        go_roundw
        case rel => exact ⟨k + 1, by omega, by go_num, Hs.out, Hb.out.alloc (by omega) _⟩
        case measure => simp [Go.RowKit.intOf]; omega
    · have hf : hasB l (s, g) = false := by rw [← hno, List.take_of_length_le (by omega)]
      have H := Lib.hid hf
      clear hf hno
      go_wp2
      go_ret
      exact ⟨by rw [H.out]; rfl, hb0⟩
end Go.Proofs.YtehjfmjibiafdaaGreat

/- The reference's slots: All, Is. -/
namespace Go.Proofs.YtehjfmjibiafdaaGreat
open Go.RowKit

theorem flat2_set {α : Type} {enc : α → List Value} (hf : ∀ x, (enc x).length = 2) (y : α) (u v : Value) (hy : enc y = [u, v]) : ∀ (l : List α) (k : Nat), k < l.length →
    ((l.flatMap enc).set (k * 2) u).set (k * 2 + 1) v = (l.set k y).flatMap enc
  | x :: l, 0, _ => by
    obtain ⟨a, b, hx⟩ : ∃ a b, enc x = [a, b] := by
      match h : enc x, hf x with
      | [a, b], _ => exact ⟨a, b, rfl⟩
    simp [hx, hy]
  | x :: l, k + 1, hk => by
    have ih := flat2_set hf y u v hy l k (by simpa using hk)
    have hx := hf x
    simp only [List.flatMap_cons, List.set_cons_succ]
    rw [List.set_append_right _ _ (by omega), List.set_append_right _ _ (by omega), hx, show (k + 1) * 2 - 2 = k * 2 by omega, show (k + 1) * 2 + 1 - 2 = k * 2 + 1 by omega, ih]
/-- The program's slots, opened at slot n. -/
theorem RepS.at_ {w : World} {p : Nat} {l : Sl} {F : List Nat} (h : RepS w p l F) {n : Nat} (hn : n < l.length) : ∃ g0 cap, w.heap[p]? = some (.cells #[.slice (some ⟨g0, 0, none⟩) l.length cap] 157 (0, 0)) ∧ g0 ∈ F ∧ g0 < w.heap.size ∧
    w.cell? ⟨g0, n * 2, none⟩ = some (.int .i64 l[n].1) ∧ w.cell? ⟨g0, n * 2 + 1, none⟩ = some (.bool l[n].2) ∧ (∀ i, w.frozen? ⟨g0, i, none⟩ = false) ∧
    (∀ y : Int × Bool, RepS ((w.setCell ⟨g0, n * 2, none⟩ (.int .i64 y.1)).setCell ⟨g0, n * 2 + 1, none⟩ (.bool y.2)) p (l.set n y) F) ∧ (∀ b : Bool, RepS (w.setCell ⟨g0, n * 2 + 1, none⟩ (.bool b)) p (l.set n (l[n].1, b)) F) := by
  obtain ⟨v, hp, hrow, rfl, hne⟩ := h
  obtain ⟨g0, cap, cur, rfl, -, hblk, -⟩ := row_some hrow (by omega)
  obtain ⟨g0', cap', he, hcell⟩ := row_rec slotC_len hrow hn
  cases he
  have hpg : p ≠ g0 := by
    intro e
    simp [Value.ownBlock, e] at hne
  refine ⟨g0, cap, hp, by simp [Value.ownBlock], blk_lt hblk, hcell 0 _ rfl, hcell 1 _ rfl, blk_free hblk, fun y => ?_, fun b => ?_⟩
  · refine ⟨_, ?_, ?_, rfl, hne⟩
    · rw [blk_set_ne (by simpa using hpg), blk_set_ne (by simpa using hpg)]; exact hp
    · have h2 := row_set (row_set hrow (n * 2) (.int .i64 y.1)) (n * 2 + 1) (.bool y.2)
      rw [flat2_set slotC_len y _ _ rfl l n hn] at h2
      rw [List.length_set]; exact h2
  · refine ⟨_, ?_, ?_, rfl, hne⟩
    · rw [blk_set_ne (by simpa using hpg)]; exact hp
    · have h2 := row_set hrow (n * 2 + 1) (.bool b)
      rw [flatV_set slotC_len l n hn 1 _ (l[n].1, b) (by omega) rfl] at h2
      rw [List.length_set]; exact h2
def bools (bs : List Bool) : List Value := bs.map (.bool ·)
/-- The reference's slots l lie at block q; F: the blocks that they take. -/
def RepRS (w : World) (q : Nat) (l : Sl) (F : List Nat) : Prop :=
  ∃ vg vl, w.heap[q]? = some (.cells #[vg, vl] 45 (0, 0)) ∧ w.ownsRow 0 3 1 vg l.length (ints (gensS l)) ∧ w.ownsRow 0 4 1 vl l.length (bools (livesS l)) ∧
    F = q :: (vg.ownBlock.toList ++ vl.ownBlock.toList) ∧ F.Nodup
theorem RepRS.mod {w w' : World} {q : Nat} {l : Sl} {F G : List Nat} (h : RepRS w q l F) (hm : Mod G w w') (hd : ∀ k ∈ F, k ∉ G) : RepRS w' q l F := by
  obtain ⟨vg, vl, h1, h2, h3, rfl, h4⟩ := h
  exact ⟨vg, vl, hm.keep h1 (hd q (by simp)), row_mod h2 hm (fun k hk => hd k (by simp [hk])), row_mod h3 hm (fun k hk => hd k (by simp [hk])), rfl, h4⟩
theorem RepRS.lt {w : World} {p : Nat} {l : Sl} {F : List Nat} (h : RepRS w p l F) : ∀ k ∈ F, k < w.heap.size := by
  obtain ⟨vg, vl, h1, h2, h3, rfl, h4⟩ := h
  intro k hk
  rcases List.mem_cons.1 hk with rfl | hk
  · exact blk_lt h1
  · rcases List.mem_append.1 hk with hk | hk
    · exact row_lt h2 k (by simpa using hk)
    · exact row_lt h3 k (by simpa using hk)
theorem gens_get (l : Sl) (k : Nat) (h : k < l.length) : (ints (gensS l))[k]? = some (.int .i64 l[k].1) := by simp [ints, gensS, h]
theorem lives_get (l : Sl) (k : Nat) (h : k < l.length) : (bools (livesS l))[k]? = some (.bool l[k].2) := by simp [bools, livesS, h]

attribute [local go_sem] AllFrom.cons_eq AllFrom.nil_eq putF_nil putF_cons wantedL_none wantedL_some OpGoalT YieldsR preF_nil preF_cons

end Go.Proofs.YtehjfmjibiafdaaGreat
