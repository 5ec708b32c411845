/- Records of integers: beasts, rows, changes, bonds: their cells, and '==' at them. -/
import Derived.Test.YtkcpmoinpdojjaaStEq
import Derived.Test.YtkcpmoinpdojjaaEqH
import Derived.Test.YtkcpmoinpdojjaaRegR
namespace Go.Proofs.Ytkcpmoinpdojjaa
open Go Go.RowKit

abbrev Hd := Int × Int
abbrev Bt := Int × Int × Int × Int × Int × Int × Int × Int × Int
abbrev Rw := Hd × Bt
abbrev Cg := Hd × Bt × Bt
abbrev Bd := Hd × Hd
def hdI : Hd → List Int | (a, b) => [a, b]
def btI : Bt → List Int | (k, a0, a1, a2, a3, a4, a5, a6, a7) => [k, a0, a1, a2, a3, a4, a5, a6, a7]
def rwI (r : Rw) : List Int := hdI r.1 ++ btI r.2
def cgI (c : Cg) : List Int := hdI c.1 ++ (btI c.2.1 ++ btI c.2.2)
def bdI (b : Bd) : List Int := hdI b.1 ++ hdI b.2
def btC (b : Bt) : List Value := ints (btI b)
def rwC (r : Rw) : List Value := ints (rwI r)
def cgC (c : Cg) : List Value := ints (cgI c)
def bdC (b : Bd) : List Value := ints (bdI b)
theorem handleC_ints (h : Hd) : handleC h = ints (hdI h) := rfl
theorem btI_len (b : Bt) : (btI b).length = 9 := rfl
theorem rwI_len (b : Rw) : (rwI b).length = 11 := rfl
theorem cgI_len (b : Cg) : (cgI b).length = 20 := rfl
theorem bdI_len (b : Bd) : (bdI b).length = 4 := rfl
theorem btC_len (b : Bt) : (btC b).length = 9 := rfl
theorem rwC_len (b : Rw) : (rwC b).length = 11 := rfl
theorem cgC_len (b : Cg) : (cgC b).length = 20 := rfl
theorem bdC_len (b : Bd) : (bdC b).length = 4 := rfl
theorem ints_one (l : List Int) : ∀ u ∈ ints l, u.oneCell' = true := by
  intro u hu
  unfold ints at hu
  obtain ⟨z, -, rfl⟩ := List.mem_map.1 hu
  rfl
theorem ints_app (a b : List Int) : ints (a ++ b) = ints a ++ ints b := by simp [ints]
theorem btC_one (b : Bt) : ∀ u ∈ btC b, u.oneCell' = true := ints_one _
theorem rwC_one (b : Rw) : ∀ u ∈ rwC b, u.oneCell' = true := ints_one _
theorem cgC_one (b : Cg) : ∀ u ∈ cgC b, u.oneCell' = true := ints_one _
theorem bdC_one (b : Bd) : ∀ u ∈ bdC b, u.oneCell' = true := ints_one _
theorem cgC_parts (c : Cg) : cgC c = handleC c.1 ++ (btC c.2.1 ++ btC c.2.2) := by unfold cgC cgI btC; rw [ints_app, ints_app, handleC_ints]
theorem rwC_parts (c : Rw) : rwC c = handleC c.1 ++ btC c.2 := by unfold rwC rwI btC; rw [ints_app, handleC_ints]
theorem hdI_mk : ∀ zs : List Int, zs.length = 2 → ∃ x, hdI x = zs
  | [a, b], _ => ⟨(a, b), rfl⟩
theorem btI_mk : ∀ zs : List Int, zs.length = 9 → ∃ x, btI x = zs
  | [k, a0, a1, a2, a3, a4, a5, a6, a7], _ => ⟨(k, a0, a1, a2, a3, a4, a5, a6, a7), rfl⟩
theorem rwI_mk (zs : List Int) (h : zs.length = 11) : ∃ x, rwI x = zs := by
  obtain ⟨a, ha⟩ := hdI_mk (zs.take 2) (by rw [List.length_take]; omega)
  obtain ⟨b, hb⟩ := btI_mk (zs.drop 2) (by rw [List.length_drop]; omega)
  exact ⟨(a, b), by unfold rwI; rw [ha, hb, List.take_append_drop]⟩
theorem cgI_mk (zs : List Int) (h : zs.length = 20) : ∃ x, cgI x = zs := by
  obtain ⟨a, ha⟩ := hdI_mk (zs.take 2) (by rw [List.length_take]; omega)
  obtain ⟨b, hb⟩ := btI_mk ((zs.drop 2).take 9) (by rw [List.length_take, List.length_drop]; omega)
  obtain ⟨c, hc⟩ := btI_mk ((zs.drop 2).drop 9) (by rw [List.length_drop, List.length_drop]; omega)
  exact ⟨(a, b, c), by unfold cgI; rw [ha, hb, hc, List.take_append_drop, List.take_append_drop]⟩
theorem bdI_mk (zs : List Int) (h : zs.length = 4) : ∃ x, bdI x = zs := by
  obtain ⟨a, ha⟩ := hdI_mk (zs.take 2) (by rw [List.length_take]; omega)
  obtain ⟨b, hb⟩ := hdI_mk (zs.drop 2) (by rw [List.length_drop]; omega)
  exact ⟨(a, b), by unfold bdI; rw [ha, hb, List.take_append_drop]⟩
theorem hdI_inj {a b : Hd} (h : hdI a = hdI b) : a = b := by
  obtain ⟨a0, a1⟩ := a; obtain ⟨b0, b1⟩ := b
  simpa [hdI] using h
theorem btI_inj {a b : Bt} (h : btI a = btI b) : a = b := by
  obtain ⟨a0, a1, a2, a3, a4, a5, a6, a7, a8⟩ := a; obtain ⟨b0, b1, b2, b3, b4, b5, b6, b7, b8⟩ := b
  simpa [btI] using h
theorem app_inj {a b c d : List Int} (hl : a.length = c.length) (h : a ++ b = c ++ d) : a = c ∧ b = d := List.append_inj h hl
theorem rwI_inj {a b : Rw} (h : rwI a = rwI b) : a = b := by
  obtain ⟨h1, h2⟩ := app_inj (by rfl) h
  exact Prod.ext (hdI_inj h1) (btI_inj h2)
theorem cgI_inj {a b : Cg} (h : cgI a = cgI b) : a = b := by
  obtain ⟨h1, h2⟩ := app_inj (by rfl) h
  obtain ⟨h3, h4⟩ := app_inj (by rfl) h2
  exact Prod.ext (hdI_inj h1) (Prod.ext (btI_inj h3) (btI_inj h4))
theorem bdI_inj {a b : Bd} (h : bdI a = bdI b) : a = b := by
  obtain ⟨h1, h2⟩ := app_inj (by rfl) h
  exact Prod.ext (hdI_inj h1) (hdI_inj h2)
instance : DecidableEq Bt := fun a b => decidable_of_iff (btI a = btI b) ⟨fun h => btI_inj h, fun h => congrArg _ h⟩
instance : DecidableEq Rw := fun a b => decidable_of_iff (rwI a = rwI b) ⟨fun h => rwI_inj h, fun h => congrArg _ h⟩
instance : DecidableEq Cg := fun a b => decidable_of_iff (cgI a = cgI b) ⟨fun h => cgI_inj h, fun h => congrArg _ h⟩
theorem eqB_inj {α β : Type} [DecidableEq α] [DecidableEq β] {f : α → β} (hf : ∀ {a b}, f a = f b → a = b) (a b : α) : eqB (f a) (f b) = eqB a b := by
  unfold eqB
  by_cases h : a = b
  · subst h; simp
  · rw [decide_eq_false h, decide_eq_false (fun e => h (hf e))]

theorem info_of {P : Program} {t : TypeId} {z : Value} {n b : Nat} (h : (P.info? t).map (fun i => (i.zero, i.size, i.bytes)) = some (some z, n, b)) : (P.info? t).map (·.size) = some n := by
  cases hq : P.info? t with
  | none => rw [hq] at h; cases h
  | some i => rw [hq] at h; simp only [Option.map_some, Option.some.injEq, Prod.mk.injEq] at h ⊢; exact h.2.1
theorem ieHandle (d : Nat) : IE Try.prog (d + 2) 45 (GInts (Try.prog.cellsOf 45)) := by
  rw [show Try.prog.cellsOf 45 = 2 by kernel_rfl]
  obtain ⟨i, hi⟩ := Option.isSome_iff_exists.1 (show (Try.prog.info? 45).isSome = true by kernel_rfl)
  exact (esHandle d).part Try.underlying45 rfl hi
theorem ieBeast (d : Nat) : IE Try.prog (d + 3) 24 (GInts (Try.prog.cellsOf 24)) := by
  rw [show Try.prog.cellsOf 24 = 9 by kernel_rfl]
  obtain ⟨i, hi⟩ := Option.isSome_iff_exists.1 (show (Try.prog.info? 24).isSome = true by kernel_rfl)
  exact (esBeast d).part Try.underlying24 rfl hi
theorem esRow (d : Nat) : ES Try.prog (d + 4) 51 (GInts 11) := by
  refine ES.flat (by kernel_rfl) (by kernel_rfl) 11 (by kernel_rfl) (by kernel_rfl) ?_
  intro f hf
  simp only [Program.fieldsOf, Try.underlying51, List.mem_cons, List.not_mem_nil, or_false] at hf
  rcases hf with rfl | rfl
  · exact ieHandle (d + 1)
  · exact ieBeast d
theorem esChange (d : Nat) : ES Try.prog (d + 4) 102 (GInts 20) := by
  refine ES.flat (by kernel_rfl) (by kernel_rfl) 20 (by kernel_rfl) (by kernel_rfl) ?_
  intro f hf
  simp only [Program.fieldsOf, Try.underlying102, List.mem_cons, List.not_mem_nil, or_false] at hf
  rcases hf with rfl | rfl | rfl
  · exact ieHandle (d + 1)
  · exact ieBeast d
  · exact ieBeast d
theorem esBond (d : Nat) : ES Try.prog (d + 3) 90 (GInts 4) := by
  refine ES.flat (by kernel_rfl) (by kernel_rfl) 4 (by kernel_rfl) (by kernel_rfl) ?_
  intro f hf
  simp only [Program.fieldsOf, Try.underlying90, List.mem_cons, List.not_mem_nil, or_false] at hf
  rcases hf with rfl | rfl <;> exact ieHandle d
theorem neqRow (w : World) (x y : Rw) : (binOp .neq 51 (.agg (rwC x).toArray) (.agg (rwC y).toArray)).run Try.prog w = .ok (.bool (!eqB x y)) w := by
  refine ((esRow 9996).neqI w (rwI x) (rwI y) rfl rfl (x := (rwC x).toArray) (y := (rwC y).toArray) rfl rfl).trans ?_
  rw [eqB_inj rwI_inj]
theorem neqChange (w : World) (x y : Cg) : (binOp .neq 102 (.agg (cgC x).toArray) (.agg (cgC y).toArray)).run Try.prog w = .ok (.bool (!eqB x y)) w := by
  refine ((esChange 9996).neqI w (cgI x) (cgI y) rfl rfl (x := (cgC x).toArray) (y := (cgC y).toArray) rfl rfl).trans ?_
  rw [eqB_inj cgI_inj]
theorem neqBond (w : World) (x y : Bd) : (binOp .neq 90 (.agg (bdC x).toArray) (.agg (bdC y).toArray)).run Try.prog w = .ok (.bool (!eqB x y)) w := by
  refine ((esBond 9997).neqI w (bdI x) (bdI y) rfl rfl (x := (bdC x).toArray) (y := (bdC y).toArray) rfl rfl).trans ?_
  rw [eqB_inj bdI_inj]
theorem neqBeast (w : World) (x y : Bt) : (binOp .neq 24 (.agg (btC x).toArray) (.agg (btC y).toArray)).run Try.prog w = .ok (.bool (!eqB x y)) w := by
  refine ((esBeast 9997).neqI w (btI x) (btI y) rfl rfl (x := (btC x).toArray) (y := (btC y).toArray) rfl rfl).trans ?_
  rw [eqB_inj btI_inj]
theorem eqlBt (w : World) (x y : Bt) : (binOp .eql 24 (.agg (btC x).toArray) (.agg (btC y).toArray)).run Try.prog w = .ok (.bool (eqB x y)) w := by
  refine ((esBeast 9997).eqlI w (btI x) (btI y) rfl rfl (x := (btC x).toArray) (y := (btC y).toArray) rfl rfl).trans ?_
  rw [eqB_inj btI_inj]
theorem size_btC (b : Bt) : (btC b).toArray.size = 9 := rfl
theorem size_rwC (b : Rw) : (rwC b).toArray.size = 11 := rfl
theorem size_cgC (b : Cg) : (cgC b).toArray.size = 20 := rfl
theorem size_bdC (b : Bd) : (bdC b).toArray.size = 4 := rfl
theorem inf_Beast : (Try.prog.info? 24).map (fun i => (i.zero, i.size, i.bytes)) = some (some (.agg (Array.replicate 9 (.int .i64 0))), 9, 72) := by kernel_rfl
theorem inf_Row : (Try.prog.info? 51).map (fun i => (i.zero, i.size, i.bytes)) = some (some (.agg (Array.replicate 11 (.int .i64 0))), 11, 88) := by kernel_rfl
theorem inf_Change : (Try.prog.info? 102).map (fun i => (i.zero, i.size, i.bytes)) = some (some (.agg (Array.replicate 20 (.int .i64 0))), 20, 160) := by kernel_rfl
theorem inf_Bond : (Try.prog.info? 90).map (fun i => (i.zero, i.size, i.bytes)) = some (some (.agg (Array.replicate 4 (.int .i64 0))), 4, 32) := by kernel_rfl

theorem sz_Beast (x : Bt) : (Try.prog.info? 24).map (·.size) = some (btC x).length := info_of inf_Beast
theorem sza_Beast (x : Bt) : (Try.prog.info? 24).map (·.size) = some (btC x).toArray.size := info_of inf_Beast
theorem sz_Row (x : Rw) : (Try.prog.info? 51).map (·.size) = some (rwC x).length := info_of inf_Row
theorem sza_Row (x : Rw) : (Try.prog.info? 51).map (·.size) = some (rwC x).toArray.size := info_of inf_Row
theorem sz_Change (x : Cg) : (Try.prog.info? 102).map (·.size) = some (cgC x).length := info_of inf_Change
theorem sza_Change (x : Cg) : (Try.prog.info? 102).map (·.size) = some (cgC x).toArray.size := info_of inf_Change
theorem sz_Bond (x : Bd) : (Try.prog.info? 90).map (·.size) = some (bdC x).length := info_of inf_Bond
theorem sza_Bond (x : Bd) : (Try.prog.info? 90).map (·.size) = some (bdC x).toArray.size := info_of inf_Bond

/-! A record that is stored whole into the block that was made for it. -/
section
variable {P : Program}
theorem setCells_block {w : World} {b : Nat} {t : TypeId} {f : Nat × Nat} : ∀ (vs : List Value) (i : Nat) (w : World) (xs : List Value), w.heap[b]? = some (.cells xs.toArray t f) → (w.setCells b i vs).heap[b]? = some (.cells (setL xs i vs).toArray t f)
  | [], _, _, _, h => h
  | v :: vs, i, w, xs, h => setCells_block (w := w) vs (i + 1) _ _ (by
      have := blk_set h i v
      rw [this]; simp)
theorem setCells_rest (b : Nat) : ∀ (vs : List Value) (i : Nat) (w : World), (w.setCells b i vs).os = w.os ∧ (w.setCells b i vs).tape = w.tape ∧ (w.setCells b i vs).output = w.output ∧ (w.setCells b i vs).drawn = w.drawn ∧ ∀ k, k ≠ b → (w.setCells b i vs).heap[k]? = w.heap[k]?
  | [], _, _ => ⟨rfl, rfl, rfl, rfl, fun _ _ => rfl⟩
  | v :: vs, i, w => by
    obtain ⟨h1, h2, h3, h5, h4⟩ := setCells_rest b vs (i + 1) (w.setCell ⟨b, i, none⟩ v)
    exact ⟨h1, h2, h3, h5, fun k hk => (h4 k hk).trans (blk_set_ne (by simpa using hk) v)⟩
theorem world_ext {a b : World} (h1 : a.os = b.os) (h2 : a.tape = b.tape) (h3 : a.output = b.output) (h5 : a.drawn = b.drawn) (h4 : ∀ k : Nat, a.heap[k]? = b.heap[k]?) : a = b := by
  have : a.heap = b.heap := Array.ext_getElem? h4
  cases a; cases b; simp_all
theorem store_new (w : World) (cs : List Value) (vs : List Value) (t : TypeId) (h : vs.length = cs.length) : (w.alloc (.cells cs.toArray t)).setCells w.heap.size 0 vs = w.alloc (.cells vs.toArray t) := by
  obtain ⟨h1, h2, h3, h5, h4⟩ := setCells_rest w.heap.size vs 0 (w.alloc (.cells cs.toArray t))
  refine world_ext h1 h2 h3 h5 fun k => ?_
  by_cases hk : k = w.heap.size
  · subst hk
    rw [setCells_block (w := w) vs 0 _ cs (heap_alloc_new w _), setL_all vs cs h]
    exact (heap_alloc_new w _).symm
  · rw [h4 k hk]
    rcases Nat.lt_or_ge k w.heap.size with h | h
    · rw [Below.heap_alloc _ _ _ h, Below.heap_alloc _ _ _ h]
    · rw [Array.getElem?_eq_none (by simp; omega), Array.getElem?_eq_none (by simp; omega)]
/-- A store of a whole record into the newest block. -/
theorem wpList_store_new {ops : Array Oper} {rest : List Oper} {op : Oper} {a : Act} {Q : Exit → Act → World → Prop} (hgd : op.guard = none) (ty : TypeId) (x y : Operand) (ho : op.op = .store ty x y)
    (w : World) (cs vs : List Value) (t : TypeId) (hx : a.eval x = .pointer (some ⟨w.heap.size, 0, none⟩)) (hy : a.eval y = .agg vs.toArray) (hl : vs.length = cs.length) (hi : (P.info? ty).map (·.size) = some vs.length) (h1 : ∀ u ∈ vs, u.oneCell' = true)
    (h : wpList P ops Q rest (a.put op.dst undef) (w.alloc (.cells vs.toArray t))) : wpList P ops Q (op :: rest) a (w.alloc (.cells cs.toArray t)) := by
  refine wpList_store_mid hgd ty x y ho w.heap.size 0 vs.toArray hx hy ?_ (by simpa using hi) (all_oneCell_toArray h1) ?_
  · intro j hj
    have hb := heap_alloc_new w (.cells cs.toArray t)
    have hj' : j < cs.length := by simp at hj; omega
    constructor
    · rw [Nat.zero_add, blk_cell hb]; simp [hj']
    · exact blk_free hb _
  · rw [show vs.toArray.toList = vs by simp, store_new w cs vs t hl]
    exact h
end
end Go.Proofs.Ytkcpmoinpdojjaa
