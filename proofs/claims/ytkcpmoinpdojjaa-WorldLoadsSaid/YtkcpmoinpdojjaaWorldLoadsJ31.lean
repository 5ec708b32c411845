import Derived.Shelf.SlIterI.Collect
import Derived.Test.YtkcpmoinpdojjaaWorldLoadsJ17
import Derived.Shelf.SlSortCmp.NoneTotal
import Derived.Test.YtkcpmoinpdojjaaWorldLoadsJ3
import Derived.Test.YtkcpmoinpdojjaaWorldLoadsJ25
import Derived.Test.YtkcpmoinpdojjaaWorldLoadsJ2
import Derived.Test.YtkcpmoinpdojjaaWorldLoadsJ20
/- slices.Collect(maps.Keys(m)) at a map with integer keys: the keys, in some order. -/
namespace Go.Proofs.Ytkcpmoinpdojjaa
open Go Go.RowKit Go.Shelf Go.Maps Go.Sort

def keysTab_ren : Go.Shelf.Ren := ⟨fun | 7 => 118 | 10 => 156 | n => n, fun | 23 => 78 | 26 => 3 | 3 => 37 | 28 => 180 | 0 => 0 | 27 => 179 | 33 => 119 | 4 => 4 | n => n, fun | n => n⟩
theorem keysTab : Go.Proofs.SlLaysZI.n7 Try.prog keysTab_ren := {
  mixed := by kernel_rfl,
  f7 := ⟨Try.f118.name, by decide, Try.func118.trans (congrArg some (by kernel_rfl))⟩,
  f10 := ⟨Try.f156.name, by decide, Try.func156.trans (congrArg some (by kernel_rfl))⟩,
  t0 := Try.underlying0,
  a0 := Try.isAgg0,
  z0 := Try.sizeOf0,
  v0 := Try.zeroValue0,
  t4 := Try.underlying4,
  a4 := Try.isAgg4,
  z4 := Try.sizeOf4,
  v4 := Try.zeroValue4,
  t23 := Try.underlying78,
  a23 := Try.isAgg78,
  z23 := Try.sizeOf78,
  v23 := Try.zeroValue78,
  t26 := Try.underlying3,
  a26 := Try.isAgg3,
  z26 := Try.sizeOf3,
  v26 := Try.zeroValue3,
  t27 := Try.underlying179,
  a27 := Try.isAgg179,
  z27 := Try.sizeOf179,
  v27 := Try.zeroValue179,
  t28 := Try.underlying180,
  a28 := Try.isAgg180,
  z28 := Try.sizeOf180,
  v28 := Try.zeroValue180,
  t33 := Try.underlying119,
  a33 := Try.isAgg119,
  z33 := Try.sizeOf119,
  v33 := Try.zeroValue119 }
def collInt_ren : Go.Shelf.Ren := ⟨fun | 8 => 117 | 11 => 155 | n => n, fun | 26 => 3 | 28 => 180 | 24 => 55 | 0 => 0 | 33 => 119 | 4 => 4 | n => n, fun | n => n⟩
theorem collInt : Go.Proofs.SlLaysZI.n8 Try.prog collInt_ren := {
  mixed := by kernel_rfl,
  f8 := ⟨Try.f117.name, by decide, Try.func117.trans (congrArg some (by kernel_rfl))⟩,
  f11 := ⟨Try.f155.name, by decide, Try.func155.trans (congrArg some (by kernel_rfl))⟩,
  t0 := Try.underlying0,
  a0 := Try.isAgg0,
  z0 := Try.sizeOf0,
  v0 := Try.zeroValue0,
  t24 := Try.underlying55,
  a24 := Try.isAgg55,
  z24 := Try.sizeOf55,
  v24 := Try.zeroValue55,
  t26 := Try.underlying3,
  a26 := Try.isAgg3,
  z26 := Try.sizeOf3,
  v26 := Try.zeroValue3,
  t28 := Try.underlying180,
  a28 := Try.isAgg180,
  z28 := Try.sizeOf180,
  v28 := Try.zeroValue180,
  i26 := by kernel_rfl }

/-- A map of one's own as the shelf's contracts read it; what the elements are is left out. -/
def noElem (_ : Value) : Option (DataW Unit × List MemPlace) := some (.nil, [])
def intV (v : Value) : Int := match v with
  | .int _ a => a
  | _ => 0
theorem MapAt.owns {w : World} {b : Nat} {l : List (Nat × Nat)} (h : MapAt Try.prog 3 w b (l.map colPr)) (hl : l.length ≤ maxLen) :
    ∃ D : DataW Unit, w.ownsMap Try.prog 3 noElem b l.length D ∧ (Go.intKeys D).Perm (l.map fun x => (x.1 : Int)) ∧ Maps.size D = l.length := by
  obtain ⟨es, clock, hb, hk⟩ := h
  have hsz : es.size = l.length := by
    have := congrArg List.length hk.prs
    simpa [prs] using this
  have hrg : ∀ x ∈ es.toList, Go.intOf (WideElems.rg Try.prog 3 noElem x).1 = intV x.key := by
    intro x hx
    obtain ⟨kl, hkl⟩ := hk.keys x hx
    obtain ⟨z, h1, h2, -⟩ := Maps.keyOf_i64 Try.underlying3 hkl
    rw [WideElems.rg_of (WideElems.rd_mk (born := x.born) hkl rfl), h2, h1]
    rfl
  refine ⟨_, ⟨es, clock, hb, ⟨by omega, hk.st, fun x hx => ?_⟩, by omega, rfl⟩, ?_, ?_⟩
  · obtain ⟨kl, hkl⟩ := hk.keys x hx
    exact ⟨_, WideElems.rd_mk (born := x.born) hkl rfl⟩
  · show (((es.toList.map (WideElems.rg Try.prog 3 noElem)).foldr DataW.insert []).map fun p => Go.intOf p.1).Perm _
    refine ((WideShapes.sorted_perm _).map _).trans ?_
    generalize WideElems.rg Try.prog 3 noElem = f at hrg ⊢
    rw [List.map_map]
    have e1 : es.toList.map ((fun p => Go.intOf p.1) ∘ f) = (es.toList.map (fun e => (e.key, e.val))).map (fun p => intV p.1) := by
      rw [List.map_map]
      exact List.map_congr_left fun x hx => hrg x hx
    have e2 : es.toList.map (fun e => (e.key, e.val)) = l.map colPr := hk.prs
    rw [e1, e2, List.map_map]
    exact .refl _
  · show ((es.toList.map (WideElems.rg Try.prog 3 noElem)).foldr DataW.insert []).length = l.length
    rw [(WideShapes.sorted_perm _).length_eq, List.length_map]
    simpa using hsz

/-- What Collect(Keys(m)) gives. -/
def KeysPost (B : Nat) (l : List (Nat × Nat)) (w : World) (e : Ending) (w' : World) : Prop :=
  ∃ (v : Value) (ss : List Int), e = .returned v ∧ ss.Perm (l.map fun x => (x.1 : Int)) ∧ w'.ownsRow B 3 1 v ss.length (ints ss) ∧ Below w.heap.size w w'
section
variable {w : World} {b : Nat} {l : List (Nat × Nat)}
set_option maxRecDepth 100000 in
theorem keys_any (w : World) (b : Nat) : Calls Try.prog 118 #[.map (some b)] w fun e w' => e = .returned (.func (.func 156) #[] #[.pointer (some ⟨w.heap.size, 0, none⟩)]) ∧ w' = w.alloc (.cells #[.map (some b)] 78) :=
  (callsIn_wide (n := 5)).1 (AnyZI.keys_in keysTab Fence.wide 5 trivial rfl (some b) w)
set_option maxRecDepth 100000 in
theorem coll_any (h : MapAt Try.prog 3 w b (l.map colPr)) (hl : l.length ≤ 1000) :
    Calls Try.prog 117 #[.func (.func 156) #[] #[.pointer (some ⟨w.heap.size, 0, none⟩)]] (w.alloc (.cells #[.map (some b)] 78)) (KeysPost w.heap.size l (w.alloc (.cells #[.map (some b)] 78))) := by
  obtain ⟨D, hD, hp, hs⟩ := h.owns (by unfold maxLen; omega)
  have hbl := hD.lt
  have hseq : SeqGives Fence.wide 4 Try.prog 156 #[.pointer (some ⟨w.heap.size, 0, none⟩)] encZ (fun ss => ss.Perm (Go.intKeys D)) (Maps.size D) (w.alloc (.cells #[.map (some b)] 78)) :=
    AnyZI.keys_gives (ρ := keysTab_ren) { keysTab with } Fence.wide _ trivial rfl (by omega) w.heap.size b l.length D _ (by simp) (by simp) (by
      obtain ⟨es, clock, hb, Ft, hs, hD⟩ := hD
      exact ⟨es, clock, (Below.heap_alloc _ _ b hbl).trans hb, Ft, hs, hD⟩)
  have hc := AnyZI.collect_in collInt Fence.wide 6 trivial trivial rfl (by omega) 156 #[.pointer (some ⟨w.heap.size, 0, none⟩)] trivial (enters_of Try.func156 (by kernel_rfl) rfl) _ _ (by rw [hs]; unfold maxLen; omega) (by rw [hs]; omega) _ hseq
  refine ((callsIn_wide (n := 6)).1 hc).mono ?_
  rintro e w' ⟨v, ss, rfl, hS, hrow, -, hb⟩
  exact ⟨v, ss, rfl, hS.trans hp, ownsRow_base_a hrow (by simp), hb⟩
end
end Go.Proofs.Ytkcpmoinpdojjaa

/- slices.SortFunc at a row of records of one's own: it is permuted, and sorted. -/
namespace Go.Proofs.Ytkcpmoinpdojjaa
open Go Go.RowKit Go.Shelf Go.Sort

section
variable {α : Type} [Inhabited α] {enc : α → List Value} {k : Nat}
theorem get_bang {l : List α} {i : Nat} (h : i < l.length) : l.toArray[i]! = l[i] := by
  rw [getElem!_pos _ i (by simpa using h)]; simp
theorem flat_bang (hk : ∀ x, (enc x).length = k) (l : List α) (t : Nat) (ht : t < l.length * k) : (l.flatMap enc)[t]? = some (flatK enc k l.toArray)[t]! := by
  have k0 : 0 < k := by rcases Nat.eq_zero_or_pos k with h | h
                        · subst h; simp at ht
                        · exact h
  have hq : t / k < l.length := Nat.div_lt_of_lt_mul (by rw [Nat.mul_comm]; exact ht)
  have hr : t % k < k := Nat.mod_lt _ k0
  rw [get_flatK _ _ _ _ (by simpa using ht), get_bang hq]
  have h1 := flatV_get hk l (t / k) hq (t % k) hr
  rw [show t / k * k + t % k = t by rw [Nat.mul_comm]; exact Nat.div_add_mod t k] at h1
  rw [h1, List.getElem?_eq_getElem (by rw [hk]; exact hr), getElem!_pos _ _ (by rw [hk]; exact hr)]
/-- The row, laid anew with as many records. -/
theorem own_putRowK (hk : ∀ x, (enc x).length = k) {w : World} {B E g cap : Nat} {l l' : List α} (hown : w.ownsRow B E k (.slice (some ⟨g, 0, none⟩) l.length cap) l.length (l.flatMap enc)) (hl : l'.length = l.length) (m : Nat) (os : Array Obj) :
    (sortWorldK enc k w g 0 m l'.toArray os).ownsRow B E k (.slice (some ⟨g, 0, none⟩) l'.length cap) l'.length (l'.flatMap enc) ∧ Mod [g] w (sortWorldK enc k w g 0 m l'.toArray os) := by
  obtain ⟨hx, ⟨h, -⟩ | ⟨g', cap', cur, h, hB, hb, hn, hc, hs, ht⟩⟩ := hown
  · cases h
  simp only [Value.slice.injEq, Option.some.injEq, Addr.mk.injEq, true_and] at h
  obtain ⟨⟨rfl, -⟩, rfl⟩ := h
  have hgl := blk_lt hb
  have hput : (putRowK enc k (Sort.ahead w m) g 0 l'.toArray).heap[g]? = some (.cells (putCells id 0 (flatK enc k l'.toArray) cur) E (0, 0)) := by
    unfold putRowK putRow mapBlock
    show (w.heap.modify g _)[g]? = _
    rw [Array.getElem?_modify, if_pos rfl, hb]
    rfl
  have hsz : (putRowK enc k (Sort.ahead w m) g 0 l'.toArray).heap.size = w.heap.size := by
    unfold putRowK
    rw [size_putRow]
    rfl
  have hmod : Mod [g] w (sortWorldK enc k w g 0 m l'.toArray os) := by
    refine ⟨rfl, rfl, rfl, ?_, fun j hj hn => ?_⟩
    · show _ ≤ ((putRowK enc k (Sort.ahead w m) g 0 l'.toArray).heap ++ os).size
      rw [Array.size_append, hsz]; omega
    · show ((putRowK enc k (Sort.ahead w m) g 0 l'.toArray).heap ++ os)[j]? = _
      rw [Array.getElem?_append_left (by rw [hsz]; exact hj)]
      unfold putRowK putRow mapBlock
      show (w.heap.modify g _)[j]? = _
      rw [Array.getElem?_modify, if_neg (fun e => hn (by simp [e]))]
  have hnk : l.length * k ≤ cap * k := Nat.mul_le_mul_right k hn
  refine ⟨⟨by rw [flatV_length hk], .inr ⟨g, cap, putCells id 0 (flatK enc k l'.toArray) cur, rfl, hB, ?_, by omega, hc, by rw [putCells, Array.size_mapIdx]; exact hs, ?_⟩⟩, hmod⟩
  · show ((putRowK enc k (Sort.ahead w m) g 0 l'.toArray).heap ++ os)[g]? = _
    rw [Array.getElem?_append_left (by rw [hsz]; exact hgl)]
    exact hput
  · apply List.ext_getElem?
    intro t
    rw [List.getElem?_take]
    by_cases h1 : t < l'.length * k
    · rw [if_pos h1, flat_bang hk l' t h1]
      have h2 : t < cur.size := by rw [hs]; rw [hl] at h1; omega
      rw [Array.getElem?_toList, putCells, Array.getElem?_mapIdx, Array.getElem?_eq_getElem h2]
      simp only [Option.map_some, Nat.zero_le, true_and, Nat.zero_add, size_flatK, List.size_toArray, id, Nat.sub_zero]
      rw [if_pos h1]
    · rw [if_neg h1, List.getElem?_eq_none (by rw [flatV_length hk]; omega)]
/-- What the sort leaves of a row. -/
def SortedRow (enc : α → List Value) (k B E : Nat) (lt : α → α → Bool) (l : List α) (v : Value) (w : World) (e : Ending) (w' : World) : Prop :=
  e = .returned (.tuple #[]) ∧ ∃ l' : List α, l'.Perm l ∧ l'.Pairwise (fun x y => lt y x = false) ∧ w'.ownsRow B E k v l'.length (l'.flatMap enc) ∧ Mod v.ownBlock.toList w w'
theorem sort_own {P : Program} {ρ : Ren} (L : SlLaysF0.n6 P ρ) (aE : ∀ w, (isAgg (ρ.t 24)).run P w = .ok true w) (zE : ∀ w, (Go.sizeOf (ρ.t 24)).run P w = .ok k w) (hk : ∀ x, (enc x).length = k) (h1 : ∀ x, ∀ v ∈ enc x, v.oneCell' = true)
    (cf : α → α → Int) (hO : SWO (ltOf cf)) (g : Nat) (eg : ∀ args w, (callFunc g args).run P w = .ok (.enter g args) w)
    (hcmp : ∀ x y W, Calls P g #[.agg (enc x).toArray, .agg (enc y).toArray] W fun e w' => e = .returned (.int .i64 (cf x y)) ∧ ∃ q os, w' = grow (W.drewN q) os)
    {w : World} {B E : Nat} {v : Value} {l : List α} (hown : w.ownsRow B E k v l.length (l.flatMap enc)) (hl : l.length < 4611686018427387904) :
    Calls P (ρ.f 6) #[v, .func (.func g) #[] #[]] w (SortedRow enc k B E (ltOf cf) l v w) := by
  obtain ⟨A, cap, rfl, -, -⟩ := row_slice hown
  by_cases h0 : l.length = 0
  · have hn : l = [] := List.eq_nil_of_length_eq_zero h0
    subst hn
    refine (AnyF.slices_SortFunc_none L A cap _ w).mono ?_
    rintro e w' ⟨rfl, rfl⟩
    exact ⟨rfl, [], .refl _, .nil, hown, Mod.refl _ _⟩
  · obtain ⟨g0, cap0, cur, hv, hB, hb, hn, hc, hs, ht⟩ := row_some hown (by omega)
    simp only [Value.slice.injEq, true_and] at hv
    obtain ⟨rfl, rfl⟩ := hv
    have hH : HoldsK enc k w g0 0 l.toArray := by
      intro j hj
      rw [size_flatK, List.size_toArray] at hj
      have := flat_bang hk l j hj
      refine ⟨?_, ?_⟩
      · rw [Nat.zero_add]; exact row_cell hown this
      · rw [Nat.zero_add]; exact row_free hown j
    have hcon := AnyQ.slices_SortFunc L k aE zE enc hk h1 cf hO g #[] g0 0 cap l.toArray w eg (fun m os dk _ x y => by simpa using hcmp x y _) hH (blk_lt hb) (by simpa using hl)
    rw [List.size_toArray] at hcon
    refine hcon.mono ?_
    rintro e w' ⟨rfl, d', n, os, hp, hsd, rfl⟩
    obtain ⟨hp1, -, hp3⟩ := hp
    rw [List.size_toArray] at hp1
    have e1 : d' = d'.toList.toArray := by simp
    have hlen : d'.toList.length = l.length := by simpa using hp1
    obtain ⟨h3, h4⟩ := own_putRowK (l' := d'.toList) hk hown hlen n os
    rw [← e1] at h3 h4
    refine ⟨rfl, d'.toList, ?_, ?_, ?_, ?_⟩
    · have hp2 : d'.size = l.length := by simpa using hp1
      have a1 : (d'.extract 0 l.length) = d' := by rw [← hp2]; exact Array.extract_size
      have a2 : (l.toArray.extract 0 l.length) = l.toArray := by
        have : l.toArray.size = l.length := by simp
        rw [← this]; exact Array.extract_size
      rw [a1, a2] at hp3
      exact hp3
    · refine List.pairwise_iff_getElem.2 fun i j hi hj hij => ?_
      have := hsd i j (Nat.zero_le _) hij (by rw [hlen] at hj; exact hj)
      rw [getElem!_pos d' i (by simpa using hi), getElem!_pos d' j (by simpa using hj)] at this
      simpa using this
    · rw [hlen] at h3 ⊢; exact h3
    · exact h4
end
end Go.Proofs.Ytkcpmoinpdojjaa

/- The reference's zoo: Rows: those that match a query. (printed by mk_zrows.py) -/
namespace Go.Proofs.Ytkcpmoinpdojjaa
open Go Go.RowKit
variable {vB : Value}

attribute [local go_sem] AllFrom.cons_eq AllFrom.nil_eq putF_nil putF_cons wantedL_none wantedL_some OpGoalT OpGoalV OpGoalQ YieldsR preF_nil preF_cons

/-- The rows that match. -/
def rowsM (L : List Rw) (n t a : Int) : List Rw := L.filter (fun x => matchesB x.2.1 n t a)

set_option maxRecDepth 20000 in
set_option maxHeartbeats 2000000 in
theorem rows1_any (s1 g1 K a0 a1 a2 a3 a4 a5 a6 a7 n t a : Int) (hn : InR n) (b : Nat) (w : World) (h0 : w.heap[b]? = some (.cells #[.int .i64 n, .int .i64 t, .int .i64 a] 26 (0, 0))) :
    Calls Try.prog 123 #[.agg #[.int .i64 s1, .int .i64 g1, .int .i64 K, .int .i64 a0, .int .i64 a1, .int .i64 a2, .int .i64 a3, .int .i64 a4, .int .i64 a5, .int .i64 a6, .int .i64 a7], .pointer (some ⟨b, 0, none⟩)] w (fun e w' => e = .returned (.bool (!matchesB K n t a)) ∧ Below w.heap.size w w') := by
  have H1 := Lib.hid (refMatches_any K n t a hn)
  obtain ⟨w0, hw0, hb0, hz0, hs0⟩ := box1 w (.cells #[.int .i64 s1, .int .i64 g1, .int .i64 K, .int .i64 a0, .int .i64 a1, .int .i64 a2, .int .i64 a3, .int .i64 a4, .int .i64 a5, .int .i64 a6, .int .i64 a7] 51)
  have hq0 := (Mod.ofBelow hb0).keep h0 (by simp)
  have r0 := blk_cell hz0 0
  have r1 := blk_cell hz0 1
  have r2 := blk_cell hz0 2
  have r3 := blk_cell hz0 3
  have r4 := blk_cell hz0 4
  have r5 := blk_cell hz0 5
  have r6 := blk_cell hz0 6
  have r7 := blk_cell hz0 7
  have r8 := blk_cell hz0 8
  have r9 := blk_cell hz0 9
  have r10 := blk_cell hz0 10
  simp only [List.getElem?_toArray, List.getElem?_cons_zero, List.getElem?_cons_succ] at r0 r1 r2 r3 r4 r5 r6 r7 r8 r9 r10
  have rl := blk_lt hz0
  have q0 := blk_cell hq0 0
  have q1 := blk_cell hq0 1
  have q2 := blk_cell hq0 2
  simp only [List.getElem?_toArray, List.getElem?_cons_zero, List.getElem?_cons_succ] at q0 q1 q2
  have ql := blk_lt hq0
  generalize matchesB K n t a = z at *
  have Hb0 := Lib.hid hb0
  clear hb0
  clear hz0 hq0 h0 hs0
  go_enter Try.func123, Try.ntmps123
  go_wp2_with fail
  refine (H1.out _).mono ?_
  rintro e w1 ⟨rfl, hb1⟩
  have hB := Hb0.out.trans (hb1.mono Hb0.out.size)
  have HB := Lib.hid hB
  clear hB
  clear hb1
  go_wp2
  go_ret
  exact ⟨rfl, HB.out⟩

set_option maxRecDepth 20000 in
set_option maxHeartbeats 4000000 in
theorem withoutQ_any {w : World} {L : List Rw} {A : Option Addr} {cap : Nat} (hrow : w.ownsRow 0 51 11 (.slice A L.length cap) L.length (L.flatMap rwC)) (hl : L.length ≤ 1200000000000) (n t a : Int) (hn : InR n) (b : Nat) (h0 : w.heap[b]? = some (.cells #[.int .i64 n, .int .i64 t, .int .i64 a] 26 (0, 0))) :
    Calls Try.prog 115 #[.slice A L.length cap, .func (.func 123) #[] #[.pointer (some ⟨b, 0, none⟩)]] w (MadeR 51 11 rwC (rowsM L n t a) w) := by
  have hle : L.length ≤ 9223372036854775807 := by omega
  have hbl := blk_lt h0
  have HLL := Lib.hid hl
  have HN := Lib.hid hn
  clear hl hn
  go_enter Try.func115, Try.ntmps115
  go_wp2
  go_loopw [5, 10] (fun v i wr => ∃ m : Nat, m ≤ L.length ∧ i = .int .i64 m ∧ wr.ownsRow w.heap.size 51 11 v (rowsM (L.take m) n t a).length ((rowsM (L.take m) n t a).flatMap rwC) ∧ Below w.heap.size w wr) (fun _ i _ => L.length - (intOf i).toNat)
  case atStart => exact ⟨0, by omega, rfl, ⟨rfl, .inl ⟨rfl, rfl⟩⟩, Below.refl _ _⟩
  case round =>
    obtain ⟨m, hm, rfl, hown, hbel⟩ := hrel
    have hsz := hbel.size
    by_cases hlt : m < L.length
    · have hro : wr.ownsRow 0 51 11 (.slice A L.length cap) L.length (L.flatMap rwC) := row_mod hrow (Mod.ofBelow hbel) (by simp)
      obtain ⟨g0, cap0, cur0, hv, -, -, -⟩ := row_some hro (by omega)
      cases hv
      have hpc := row_piece rwC_len hro hlt 0 (rwC L[m]) (fun j u hu => by rw [Nat.zero_add]; exact hu)
      have hst : rowsM (L.take (m + 1)) n t a = rowsM (L.take m) n t a ++ (if matchesB L[m].2.1 n t a = true then [L[m]] else []) := by
        unfold rowsM
        rw [take_succ_get L m hlt, List.filter_append, List.filter_cons]
        by_cases e : matchesB L[m].2.1 n t a = true <;> simp [e]
      have hlen : (rowsM (L.take m) n t a).length ≤ m := by
        have h1 : (rowsM (L.take m) n t a).length ≤ (L.take m).length := List.length_filter_le _ _
        rw [List.length_take] at h1; omega
      have hg0 := row_lt hro g0 rfl
      have hni : (m : Int) < (L.length : Int) := by omega
      generalize rowsM (L.take m) n t a = M at *
      obtain ⟨x, hx⟩ : ∃ x, L[m] = x := ⟨_, rfl⟩
      rw [hx] at hpc hst
      obtain ⟨⟨s1, g1⟩, K, a0, a1, a2, a3, a4, a5, a6, a7⟩ := x
      have hbz := (Mod.ofBelow hbel).keep h0 (by simp)
      obtain ⟨w3, hw3, hb3, hz3, hs3⟩ := box1 wr (.cells #[.int .i64 s1, .int .i64 g1, .int .i64 K, .int .i64 a0, .int .i64 a1, .int .i64 a2, .int .i64 a3, .int .i64 a4, .int .i64 a5, .int .i64 a6, .int .i64 a7] 51)
      have hO3 := hown.alloc (.cells #[.int .i64 s1, .int .i64 g1, .int .i64 K, .int .i64 a0, .int .i64 a1, .int .i64 a2, .int .i64 a3, .int .i64 a4, .int .i64 a5, .int .i64 a6, .int .i64 a7] 51)
      rw [hw3] at hO3
      have hb03 := hbel.trans (hb3.mono hsz)
      have hbz3 := (Mod.ofBelow hb3).keep hbz (by simp)
      have hk1 := rows1_any s1 g1 K a0 a1 a2 a3 a4 a5 a6 a7 n t a HN.out b w3 hbz3
      simp only at hst
      generalize matchesB K n t a = z at *
      have hl3 : wr.heap.size < w3.heap.size := by omega
      have r0 := blk_cell hz3 0
      have r1 := blk_cell hz3 1
      have r2 := blk_cell hz3 2
      have r3 := blk_cell hz3 3
      have r4 := blk_cell hz3 4
      have r5 := blk_cell hz3 5
      have r6 := blk_cell hz3 6
      have r7 := blk_cell hz3 7
      have r8 := blk_cell hz3 8
      have r9 := blk_cell hz3 9
      have r10 := blk_cell hz3 10
      simp only [List.getElem?_toArray, List.getElem?_cons_zero, List.getElem?_cons_succ] at r0 r1 r2 r3 r4 r5 r6 r7 r8 r9 r10
      have rl := blk_lt hz3
      have HP := Lib.hid hpc; have Hst := Lib.hid hst; have Hlen := Lib.hid hlen; have Hown := Lib.hid hown; have Hbel := Lib.hid hbel; have HO3 := Lib.hid hO3; have Hb03 := Lib.hid hb03; have Hk := Lib.hid hk1; have Hs3 := Lib.hid hs3; have Hz3 := Lib.hid hz3; have Hw3 := Lib.hid hw3; have H0 := Lib.hid h0; have Hrow := Lib.hid hrow
      clear hpc hst hlen hown hbel hO3 hb03 hk1 hs3 hz3 hw3 h0 hrow
      clear hro hx hbz hbz3 hb3
      have HO := Lib.hid (rwC_one ((s1, g1), K, a0, a1, a2, a3, a4, a5, a6, a7))
      go_wp2_with (first | (refine wpList_load_flat rfl 51 (.tmp 12) rfl _ rfl [.int .i64 s1, .int .i64 g1, .int .i64 K, .int .i64 a0, .int .i64 a1, .int .i64 a2, .int .i64 a3, .int .i64 a4, .int .i64 a5, .int .i64 a6, .int .i64 a7] _ Try.underlying51 rfl (by kernel_rfl) HP.out ?_) | (refine wpList_store_new rfl 51 (.tmp 7) (.tmp 13) rfl wr (ints zero11) [.int .i64 s1, .int .i64 g1, .int .i64 K, .int .i64 a0, .int .i64 a1, .int .i64 a2, .int .i64 a3, .int .i64 a4, .int .i64 a5, .int .i64 a6, .int .i64 a7] 51 rfl rfl rfl (sz_Row ((s1, g1), K, a0, a1, a2, a3, a4, a5, a6, a7)) HO.out ?_; rw [show ([.int .i64 s1, .int .i64 g1, .int .i64 K, .int .i64 a0, .int .i64 a1, .int .i64 a2, .int .i64 a3, .int .i64 a4, .int .i64 a5, .int .i64 a6, .int .i64 a7] : List Value).toArray = #[.int .i64 s1, .int .i64 g1, .int .i64 K, .int .i64 a0, .int .i64 a1, .int .i64 a2, .int .i64 a3, .int .i64 a4, .int .i64 a5, .int .i64 a6, .int .i64 a7] from rfl, Hw3.out]; clear HO))
      refine Hk.out.mono ?_
      rintro e w4 ⟨rfl, hb4⟩
      have hz4 := (Mod.ofBelow hb4).keep Hz3.out (by simp)
      have hs4 := hb4.size
      have hs3 := Hs3.out
      have hO4 := row_mod HO3.out (Mod.ofBelow hb4) (by simp)
      have hb04 := Hb03.out.trans (hb4.mono Hb03.out.size)
      have hbs := Hb03.out.size
      cases z with
      | false =>
        have hst := Hst.out
        rw [if_neg (by simp), List.append_nil] at hst
        have Hst2 := Lib.hid hst; have HO4 := Lib.hid hO4; have Hbel4 := Lib.hid hb04; have Hz4 := Lib.hid hz4; have Hs4 := Lib.hid hs4; have Hbs := Lib.hid hbs
        clear hst hO4 hb04 hz4 hs4 hbs
        clear hs3 hb4 r0 r1 r2 r3 r4 r5 r6 r7 r8 r9 r10 rl
        go_wp2
        go_roundw
        case rel => exact ⟨m + 1, by omega, by go_num, by rw [Hst2.out]; exact HO4.out, Hbel4.out⟩
        case measure => simp [intOf]; omega
      | true =>
        have hst := Hst.out
        rw [if_pos rfl] at hst
        clear r0 r1 r2 r3 r4 r5 r6 r7 r8 r9 r10 rl
        have r0 := blk_cell hz4 0
        have r1 := blk_cell hz4 1
        have r2 := blk_cell hz4 2
        have r3 := blk_cell hz4 3
        have r4 := blk_cell hz4 4
        have r5 := blk_cell hz4 5
        have r6 := blk_cell hz4 6
        have r7 := blk_cell hz4 7
        have r8 := blk_cell hz4 8
        have r9 := blk_cell hz4 9
        have r10 := blk_cell hz4 10
        simp only [List.getElem?_toArray, List.getElem?_cons_zero, List.getElem?_cons_succ] at r0 r1 r2 r3 r4 r5 r6 r7 r8 r9 r10
        have rl := blk_lt hz4
        have Hst2 := Lib.hid hst; have Hown4 := Lib.hid hO4; have Hbel4 := Lib.hid hb04; have Hs4 := Lib.hid hs4; have Hbs := Lib.hid hbs
        clear hst hO4 hb04 hs4 hbs
        clear hb4 hz4 hs3
        go_wp2_with (at_builtin; (refine app_row rfl _ _ rfl w.heap.size _ M ((s1, g1), K, a0, a1, a2, a3, a4, a5, a6, a7) ⟨w4.heap.size, 0, none⟩ 1 rfl (Hown4.out.alloc _) rfl (new_rec (by simp) rfl) (by have := HLL.out; have := Hlen.out; omega) (by have := Hbel4.out.size; simp; omega) ?_); intro v' w5 hown5 hb5)
        go_roundw
        case rel => exact ⟨m + 1, by omega, by go_num, by rw [Hst2.out]; exact hown5, (Hbel4.out.alloc Hbel4.out.size _).trans hb5⟩
        case measure => simp [intOf]; omega
    · obtain rfl : m = L.length := by omega
      rw [List.take_length] at hown
      have Hown := Lib.hid hown; have Hbel := Lib.hid hbel
      clear hown hbel
      clear hrow h0
      go_wp2
      go_ret
      exact ⟨_, rfl, Hown.out, Hbel.out⟩
/-- What Rows returns: a slice of one's own, or nil and an error. -/
def RowsPost (B : Nat) (L : List Rw) (n t a : Int) (w : World) (e : Ending) (w' : World) : Prop :=
  ∃ v, e = .returned (.tuple #[v, .int .i64 (qcheck n t a)]) ∧ w'.ownsRow B 51 11 v (if qcheck n t a = 0 then rowsM L n t a else []).length ((if qcheck n t a = 0 then rowsM L n t a else []).flatMap rwC) ∧ Below w.heap.size w w'
set_option maxRecDepth 20000 in
set_option maxHeartbeats 4000000 in
theorem zrows_any {w : World} {q : Nat} {sl : Sl} {L : List Rw} {F : List Nat} (h : RepZ vB w q sl L F) (hl : L.length ≤ 60) (n t a : Int) (hn : InR n) :
    Calls Try.prog 57 #[.pointer (some ⟨q, 0, none⟩), .agg #[.int .i64 n, .int .i64 t, .int .i64 a]] w (RowsPost w.heap.size L n t a w) := by
  obtain ⟨w0, hw0, hb0, hz0, hs0⟩ := box1 w (.cells #[.int .i64 n, .int .i64 t, .int .i64 a] 26)
  have H1 := Lib.hid (queryCheck_any n t a)
  have h0 := h.below hb0
  have r0 := blk_cell hz0 0
  have r1 := blk_cell hz0 1
  have r2 := blk_cell hz0 2
  simp only [List.getElem?_toArray, List.getElem?_cons_zero, List.getElem?_cons_succ] at r0 r1 r2
  have rl := blk_lt hz0
  unfold RowsPost
  cases hz : qcheck n t a == 0 with
  | false =>
    have he : qcheck n t a ≠ 0 := by simpa using hz
    rw [if_neg he]
    have hq : (qcheck n t a != 0) = true := by simpa using he
    generalize qcheck n t a = z at *
    have Hb0 := Lib.hid hb0; have Hs0 := Lib.hid hs0
    clear hb0 hs0
    clear hz0 h0 he h
    go_enter Try.func57, Try.ntmps57
    go_wp2_with fail
    clear hw0
    refine (H1.out _).mono ?_
    rintro e w1 ⟨rfl, hb1⟩
    have hB := Hb0.out.trans (hb1.mono Hb0.out.size)
    have HB := Lib.hid hB
    clear hB
    clear hb1
    go_wp2
    go_ret2
    exact ⟨_, rfl, ⟨rfl, .inl ⟨rfl, rfl⟩⟩, HB.out⟩
  | true =>
    have he : qcheck n t a = 0 := by simpa using hz
    rw [if_pos he]
    simp only [he] at H1
    have hmf : ∀ (fn : Fn) (first cap : Array Value) (w : World), (Instr.makeFunc fn first cap).run Try.prog w = .ok (.func fn first cap) w := fun _ _ _ _ => rfl
    rw [he]
    have Hb0 := Lib.hid hb0; have Hs0 := Lib.hid hs0; have H0 := Lib.hid h0; have Hz0 := Lib.hid hz0
    clear hb0 hs0 h0 hz0
    clear h hz he
    go_enter Try.func57, Try.ntmps57
    go_wp2_with fail
    clear hw0
    refine (H1.out _).mono ?_
    rintro e w1 ⟨rfl, hb1⟩
    have hB := Hb0.out.trans (hb1.mono Hb0.out.size)
    have hz1 := (Mod.ofBelow hb1).keep Hz0.out (by simp)
    obtain ⟨vg, vl, A, cap, hq, hrow⟩ := (H0.out.below hb1).open_
    have H2 := Lib.hid (withoutQ_any hrow (by omega) n t a hn w.heap.size hz1)
    have c2 := blk_cell hq 2
    simp only [List.getElem?_toArray, List.getElem?_cons_zero, List.getElem?_cons_succ] at c2
    have hql := blk_lt hq
    have HB := Lib.hid hB
    clear hB
    clear hb1 r0 r1 r2 rl hz1 hq hrow
    go_wp2_with fail
    refine H2.out.mono ?_
    rintro e w2 ⟨v, rfl, hown, hb2⟩
    have hB2 := HB.out.trans (hb2.mono HB.out.size)
    have hown2 := row_base hown (B' := w.heap.size) (fun k hk => by have := (hown.lt k hk).1; have := HB.out.size; omega)
    have HB2 := Lib.hid hB2; have Hown2 := Lib.hid hown2
    clear hB2 hown2
    clear hb2 hown
    go_wp2
    go_ret2
    exact ⟨_, rfl, Hown2.out, HB2.out⟩
end Go.Proofs.Ytkcpmoinpdojjaa

/- Rows of a world: the plain part. (printed by mk_wrows.py) -/
namespace Go.Proofs.Ytkcpmoinpdojjaa
open Go Go.RowKit

/-! The plain part. -/
def rowsK (rw : Nat → List Rw) (n t a : Int) (ks : List Int) : List Rw := ks.flatMap (fun k => if matchesB k n t a = true then rw k.toNat else [])
theorem rowsK_snoc (rw : Nat → List Rw) (n t a : Int) (ks : List Int) (k : Int) : rowsK rw n t a (ks ++ [k]) = rowsK rw n t a ks ++ (if matchesB k n t a = true then rw k.toNat else []) := by
  unfold rowsK; rw [List.flatMap_append]; simp
theorem rowsK_len {rw : Nat → List Rw} {n t a : Int} : ∀ {ks : List Int}, (∀ k ∈ ks, (rw k.toNat).length ≤ 60) → (rowsK rw n t a ks).length ≤ 60 * ks.length
  | [], _ => by simp [rowsK]
  | k :: ks, h => by
    have ih := rowsK_len (n := n) (t := t) (a := a) (fun x hx => h x (List.mem_cons_of_mem _ hx))
    have h1 := h k (by simp)
    unfold rowsK at ih ⊢
    rw [List.flatMap_cons, List.length_append, List.length_cons, Nat.mul_add]
    have h2 : (if matchesB k n t a = true then rw k.toNat else []).length ≤ 60 := by
      split
      · exact h1
      · simp
    omega
section
variable {sl : Sl} {L : List Rw} {tb : List (Nat × Nat)} {rw : Nat → List Rw} {pl : List Pl}
theorem WCore.tabs (hc : WCore (· ∈ L) (tb.map (·.1)) rw pl) (hO : WOk sl L) : (∀ k ∈ tb.map (·.1), k < 256 ∧ (rw k).length ≤ 60) ∧ tb.length ≤ 256 := by
  have h1 : ∀ k ∈ tb.map (·.1), k < 256 ∧ (rw k).length ≤ 60 := by
    intro k hk
    have hl := hc.len (fun _ h => h) hk
    have := hO.len
    refine ⟨?_, by omega⟩
    have hne := hc.ne k hk
    cases hr : rw k with
    | nil => exact absurd hr hne
    | cons x r =>
      obtain ⟨h2, h3, -⟩ := hc.row k hk 0 x (by rw [hr]; rfl)
      exact (beastZ_good (hO.be x h2) h3).2
  refine ⟨h1, ?_⟩
  have h2 : (tb.map (·.1)).length ≤ (List.range 256).length := List.Nodup.length_le_of_subset hc.tn (fun k hk => List.mem_range.2 (h1 k hk).1)
  simpa using h2
theorem rowsK_mem (hc : WCore (· ∈ L) (tb.map (·.1)) rw pl) {ks : List Int} (hp : ks.Perm (tb.map fun x => (x.1 : Int))) (n t a : Int) (y : Rw) : y ∈ rowsK rw n t a ks ↔ y ∈ rowsM L n t a := by
  unfold rowsK rowsM
  rw [List.mem_flatMap, List.mem_filter]
  constructor
  · rintro ⟨k, hk, hy⟩
    split at hy
    · next hm =>
      obtain ⟨x, hx, rfl⟩ := List.mem_map.1 (hp.mem_iff.1 hk)
      rw [Int.toNat_natCast] at hy
      obtain ⟨i, hi⟩ := List.mem_iff_getElem?.1 hy
      obtain ⟨h2, h3, -⟩ := hc.row x.1 (List.mem_map.2 ⟨x, hx, rfl⟩) i y hi
      exact ⟨h2, by rw [h3]; exact hm⟩
    · simp at hy
  · rintro ⟨hy, hm⟩
    obtain ⟨s, k, i, h1, h2, h3⟩ := hc.has y hy
    obtain ⟨hk, -⟩ := hc.pla s k i h2
    obtain ⟨-, h5, -⟩ := hc.row k hk i y h3
    obtain ⟨x, hx, rfl⟩ := List.mem_map.1 hk
    refine ⟨(x.1 : Int), hp.mem_iff.2 (List.mem_map.2 ⟨x, hx, rfl⟩), ?_⟩
    rw [h5] at hm
    rw [if_pos hm, Int.toNat_natCast]
    exact List.mem_of_getElem? h3
theorem rowsK_nodup (hc : WCore (· ∈ L) (tb.map (·.1)) rw pl) {ks : List Int} (hp : ks.Perm (tb.map fun x => (x.1 : Int))) (n t a : Int) : (rowsK rw n t a ks).Nodup := by
  have hin : ∀ k ∈ ks, ∃ x ∈ tb, k = (x.1 : Int) := fun k hk => by
    obtain ⟨x, hx, e⟩ := List.mem_map.1 (hp.mem_iff.1 hk)
    exact ⟨x, hx, e.symm⟩
  have hkn : ks.Nodup := by
    refine List.Nodup.perm ?_ hp.symm
    have := hc.tn
    unfold List.Nodup at this ⊢
    rw [List.pairwise_map] at this ⊢
    exact this.imp (fun h e => h (by omega))
  unfold rowsK List.Nodup
  rw [List.pairwise_flatMap]
  refine ⟨fun k hk => ?_, ?_⟩
  · split
    · obtain ⟨x, hx, rfl⟩ := hin k hk
      rw [Int.toNat_natCast]
      refine List.pairwise_iff_getElem.2 fun i j hi hj hij e => ?_
      have hkt : x.1 ∈ tb.map (·.1) := List.mem_map.2 ⟨x, hx, rfl⟩
      obtain ⟨-, -, s, q1, q2⟩ := hc.row x.1 hkt i _ (List.getElem?_eq_getElem hi)
      obtain ⟨-, -, s', q3, q4⟩ := hc.row x.1 hkt j _ (List.getElem?_eq_getElem hj)
      rw [e] at q1
      have : s = s' := by omega
      subst this
      have := key_one hc.pn q2 q4
      simp only [Prod.mk.injEq] at this
      omega
    · exact .nil
  · refine List.Pairwise.imp_of_mem ?_ hkn
    intro k1 k2 hk1 hk2 hne x hx y hy e
    subst e
    split at hx
    · split at hy
      · obtain ⟨x1, hx1, rfl⟩ := hin k1 hk1
        obtain ⟨x2, hx2, rfl⟩ := hin k2 hk2
        rw [Int.toNat_natCast] at hx hy
        obtain ⟨i, hi⟩ := List.mem_iff_getElem?.1 hx
        obtain ⟨j, hj⟩ := List.mem_iff_getElem?.1 hy
        obtain ⟨-, h3, -⟩ := hc.row x1.1 (List.mem_map.2 ⟨x1, hx1, rfl⟩) i _ hi
        obtain ⟨-, h4, -⟩ := hc.row x2.1 (List.mem_map.2 ⟨x2, hx2, rfl⟩) j _ hj
        exact hne (by omega)
      · simp at hy
    · simp at hx
end
end Go.Proofs.Ytkcpmoinpdojjaa

/- Worlds: Rows: those that match a query, in the order of slots. (printed by mk_wrows.py) -/
namespace Go.Proofs.Ytkcpmoinpdojjaa
open Go Go.RowKit Go.Shelf Go.Sort

attribute [local go_sem] AllFrom.cons_eq AllFrom.nil_eq putF_nil putF_cons wantedL_none wantedL_some OpGoalT OpGoalV OpGoalQ OpGoalA OpGoalK YieldsR preF_nil preF_cons

section
variable {sl : Sl} {L : List Rw} {tb : List (Nat × Nat)} {rw : Nat → List Rw} {pl : List Pl}
theorem ltRow_eq (x y : Rw) : ltOf (fun x y : Rw => Lib.compareInt x.1.1 y.1.1) x y = decide (x.1.1 < y.1.1) := by
  unfold ltOf Lib.compareInt
  by_cases h1 : x.1.1 < y.1.1
  · simp [h1]
  · by_cases h2 : y.1.1 < x.1.1 <;> simp [h1, h2]
theorem swoRow : SWO (ltOf fun x y : Rw => Lib.compareInt x.1.1 y.1.1) where
  irrefl x := by rw [ltRow_eq]; simp
  trans x y z h1 h2 := by rw [ltRow_eq] at *; simp at *; omega
  ntrans x y z h1 h2 := by rw [ltRow_eq] at *; simp at *; omega
theorem rows_sorted (hc : WCore (· ∈ L) (tb.map (·.1)) rw pl) (hO : WOk sl L) {ks : List Int} (hp : ks.Perm (tb.map fun x => (x.1 : Int))) (n t a : Int) {l' : List Rw} (h1 : l'.Perm (rowsK rw n t a ks)) (h2 : l'.Pairwise (fun x y => ltOf (fun x y : Rw => Lib.compareInt x.1.1 y.1.1) y x = false)) : l' = rowsM L n t a := by
  have hs : (rowsM L n t a).Pairwise (fun x y => x.1.1 < y.1.1) := List.Pairwise.sublist List.filter_sublist hO.sorted
  have hn : (rowsM L n t a).Nodup := hs.imp (fun h e => by rw [e] at h; omega)
  have h3 : l'.Perm (rowsM L n t a) := h1.trans ((List.perm_ext_iff_of_nodup (rowsK_nodup hc hp n t a) hn).2 (rowsK_mem hc hp n t a))
  refine List.Perm.eq_of_pairwise (le := fun x y : Rw => x.1.1 ≤ y.1.1) (fun x y hx hy e1 e2 => ?_) (h2.imp (fun h => by rw [ltRow_eq] at h; simpa using h)) (hs.imp (fun h => by omega)) h3
  have hx2 := (List.mem_filter.1 (h3.mem_iff.1 hx)).1
  have hy2 := (List.mem_filter.1 hy).1
  exact hO.one hx2 hy2 (by omega)
end

/-! The order of rows. -/
set_option maxRecDepth 20000 in
theorem compare_any (x y : Int) (w : World) : Calls Try.prog 122 #[.int .i64 x, .int .i64 y] w fun e w' => e = .returned (.int .i64 (Lib.compareInt x y)) ∧ w = w' := by
  unfold Lib.compareInt
  by_cases h1 : x < y
  · rw [if_pos h1]
    go_enter Try.func122, Try.ntmps122
    go_wp2
    go_ret
    exact ⟨rfl, rfl⟩
  · rw [if_neg h1]
    by_cases h2 : y < x
    · rw [if_pos h2]
      go_enter Try.func122, Try.ntmps122
      go_wp2
      go_ret
      exact ⟨rfl, rfl⟩
    · rw [if_neg h2]
      go_enter Try.func122, Try.ntmps122
      go_wp2
      go_ret
      exact ⟨rfl, rfl⟩
set_option maxRecDepth 20000 in
set_option maxHeartbeats 2000000 in
theorem cmpRow_any (x y : Rw) (W : World) : Calls Try.prog 121 #[.agg (rwC x).toArray, .agg (rwC y).toArray] W fun e w' => e = .returned (.int .i64 (Lib.compareInt x.1.1 y.1.1)) ∧ ∃ q os, w' = grow (W.drewN q) os := by
  obtain ⟨⟨s1, g1⟩, K1, a0, a1, a2, a3, a4, a5, a6, a7⟩ := x
  obtain ⟨⟨s2, g2⟩, K2, c0, c1, c2, c3, c4, c5, c6, c7⟩ := y
  have hcon := compare_any s1 s2
  simp only
  generalize Lib.compareInt s1 s2 = r at hcon ⊢
  show Calls Try.prog 121 #[.agg #[.int .i64 s1, .int .i64 g1, .int .i64 K1, .int .i64 a0, .int .i64 a1, .int .i64 a2, .int .i64 a3, .int .i64 a4, .int .i64 a5, .int .i64 a6, .int .i64 a7], .agg #[.int .i64 s2, .int .i64 g2, .int .i64 K2, .int .i64 c0, .int .i64 c1, .int .i64 c2, .int .i64 c3, .int .i64 c4, .int .i64 c5, .int .i64 c6, .int .i64 c7]] W _
  have HC := Lib.hid hcon
  clear hcon
  go_enter Try.func121, Try.ntmps121
  go_wp2_with fail
  refine (HC.out _).mono ?_
  rintro e w' ⟨rfl, rfl⟩
  go_wp2
  go_ret
  exact ⟨rfl, 0, _, by rw [alloc_eq_grow, alloc_eq_grow, grow_grow]; rfl⟩

def sortRowL_ren : Go.Shelf.Ren := ⟨fun | 6 => 120 | 15 => 147 | 14 => 157 | 28 => 176 | 29 => 177 | 20 => 187 | 21 => 188 | 22 => 189 | 23 => 190 | 24 => 191 | 25 => 192 | 26 => 193 | 27 => 194 | 46 => 206 | 47 => 199 | 48 => 200 | 49 => 207 | 50 => 208 | 57 => 211 | n => n, fun | 22 => 41 | 24 => 51 | 25 => 184 | 3 => 3 | 39 => 203 | 0 => 0 | 53 => 227 | 55 => 215 | 4 => 4 | 46 => 220 | 45 => 219 | 50 => 224 | 5 => 5 | 9 => 9 | 66 => 242 | 70 => 246 | 76 => 252 | 77 => 253 | n => n, fun | n => n⟩
theorem sortRowL : Go.Proofs.SlLaysF0.n6 Try.prog sortRowL_ren := {
  mixed := by kernel_rfl,
  f6 := ⟨Try.f120.name, by decide, Try.func120.trans (congrArg some (by kernel_rfl))⟩,
  f14 := ⟨Try.f157.name, by decide, Try.func157.trans (congrArg some (by kernel_rfl))⟩,
  f15 := Try.func147.trans (congrArg some (by kernel_rfl)),
  f20 := ⟨Try.f187.name, by decide, Try.func187.trans (congrArg some (by kernel_rfl))⟩,
  f21 := ⟨Try.f188.name, by decide, Try.func188.trans (congrArg some (by kernel_rfl))⟩,
  f22 := ⟨Try.f189.name, by decide, Try.func189.trans (congrArg some (by kernel_rfl))⟩,
  f23 := ⟨Try.f190.name, by decide, Try.func190.trans (congrArg some (by kernel_rfl))⟩,
  f24 := ⟨Try.f191.name, by decide, Try.func191.trans (congrArg some (by kernel_rfl))⟩,
  f25 := ⟨Try.f192.name, by decide, Try.func192.trans (congrArg some (by kernel_rfl))⟩,
  f26 := ⟨Try.f193.name, by decide, Try.func193.trans (congrArg some (by kernel_rfl))⟩,
  f27 := ⟨Try.f194.name, by decide, Try.func194.trans (congrArg some (by kernel_rfl))⟩,
  f28 := Try.func176.trans (congrArg some (by kernel_rfl)),
  f29 := Try.func177.trans (congrArg some (by kernel_rfl)),
  f46 := ⟨Try.f206.name, by decide, Try.func206.trans (congrArg some (by kernel_rfl))⟩,
  f47 := Try.func199.trans (congrArg some (by kernel_rfl)),
  f48 := Try.func200.trans (congrArg some (by kernel_rfl)),
  f49 := ⟨Try.f207.name, by decide, Try.func207.trans (congrArg some (by kernel_rfl))⟩,
  f50 := ⟨Try.f208.name, by decide, Try.func208.trans (congrArg some (by kernel_rfl))⟩,
  f57 := ⟨Try.f211.name, by decide, Try.func211.trans (congrArg some (by kernel_rfl))⟩,
  t0 := Try.underlying0,
  a0 := Try.isAgg0,
  z0 := Try.sizeOf0,
  v0 := Try.zeroValue0,
  t3 := Try.underlying3,
  a3 := Try.isAgg3,
  z3 := Try.sizeOf3,
  v3 := Try.zeroValue3,
  t4 := Try.underlying4,
  a4 := Try.isAgg4,
  z4 := Try.sizeOf4,
  v4 := Try.zeroValue4,
  t5 := Try.underlying5,
  a5 := Try.isAgg5,
  z5 := Try.sizeOf5,
  v5 := Try.zeroValue5,
  t9 := Try.underlying9,
  a9 := Try.isAgg9,
  z9 := Try.sizeOf9,
  v9 := Try.zeroValue9,
  t22 := Try.underlying41,
  a22 := Try.isAgg41,
  z22 := Try.sizeOf41,
  v22 := Try.zeroValue41,
  t25 := Try.underlying184,
  a25 := Try.isAgg184,
  z25 := Try.sizeOf184,
  v25 := Try.zeroValue184,
  t39 := Try.underlying203,
  a39 := Try.isAgg203,
  z39 := Try.sizeOf203,
  v39 := Try.zeroValue203,
  t45 := Try.underlying219,
  a45 := Try.isAgg219,
  z45 := Try.sizeOf219,
  v45 := Try.zeroValue219,
  t46 := Try.underlying220,
  a46 := Try.isAgg220,
  z46 := Try.sizeOf220,
  v46 := Try.zeroValue220,
  t50 := Try.underlying224,
  a50 := Try.isAgg224,
  z50 := Try.sizeOf224,
  v50 := Try.zeroValue224,
  t53 := Try.underlying227,
  a53 := Try.isAgg227,
  z53 := Try.sizeOf227,
  v53 := Try.zeroValue227,
  t55 := Try.underlying215,
  a55 := Try.isAgg215,
  z55 := Try.sizeOf215,
  v55 := Try.zeroValue215,
  t66 := Try.underlying242,
  a66 := Try.isAgg242,
  z66 := Try.sizeOf242,
  v66 := Try.zeroValue242,
  t70 := Try.underlying246,
  a70 := Try.isAgg246,
  z70 := Try.sizeOf246,
  v70 := Try.zeroValue246,
  t76 := Try.underlying252,
  a76 := Try.isAgg252,
  z76 := Try.sizeOf252,
  v76 := Try.zeroValue252,
  t77 := Try.underlying253,
  a77 := Try.isAgg253,
  z77 := Try.sizeOf253,
  v77 := Try.zeroValue253 }

theorem sortRows_any {w : World} {B : Nat} {v : Value} {l : List Rw} (hown : w.ownsRow B 51 11 v l.length (l.flatMap rwC)) (hl : l.length < 1200000000000) :
    Calls Try.prog 120 #[v, .func (.func 121) #[] #[]] w (SortedRow rwC 11 B 51 (ltOf fun x y : Rw => Lib.compareInt x.1.1 y.1.1) l v w) :=
  sort_own sortRowL Try.isAgg51 Try.sizeOf51 rwC_len rwC_one _ swoRow 121 (enters_of Try.func121 (by kernel_rfl) rfl) cmpRow_any hown (by omega)
end Go.Proofs.Ytkcpmoinpdojjaa
