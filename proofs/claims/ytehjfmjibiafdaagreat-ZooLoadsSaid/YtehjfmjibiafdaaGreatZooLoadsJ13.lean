import Derived.Test.YtehjfmjibiafdaaGreatZooLoadsJ12
import Derived.Carry
/- Tables: New. -/
namespace Go.Proofs.YtehjfmjibiafdaaGreat
open Go Go.RowKit

theorem nodup_inj {α : Type} {l : List α} (h : l.Nodup) {i j : Nat} (hi : i < l.length) (hj : j < l.length) (e : l[i] = l[j]) : i = j := by
  have hp := List.pairwise_iff_getElem.1 h
  rcases Nat.lt_trichotomy i j with h1 | h1 | h1
  · exact absurd e (hp i j hi hj h1)
  · exact h1
  · exact absurd e.symm (hp j i hj hi h1)
theorem listKn_any (kn : Nat) (hk : kn < 256) (w : World) : Calls Tryz.prog 120 #[.int .i64 (kn : Int)] w (MadeInts w.heap.size ((natKinds kn 8).map fun (k : Nat) => (k : Int)) w) := by
  have h := list_any (kn : Int) w
  rw [low8_nat _ hk] at h
  exact h
/-- The blocks of a column that is new. -/
def newFs (cs : List (Nat × Nat)) (k : Nat) : List Nat := match cs.find? (fun kc => kc.1 == k) with | some kc => [kc.2] | none => []
theorem newFs_at {cs : List (Nat × Nat)} (hn : (cs.map (·.1)).Nodup) {kc : Nat × Nat} (hk : kc ∈ cs) : newFs cs kc.1 = [kc.2] := by
  unfold newFs
  cases h : cs.find? (fun kd => kd.1 == kc.1) with
  | none =>
    have := List.find?_eq_none.1 h kc hk
    simp at this
  | some kd =>
    have h1 := List.mem_of_find?_eq_some h
    have h2 := List.find?_some h
    have : kd = kc := kind_inj hn h1 hk (by simpa using h2)
    rw [this]
/-- A table without rows. -/
def NewPost (kn : Nat) (w : World) (e : Ending) (w' : World) : Prop :=
  ∃ p m cs, e = .returned (.tuple #[.pointer (some ⟨p, 0, none⟩), .int .i64 0]) ∧ TabAt w' p kn [] (fun _ => []) (.slice none 0 0) m cs (newFs cs) ∧ (∀ k ∈ tabF p m (.slice none 0 0) cs (newFs cs), w.heap.size ≤ k) ∧ Below w.heap.size w w'

set_option maxRecDepth 20000 in
set_option maxHeartbeats 4000000 in
theorem new_ok (kn : Nat) (hk : kn < 256) (w : World) : Calls Tryz.prog 130 #[.int .i64 (kn : Int)] w (NewPost kn w) := by
  have hl := fun w => listKn_any kn hk w
  have hnd := natKinds_nodup kn 8
  have hlt : ∀ k ∈ natKinds kn 8, k < 8 := fun k h => natKinds_lt h
  have hN := natKinds_len kn 8
  obtain ⟨N, hNe⟩ : ∃ N, N = natKinds kn 8 := ⟨_, rfl⟩
  rw [← hNe] at hl hnd hlt hN
  have HL := Lib.hid hl; have HND := Lib.hid hnd; have HLT := Lib.hid hlt; have HNe := Lib.hid hNe; have HN := Lib.hid hN
  have hd1 : decide ((kn : Int) < 0) = false := by simp
  have hd2 : decide (255 < (kn : Int)) = false := by simp; omega
  have hmm := @run_makeMap Tryz.prog
  clear hl hnd hlt hNe
  go_enter Tryz.func130, Tryz.ntmps130
  go_wp2_with fail
  clear hmm
  refine (HL.out _).mono ?_
  rintro e w1 ⟨v, rfl, hrow, hb⟩
  have km := (Mod.ofBelow hb).keep (blk_alloc (MapKept.heap_alloc w (.map #[] 0)).1 _) (by simp)
  have kp := (Mod.ofBelow hb).keep (heap_alloc_new (w.alloc (.map #[] 0)) _) (by simp)
  have hz1 := hb.size
  have hB := (((Below.refl w.heap.size w).alloc (Nat.le_refl _) _).alloc (by simp) _).trans (hb.mono (by simp; omega))
  simp only [World.size_alloc] at kp hz1
  have HB := Lib.hid hB; have KP := Lib.hid kp; have HRow := Lib.hid hrow
  have HM := Lib.hid (show MapAt Tryz.prog 3 w1 w.heap.size [] from ⟨#[], 0, km, ⟨Go.MapKept.stamped_empty 0, by simp, rfl⟩⟩)
  clear km kp hB hb hrow HL
  obtain ⟨A5, q5, rfl, hq5, -⟩ := row_slice HRow.out
  go_wp2
  go_loopw [20] (fun i wr => ∃ (j : Nat) (cs : List (Nat × Nat)), j ≤ N.length ∧ i = .int .i64 j ∧ cs.map (·.1) = N.take j ∧ MapAt Tryz.prog 3 wr w.heap.size (cs.map colPr) ∧ (∀ kc ∈ cs, wr.heap[kc.2]? = some (.cells #[.slice none 0 0] 179 (0, 0)) ∧ w1.heap.size ≤ kc.2) ∧ (cs.map (·.2)).Nodup ∧ Mod [w.heap.size] w1 wr) (fun i _ => N.length - (intOf i).toNat)
  case atStart => exact ⟨0, [], by omega, rfl, rfl, HM.out, by simp, by simp, Mod.refl _ _⟩
  case round =>
    obtain ⟨j, cs, hj, rfl, hcs, hmap, hblk, hnd2, hmod⟩ := hrel
    have hsz := hmod.size
    have hkp := hmod.keep KP.out (by simp)
    by_cases hlt : j < N.length
    · have hr5 := row_mod HRow.out hmod (fun k hk => by have := (HRow.out.lt k hk).1; simp at this; simp; omega)
      obtain ⟨g5, rfl, hg5, ck⟩ := row_kind hr5 hlt
      have hNj : N[j] ∉ cs.map (·.1) := by
        rw [hcs]
        intro hm
        obtain ⟨i, hi, he⟩ := List.mem_take_iff_getElem.1 hm
        have := nodup_inj HND.out _ _ he
        omega
      have hts := take_succ_get N j hlt
      have h8 := HLT.out N[j] (List.getElem_mem hlt)
      generalize N[j] = k at *
      have c2 : wr.cell? ⟨w.heap.size + 1, 2, none⟩ = some (.map (some w.heap.size)) := by rw [blk_cell hkp]; rfl
      obtain ⟨w5, hrun, hm5, hmd5, hs5⟩ := (hmap.mod ((Mod.refl [] wr).alloc (.cells #[.slice none 0 0] 179)) (by simp)).put_new keyedInt Tryz.underlying174 (keyInt (inR_nat (show k < 256 by omega))) (by
        intro q hq e
        obtain ⟨kc, hc, rfl⟩ := List.mem_map.1 hq
        have h1 : (kc.1 : Int) = k := by simpa [colPr] using e
        exact hNj (List.mem_map.2 ⟨kc, hc, by omega⟩)) (.pointer (some ⟨wr.heap.size, 0, none⟩))
      have hpl := blk_lt hkp
      have hfin : ∃ (j' : Nat) (cs' : List (Nat × Nat)), j' ≤ N.length ∧ Value.int .i64 ((j : Int) + 1) = .int .i64 j' ∧ cs'.map (·.1) = N.take j' ∧ MapAt Tryz.prog 3 w5 w.heap.size (cs'.map colPr) ∧ (∀ kc ∈ cs', w5.heap[kc.2]? = some (.cells #[.slice none 0 0] 179 (0, 0)) ∧ w1.heap.size ≤ kc.2) ∧ (cs'.map (·.2)).Nodup ∧ Mod [w.heap.size] w1 w5 := by
        refine ⟨j + 1, cs ++ [(k, wr.heap.size)], by omega, by go_num, by rw [List.map_append, hcs, hts]; rfl, by rw [List.map_append]; exact hm5, ?_, ?_, (hmod.alloc _).trans hmd5 (fun x hx => .inl hx)⟩
        · intro kc hc
          rcases List.mem_append.1 hc with hc | hc
          · obtain ⟨h1, h2⟩ := hblk kc hc
            exact ⟨hmd5.keep (blk_alloc h1 _) (by simp; omega), h2⟩
          · simp only [List.mem_singleton] at hc
            subst hc
            exact ⟨hmd5.keep (heap_alloc_new wr _) (by simp; omega), hsz⟩
        · rw [List.map_append, List.nodup_append]
          refine ⟨hnd2, by simp, ?_⟩
          intro a ha b hb e
          simp only [List.map_cons, List.map_nil, List.mem_singleton] at hb
          obtain ⟨kc, hc, rfl⟩ := List.mem_map.1 ha
          have := blk_lt (hblk kc hc).1
          omega
      have HFin := Lib.hid hfin
      clear hfin hmap hblk hnd2 hcs hNj hts hr5 hkp hmod hm5 hmd5 hs5
      go_wp2
      go_roundw
      case rel => exact HFin.out
      case measure => simp [intOf] <;> omega
    · obtain rfl : j = N.length := by omega
      rw [List.take_length] at hcs
      have hkk : cs.map (·.1) = natKinds kn 8 := hcs.trans HNe.out
      have hkn : (cs.map (·.1)).Nodup := by rw [hcs]; exact HND.out
      have hT : TabAt wr (w.heap.size + 1) kn [] (fun _ => []) (.slice none 0 0) w.heap.size cs (newFs cs) := by
        refine ⟨⟨hkp, rfl, ⟨rfl, .inl ⟨rfl, rfl⟩⟩, fun k hk => by cases hk⟩, hmap, hkk, ⟨fun kc hc => ?_, fun kc hc kd hd hne x hx hx2 => ?_, fun kc hc x hx hx2 => ?_⟩, by omega, fun k hk => by cases hk⟩
        · exact ⟨.slice none 0 0, ⟨(hblk kc hc).1, rfl, ⟨rfl, .inl ⟨rfl, rfl⟩⟩, fun k hk => by cases hk⟩, by rw [newFs_at hkn hc]; rfl⟩
        · rw [newFs_at hkn hc] at hx
          rw [newFs_at hkn hd] at hx2
          simp only [List.mem_singleton] at hx hx2
          refine hne (congrArg Prod.fst (?_ : kc = kd))
          have e : kc.2 = kd.2 := hx.symm.trans hx2
          obtain ⟨a, ha, hae⟩ := List.mem_iff_getElem.1 hc
          obtain ⟨b, hb, hbe⟩ := List.mem_iff_getElem.1 hd
          have h1 : (cs.map (·.2))[a]'(by simpa using ha) = (cs.map (·.2))[b]'(by simpa using hb) := by simp [hae, hbe, e]
          have := nodup_inj hnd2 _ _ h1
          subst this
          exact hae.symm.trans hbe
        · rw [newFs_at hkn hc] at hx
          simp only [List.mem_singleton] at hx
          have := (hblk kc hc).2
          simp [Value.ownBlock] at hx2
          omega
      have hF : ∀ k ∈ tabF (w.heap.size + 1) w.heap.size (.slice none 0 0) cs (newFs cs), w.heap.size ≤ k := by
        intro k hk
        simp only [tabF, List.mem_cons, List.mem_append, List.mem_flatMap] at hk
        rcases hk with h1 | h1 | h1 | ⟨kd, hd, h1⟩
        · omega
        · omega
        · simp [Value.ownBlock] at h1
        · rw [newFs_at hkn hd] at h1
          simp only [List.mem_singleton] at h1
          have := (hblk kd hd).2; omega
      have hbel : Below w.heap.size w wr := HB.out.trans (hmod.toBelow (by simp) (by omega))
      have HT := Lib.hid hT; have HF := Lib.hid hF; have HBl := Lib.hid hbel
      clear hT hF hbel hmap hblk hnd2 hcs hkk hkn hkp hmod
      go_wp2
      go_ret2
      exact ⟨_, _, cs, rfl, HT.out, HF.out, HBl.out⟩
end Go.Proofs.YtehjfmjibiafdaaGreat

/- Tables: the rows of the reference against the columns. -/
namespace Go.Proofs.YtehjfmjibiafdaaGreat
open Go Go.RowKit

/-- The columns of rows. -/
def colsR (rows : List Rw) (k : Nat) : List Int := rows.map fun r => valK k r.2
/-- A row that a table of kinds kn may hold. -/
def GoodR (kn : Nat) (r : Rw) : Prop := r.2.1 = (kn : Int) ∧ ∀ k, k < 8 → kn.testBit k = false → valK k r.2 = 0

theorem colsR_app (rows : List Rw) (r : Rw) : colsR (rows ++ [r]) = fun k => colsR rows k ++ [valK k r.2] := by
  funext k; simp [colsR]
theorem rowI_good {kn : Nat} {rows : List Rw} (q : Nat) (hq : q < rows.length) (h : GoodR kn rows[q]) : rowI kn rows[q].1 (fun k => (colsR rows k).getD q 0) = rwI rows[q] := by
  have he : ∀ k, (colsR rows k).getD q 0 = valK k rows[q].2 := fun k => by
    unfold colsR; rw [List.getD_eq_getElem?_getD, List.getElem?_map, List.getElem?_eq_getElem hq]; rfl
  simp only [he]
  generalize rows[q] = x at *
  obtain ⟨⟨s, g⟩, K, a0, a1, a2, a3, a4, a5, a6, a7⟩ := x
  obtain ⟨hK, hz⟩ := h
  simp only at hK
  subst hK
  have z0 := hz 0 (by omega); have z1 := hz 1 (by omega); have z2 := hz 2 (by omega); have z3 := hz 3 (by omega)
  have z4 := hz 4 (by omega); have z5 := hz 5 (by omega); have z6 := hz 6 (by omega); have z7 := hz 7 (by omega)
  clear hz he
  have e : ∀ (b : Bool) (v : Int), (b = false → v = 0) → (if b = true then v else 0) = v := fun b v hv => by cases b <;> simp_all
  show hdI (s, g) ++ ((kn : Int) :: [_, _, _, _, _, _, _, _]) = hdI (s, g) ++ btI _
  show _ = hdI (s, g) ++ [(kn : Int), a0, a1, a2, a3, a4, a5, a6, a7]
  dsimp only at z0 z1 z2 z3 z4 z5 z6 z7 ⊢
  rw [e _ _ z0, e _ _ z1, e _ _ z2, e _ _ z3, e _ _ z4, e _ _ z5, e _ _ z6, e _ _ z7]
  rfl
end Go.Proofs.YtehjfmjibiafdaaGreat

/- Tables: the table and the reference's table side by side. -/
namespace Go.Proofs.YtehjfmjibiafdaaGreat
open Go Go.RowKit

/-- The blocks of Z stay. -/
def KeepZ (Z : List Nat) (w w' : World) : Prop := ∀ z ∈ Z, ∀ o : Obj, w.heap[z]? = some o → w'.heap[z]? = some o

section
variable {B : Nat} {Z : List Nat} {w w' : World} {p q kn m : Nat} {cs : List (Nat × Nat)} {rows rows2 : List Rw}
end
end Go.Proofs.YtehjfmjibiafdaaGreat

/- Tables side by side: Remove, Set, Row, Column. -/
namespace Go.Proofs.YtehjfmjibiafdaaGreat
open Go Go.RowKit

section
variable {B : Nat} {Z : List Nat} {w w' : World} {p q kn m : Nat} {cs : List (Nat × Nat)} {rows rows2 : List Rw}
end
end Go.Proofs.YtehjfmjibiafdaaGreat

/- Tables side by side: what stays true from deed to deed. -/
namespace Go.Proofs.YtehjfmjibiafdaaGreat
open Go Go.RowKit

end Go.Proofs.YtehjfmjibiafdaaGreat

/- Worlds as plain lists: tables by kinds, places by slots, and the rows that they hold. -/
namespace Go.Proofs.YtehjfmjibiafdaaGreat
open Go Go.RowKit

abbrev Pl := Nat × Nat × Nat
section
variable {β : Type} {l : List (Nat × β)} {s : Nat} {v v0 : β}
theorem pl_split (hn : (l.map (·.1)).Nodup) (hm : (s, v0) ∈ l) : ∃ l1 l2, l = l1 ++ (s, v0) :: l2 ∧ (∀ x ∈ l1 ++ l2, x.1 ≠ s) := by
  obtain ⟨l1, l2, rfl⟩ := List.append_of_mem hm
  refine ⟨l1, l2, rfl, fun x hx e => ?_⟩
  rw [List.map_append, List.map_cons, List.nodup_append] at hn
  obtain ⟨h1, h2, h3⟩ := hn
  rw [List.nodup_cons] at h2
  rcases List.mem_append.1 hx with hx | hx
  · exact h3 x.1 (List.mem_map.2 ⟨x, hx, rfl⟩) s (by simp) e
  · exact h2.1 (by rw [← e]; exact List.mem_map.2 ⟨x, hx, rfl⟩)
theorem key_one (hn : (l.map (·.1)).Nodup) {a b : β} (h1 : (s, a) ∈ l) (h2 : (s, b) ∈ l) : a = b := by
  obtain ⟨l1, l2, rfl, h⟩ := pl_split hn h1
  rcases List.mem_append.1 h2 with h2 | h2
  · exact absurd rfl (h _ (List.mem_append_left _ h2))
  · rcases List.mem_cons.1 h2 with h2 | h2
    · cases h2; rfl
    · exact absurd rfl (h _ (List.mem_append_right _ h2))
end

/-- Tables (kinds ts, rows rw) and places hold exactly the rows of M. -/
structure WCore (M : Rw → Prop) (ts : List Nat) (rw : Nat → List Rw) (pl : List Pl) : Prop where
  one : ∀ x y, M x → M y → x.1.1 = y.1.1 → x = y
  tn : ts.Nodup
  pn : (pl.map (·.1)).Nodup
  ne : ∀ k ∈ ts, rw k ≠ []
  row : ∀ k ∈ ts, ∀ i x, (rw k)[i]? = some x → M x ∧ x.2.1 = (k : Int) ∧ ∃ s : Nat, x.1.1 = (s : Int) ∧ (s, k, i) ∈ pl
  pla : ∀ s k i, (s, k, i) ∈ pl → k ∈ ts ∧ ∃ x, (rw k)[i]? = some x ∧ x.1.1 = (s : Int)
  has : ∀ x, M x → ∃ s k i : Nat, x.1.1 = (s : Int) ∧ (s, k, i) ∈ pl ∧ (rw k)[i]? = some x

section
variable {M : Rw → Prop} {ts : List Nat} {rw : Nat → List Rw} {pl : List Pl}
theorem wcore_nil : WCore (fun _ => False) [] rw [] := ⟨by simp, by simp, by simp, by simp, by simp, by simp, by simp⟩
theorem WCore.congr {M' : Rw → Prop} (h : WCore M ts rw pl) (e : ∀ x, M x ↔ M' x) : WCore M' ts rw pl := by
  have : M = M' := by funext x; exact propext (e x)
  rw [← this]; exact h
theorem get_snoc {α : Type} {l : List α} {x y : α} {i : Nat} (h : (l ++ [x])[i]? = some y) : l[i]? = some y ∨ (i = l.length ∧ y = x) := by
  rcases Nat.lt_or_ge i l.length with hi | hi
  · rw [List.getElem?_append_left hi] at h; exact .inl h
  · rw [List.getElem?_append_right hi] at h
    cases hj : i - l.length with
    | zero => rw [hj] at h; simp at h; exact .inr ⟨by omega, h.symm⟩
    | succ j => rw [hj] at h; simp at h
theorem WCore.slotNew (h : WCore M ts rw pl) {s : Nat} (hs : ∀ y, M y → y.1.1 ≠ (s : Int)) : ∀ e ∈ pl, e.1 ≠ s := by
  rintro ⟨s', k, i⟩ he rfl
  obtain ⟨hk, x, hx, hx2⟩ := h.pla _ _ _ he
  exact hs x (h.row k hk i x hx).1 hx2
theorem WCore.layOld (h : WCore M ts rw pl) {x : Rw} {s k : Nat} (hk : k ∈ ts) (hx : x.2.1 = (k : Int)) (hs : x.1.1 = (s : Int)) (hn : ∀ y, M y → y.1.1 ≠ (s : Int)) :
    WCore (fun y => M y ∨ y = x) ts (updL rw k (rw k ++ [x])) (pl ++ [(s, k, (rw k).length)]) := by
  have hsn := h.slotNew hn
  refine ⟨?_, h.tn, ?_, ?_, ?_, ?_, ?_⟩
  · rintro a b (ha | rfl) (hb | rfl) e
    · exact h.one a b ha hb e
    · exact absurd (e.trans hs) (hn a ha)
    · exact absurd (e.symm.trans hs) (hn b hb)
    · rfl
  · rw [List.map_append, List.nodup_append]
    refine ⟨h.pn, by simp, fun a ha b hb => ?_⟩
    obtain ⟨e, he, rfl⟩ := List.mem_map.1 ha
    simp at hb; subst hb
    exact hsn e he
  · intro j hj
    by_cases e : j = k
    · subst e; rw [updL_same]; simp
    · rw [updL_ne _ _ e]; exact h.ne j hj
  · intro j hj i y hy
    by_cases e : j = k
    · subst e
      rw [updL_same] at hy
      rcases get_snoc hy with hy | ⟨rfl, rfl⟩
      · obtain ⟨h1, h2, s', h3, h4⟩ := h.row j hj i y hy
        exact ⟨.inl h1, h2, s', h3, List.mem_append_left _ h4⟩
      · exact ⟨.inr rfl, hx, s, hs, by simp⟩
    · rw [updL_ne _ _ e] at hy
      obtain ⟨h1, h2, s', h3, h4⟩ := h.row j hj i y hy
      exact ⟨.inl h1, h2, s', h3, List.mem_append_left _ h4⟩
  · intro s' j i he
    rcases List.mem_append.1 he with he | he
    · obtain ⟨h1, y, h2, h3⟩ := h.pla s' j i he
      refine ⟨h1, y, ?_, h3⟩
      by_cases e : j = k
      · subst e; rw [updL_same, List.getElem?_append_left (List.getElem?_eq_some_iff.1 h2).1]; exact h2
      · rw [updL_ne _ _ e]; exact h2
    · simp only [List.mem_singleton, Prod.mk.injEq] at he
      obtain ⟨rfl, rfl, rfl⟩ := he
      exact ⟨hk, x, by rw [updL_same]; simp, hs⟩
  · rintro y (hy | rfl)
    · obtain ⟨s', j, i, h1, h2, h3⟩ := h.has y hy
      refine ⟨s', j, i, h1, List.mem_append_left _ h2, ?_⟩
      by_cases e : j = k
      · subst e; rw [updL_same, List.getElem?_append_left (List.getElem?_eq_some_iff.1 h3).1]; exact h3
      · rw [updL_ne _ _ e]; exact h3
    · exact ⟨s, k, (rw k).length, hs, by simp, by rw [updL_same]; simp⟩
theorem WCore.layNew (h : WCore M ts rw pl) {x : Rw} {s k : Nat} (hk : k ∉ ts) (hx : x.2.1 = (k : Int)) (hs : x.1.1 = (s : Int)) (hn : ∀ y, M y → y.1.1 ≠ (s : Int)) :
    WCore (fun y => M y ∨ y = x) (ts ++ [k]) (updL rw k [x]) (pl ++ [(s, k, 0)]) := by
  have hsn := h.slotNew hn
  have hne : ∀ j ∈ ts, j ≠ k := fun j hj e => hk (e ▸ hj)
  refine ⟨?_, ?_, ?_, ?_, ?_, ?_, ?_⟩
  · rintro a b (ha | rfl) (hb | rfl) e
    · exact h.one a b ha hb e
    · exact absurd (e.trans hs) (hn a ha)
    · exact absurd (e.symm.trans hs) (hn b hb)
    · rfl
  · rw [List.nodup_append]
    exact ⟨h.tn, by simp, fun a ha b hb => by simp at hb; subst hb; exact hne a ha⟩
  · rw [List.map_append, List.nodup_append]
    refine ⟨h.pn, by simp, fun a ha b hb => ?_⟩
    obtain ⟨e, he, rfl⟩ := List.mem_map.1 ha
    simp at hb; subst hb
    exact hsn e he
  · intro j hj
    rcases List.mem_append.1 hj with hj | hj
    · rw [updL_ne _ _ (hne j hj)]; exact h.ne j hj
    · simp at hj; subst hj; rw [updL_same]; simp
  · intro j hj i y hy
    rcases List.mem_append.1 hj with hj | hj
    · rw [updL_ne _ _ (hne j hj)] at hy
      obtain ⟨h1, h2, s', h3, h4⟩ := h.row j hj i y hy
      exact ⟨.inl h1, h2, s', h3, List.mem_append_left _ h4⟩
    · simp at hj; subst hj
      rw [updL_same] at hy
      cases i with
      | zero => simp at hy; subst hy; exact ⟨.inr rfl, hx, s, hs, by simp⟩
      | succ i => simp at hy
  · intro s' j i he
    rcases List.mem_append.1 he with he | he
    · obtain ⟨h1, y, h2, h3⟩ := h.pla s' j i he
      exact ⟨List.mem_append_left _ h1, y, by rw [updL_ne _ _ (hne j h1)]; exact h2, h3⟩
    · simp only [List.mem_singleton, Prod.mk.injEq] at he
      obtain ⟨rfl, rfl, rfl⟩ := he
      exact ⟨by simp, x, by rw [updL_same]; simp, hs⟩
  · rintro y (hy | rfl)
    · obtain ⟨s', j, i, h1, h2, h3⟩ := h.has y hy
      exact ⟨s', j, i, h1, List.mem_append_left _ h2, by rw [updL_ne _ _ (hne j (h.pla _ _ _ h2).1)]; exact h3⟩
    · exact ⟨s, k, 0, hs, by simp, by rw [updL_same]; simp⟩
theorem WCore.set (h : WCore M ts rw pl) {x x' : Rw} {s k i : Nat} (hm : (s, k, i) ∈ pl) (hx : (rw k)[i]? = some x) (h1 : x'.1 = x.1) (h2 : x'.2.1 = x.2.1) :
    WCore (fun y => (M y ∧ y ≠ x) ∨ y = x') ts (updL rw k ((rw k).set i x')) pl := by
  obtain ⟨hk, -⟩ := h.pla s k i hm
  obtain ⟨hMx, hxk, s0, hs0, hs1⟩ := h.row k hk i x hx
  have hil := (List.getElem?_eq_some_iff.1 hx).1
  have hget : ∀ j a y, (updL rw k ((rw k).set i x') j)[a]? = some y → (j = k ∧ a = i ∧ y = x') ∨ (¬ (j = k ∧ a = i) ∧ (rw j)[a]? = some y) := by
    intro j a y hy
    by_cases e : j = k
    · subst e
      rw [updL_same, List.getElem?_set] at hy
      by_cases e2 : i = a
      · subst e2; rw [if_pos rfl, if_pos hil] at hy; exact .inl ⟨rfl, rfl, by simpa using hy.symm⟩
      · rw [if_neg e2] at hy; exact .inr ⟨fun h => e2 h.2.symm, hy⟩
    · rw [updL_ne _ _ e] at hy; exact .inr ⟨fun h => e h.1, hy⟩
  have hput : ∀ j a y, ¬ (j = k ∧ a = i) → (rw j)[a]? = some y → (updL rw k ((rw k).set i x') j)[a]? = some y := by
    intro j a y hne hy
    by_cases e : j = k
    · subst e; rw [updL_same, List.getElem?_set, if_neg (fun e2 => hne ⟨rfl, e2.symm⟩)]; exact hy
    · rw [updL_ne _ _ e]; exact hy
  have hself : (updL rw k ((rw k).set i x') k)[i]? = some x' := by rw [updL_same, List.getElem?_set, if_pos rfl, if_pos hil]
  refine ⟨?_, h.tn, h.pn, ?_, ?_, ?_, ?_⟩
  · rintro a b (ha | rfl) (hb | rfl) e
    · exact h.one a b ha.1 hb.1 e
    · exact absurd (h.one a x ha.1 hMx (e.trans (by rw [h1]))) ha.2
    · exact absurd (h.one b x hb.1 hMx (e.symm.trans (by rw [h1]))) hb.2
    · rfl
  · intro j hj
    by_cases e : j = k
    · subst e; rw [updL_same]; intro hnil; rw [List.set_eq_nil_iff] at hnil; exact h.ne j hj hnil
    · rw [updL_ne _ _ e]; exact h.ne j hj
  · intro j hj a y hy
    rcases hget j a y hy with ⟨rfl, rfl, rfl⟩ | ⟨hne, hy⟩
    · exact ⟨.inr rfl, h2.trans hxk, s0, by rw [h1]; exact hs0, hs1⟩
    · obtain ⟨q1, q2, s', q3, q4⟩ := h.row j hj a y hy
      refine ⟨.inl ⟨q1, ?_⟩, q2, s', q3, q4⟩
      rintro rfl
      rw [q3] at hs0
      have : s' = s0 := by omega
      subst this
      have := key_one h.pn q4 hs1
      simp only [Prod.mk.injEq] at this
      exact hne this
  · intro s' j a he
    obtain ⟨q1, y, q2, q3⟩ := h.pla s' j a he
    refine ⟨q1, ?_⟩
    by_cases e : j = k ∧ a = i
    · obtain ⟨rfl, rfl⟩ := e
      rw [hx] at q2; cases q2
      exact ⟨x', hself, by rw [h1]; exact q3⟩
    · exact ⟨y, hput j a y e q2, q3⟩
  · rintro y (⟨hy, hyx⟩ | rfl)
    · obtain ⟨s', j, a, q1, q2, q3⟩ := h.has y hy
      refine ⟨s', j, a, q1, q2, hput j a y (fun e => ?_) q3⟩
      obtain ⟨rfl, rfl⟩ := e
      rw [hx] at q3; cases q3
      exact hyx rfl
    · exact ⟨s0, k, i, by rw [h1]; exact hs0, hs1, hself⟩

end
end Go.Proofs.YtehjfmjibiafdaaGreat

/- Worlds as plain lists: slots and rows in order of slots; what the calls make of them. -/
namespace Go.Proofs.YtehjfmjibiafdaaGreat
open Go Go.RowKit

def beastZ : Bt → Int
  | (K, a0, a1, a2, a3, a4, a5, a6, a7) => beastE K [a0, a1, a2, a3, a4, a5, a6, a7]
theorem beastGo_iff (K : Int) : ∀ (vs : List Int) (k : Nat), beastGo K k vs = 0 ↔ ∀ i, i < vs.length → (hasK K (k + i) = false → vs.getD i 0 = 0) ∧ ¬ (vs.getD i 0 < -1000000000 ∨ 1000000000 < vs.getD i 0)
  | [], _ => by simp [beastGo]
  | v :: vs, k => by
    have ih := beastGo_iff K vs (k + 1)
    rw [beastGo]
    constructor
    · intro h i hi
      by_cases h1 : hasK K k = false ∧ v ≠ 0
      · rw [if_pos h1] at h; simp at h
      · rw [if_neg h1] at h
        by_cases h2 : v < -1000000000 ∨ 1000000000 < v
        · rw [if_pos h2] at h; simp at h
        · rw [if_neg h2] at h
          match i with
          | 0 => exact ⟨fun hk => Decidable.byContradiction fun e => h1 ⟨hk, e⟩, h2⟩
          | i + 1 =>
            have := ih.1 h i (by simpa using hi)
            rw [show k + 1 + i = k + (i + 1) by omega] at this
            exact this
    · intro h
      have h0 : (hasK K k = false → v = 0) ∧ ¬ (v < -1000000000 ∨ 1000000000 < v) := h 0 (by simp)
      rw [if_neg (fun e => e.2 (h0.1 e.1)), if_neg h0.2]
      refine ih.2 fun i hi => ?_
      have := h (i + 1) (by simpa using hi)
      rw [show k + 1 + i = k + (i + 1) by omega]
      exact this
theorem beastZ_iff (b : Bt) : beastZ b = 0 ↔ ∃ kn : Nat, kn < 256 ∧ b.1 = (kn : Int) ∧ ∀ k, k < 8 → (kn.testBit k = false → valK k b = 0) ∧ ¬ (valK k b < -1000000000 ∨ 1000000000 < valK k b) := by
  obtain ⟨K, a0, a1, a2, a3, a4, a5, a6, a7⟩ := b
  show (if isSetB K = true then beastGo K 0 [a0, a1, a2, a3, a4, a5, a6, a7] else (1 : Int)) = 0 ↔ _
  constructor
  · intro h
    by_cases hs : isSetB K = true
    · rw [if_pos hs, beastGo_iff] at h
      obtain ⟨m, rfl, hm⟩ := isSetB_nat hs
      refine ⟨m, hm, rfl, fun k hk => ?_⟩
      have := h k (by simpa using hk)
      rw [Nat.zero_add, hasK_nat m k hm] at this
      exact this
    · rw [if_neg hs] at h; simp at h
  · rintro ⟨kn, hkn, e, h⟩
    simp only at e
    subst e
    rw [if_pos (isSetB_t _ (by omega) (by omega)), beastGo_iff]
    intro i hi
    rw [Nat.zero_add, hasK_nat kn i hkn]
    exact h i (by simpa using hi)
theorem beastZ_good {x : Rw} {kn : Nat} (h : beastZ x.2 = 0) (hk : x.2.1 = (kn : Int)) : GoodR kn x ∧ kn < 256 := by
  obtain ⟨m, hm, e, hv⟩ := (beastZ_iff _).1 h
  have : m = kn := by omega
  subst this
  exact ⟨⟨hk, fun k hk hb => (hv k hk).1 hb⟩, hm⟩

/-! In order of slots. -/
theorem allFrom_lo {l : Sl} {k : Nat} {h : Hd} (hh : h ∈ allFrom k l) : (k : Int) ≤ h.1 ∧ h.1 < ((k + l.length : Nat) : Int) := by
  obtain ⟨s, g⟩ := h
  obtain ⟨j, rfl, hj, -⟩ := (mem_allFrom l k s g).1 hh
  exact ⟨by simp only; omega, by simp only; omega⟩
theorem allFrom_sorted : ∀ (l : Sl) (k : Nat), (allFrom k l).Pairwise (fun a b => a.1 < b.1)
  | [], _ => by simp [allFrom]
  | x :: l, k => by
    rw [allFrom]
    split
    · rw [List.singleton_append, List.pairwise_cons]
      exact ⟨fun y hy => by have := (allFrom_lo hy).1; simp only; omega, allFrom_sorted l (k + 1)⟩
    · rw [List.nil_append]; exact allFrom_sorted l (k + 1)
theorem get_split {α : Type} {l : List α} {k : Nat} (hk : k < l.length) : l = l.take k ++ l[k] :: l.drop (k + 1) := by
  rw [← List.drop_eq_getElem_cons hk, List.take_append_drop]
/-- Rows beside slots. -/
structure WOk (sl : Sl) (L : List Rw) : Prop where
  ok : SlOk sl
  hs : L.map (·.1) = allS sl
  be : ∀ x ∈ L, beastZ x.2 = 0
section
variable {sl : Sl} {L : List Rw}
theorem wok_nil : WOk [] [] := ⟨slOk_nil, rfl, by simp⟩
theorem WOk.len (h : WOk sl L) : L.length ≤ 60 := by
  have := congrArg List.length h.hs
  rw [List.length_map] at this
  have h1 := allS_len sl
  have := h.ok.1
  omega
theorem WOk.slot (h : WOk sl L) {x : Rw} (hx : x ∈ L) : ∃ s : Nat, s < 60 ∧ x.1.1 = (s : Int) := by
  have : x.1 ∈ allS sl := by rw [← h.hs]; exact List.mem_map.2 ⟨x, hx, rfl⟩
  obtain ⟨h1, h2⟩ := allFrom_lo this
  have := h.ok.1
  exact ⟨x.1.1.toNat, by omega, by omega⟩
theorem WOk.sorted (h : WOk sl L) : L.Pairwise (fun a b => a.1.1 < b.1.1) := by
  have := allFrom_sorted sl 0
  rw [show allFrom 0 sl = L.map (·.1) from h.hs.symm, List.pairwise_map] at this
  exact this
theorem WOk.one (h : WOk sl L) {x y : Rw} (hx : x ∈ L) (hy : y ∈ L) (e : x.1.1 = y.1.1) : x = y := by
  obtain ⟨i, hi, rfl⟩ := List.mem_iff_getElem.1 hx
  obtain ⟨j, hj, rfl⟩ := List.mem_iff_getElem.1 hy
  have hp := List.pairwise_iff_getElem.1 h.sorted
  rcases Nat.lt_trichotomy i j with h1 | h1 | h1
  · have := hp i j hi hj h1; omega
  · subst h1; rfl
  · have := hp j i hj hi h1; omega
theorem WOk.live (h : WOk sl L) (s g : Int) : liveB sl s g = true ↔ ∃ x ∈ L, x.1 = (s, g) := by
  rw [liveB_iff, ← h.hs, List.mem_map]
theorem WOk.set (h : WOk sl L) {i : Nat} {x' : Rw} (hi : i < L.length) (h1 : x'.1 = L[i].1) (hb : beastZ x'.2 = 0) : WOk sl (L.set i x') := by
  refine ⟨h.ok, ?_, fun x hx => ?_⟩
  · rw [← h.hs]
    apply List.ext_getElem?
    intro j
    rw [List.getElem?_map, List.getElem?_map, List.getElem?_set]
    by_cases e : i = j
    · subst e; simp [hi, h1]
    · simp [e]
  · rcases List.mem_or_eq_of_mem_set hx with hx | rfl
    · exact h.be x hx
    · exact hb
end

/-! What the calls make of rows. -/
def idxL (L : List Rw) (h : Hd) : Option Nat := L.findIdx? (fun x => decide (x.1 = h))
def putBad (k n : Int) : Prop := (k < 0 ∨ 7 < k) ∨ (n < -1000000000 ∨ 1000000000 < n)
instance (k n : Int) : Decidable (putBad k n) := by unfold putBad; infer_instance
section
variable {sl : Sl} {L : List Rw}
theorem idx_some {h : Hd} {i : Nat} (hi : idxL L h = some i) : ∃ hl : i < L.length, L[i].1 = h := by
  obtain ⟨hl, hp⟩ := fi_lt hi
  exact ⟨hl, by simpa using hp⟩
theorem idx_none {h : Hd} (hi : idxL L h = none) : ∀ x ∈ L, x.1 ≠ h := by
  unfold idxL at hi
  rw [List.findIdx?_eq_none_iff] at hi
  intro x hx e
  have := hi x hx
  simp [e] at this
theorem WOk.idx (h : WOk sl L) (s g : Int) : (liveB sl s g = true ∧ ∃ i, idxL L (s, g) = some i) ∨ (liveB sl s g = false ∧ idxL L (s, g) = none) := by
  cases hi : idxL L (s, g) with
  | some i =>
    obtain ⟨hl, e⟩ := idx_some hi
    exact .inl ⟨(h.live s g).2 ⟨_, List.getElem_mem hl, e⟩, i, rfl⟩
  | none =>
    refine .inr ⟨?_, rfl⟩
    cases hv : liveB sl s g with
    | false => rfl
    | true =>
      obtain ⟨x, hx, e⟩ := (h.live s g).1 hv
      exact absurd e (idx_none hi x hx)
end
end Go.Proofs.YtehjfmjibiafdaaGreat
