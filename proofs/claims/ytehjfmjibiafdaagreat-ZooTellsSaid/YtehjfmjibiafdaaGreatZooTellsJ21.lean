import Derived.Test.YtehjfmjibiafdaaGreatZooTellsJ18
/- Worlds in memory. -/
namespace Go.Proofs.YtehjfmjibiafdaaGreat
open Go Go.RowKit

theorem Turns.refl (F : List Nat) (w : World) : Turns w F F w := ⟨Mod.refl _ _, fun _ h => .inl h⟩
theorem Turns.trans {a b c : World} {F G H : List Nat} (h : Turns a F G b) (k : Turns b G H c) : Turns a F H c :=
  ⟨h.mod.trans k.mod h.new, fun x hx => by
    rcases k.new x hx with h1 | h1
    · exact h.new x h1
    · have := h.mod.size; exact .inr (by omega)⟩
theorem Turns.below {a b c : World} {F G : List Nat} (h : Turns a F G b) (k : Below b.heap.size b c) : Turns a F G c := ⟨h.mod.andBelow k, h.new⟩
theorem Turns.ofBelow {a b : World} {F : List Nat} (k : Below a.heap.size a b) : Turns a F F b := ⟨(Mod.ofBelow k).mono (by simp), fun _ h => .inl h⟩
theorem Turns.after {a b c : World} {F G : List Nat} (k : Below a.heap.size a b) (h : Turns b F G c) : Turns a F G c := (Turns.ofBelow k).trans h

/-! Tables by their blocks alone. -/
section
variable {w : World} {p kn : Nat} {rows : List Rw} {F : List Nat}
theorem rt_new (kn : Nat) (hk : kn < 256) (w : World) : Calls Tryz.prog 130 #[.int .i64 (kn : Int)] w fun e w' => ∃ b F, e = .returned (.tuple #[.pointer (some ⟨b, 0, none⟩), .int .i64 0]) ∧ RepT w' b kn [] F ∧ (∀ y ∈ F, w.heap.size ≤ y) ∧ Below w.heap.size w w' := by
  refine (new_ok kn hk w).mono ?_
  rintro e w1 ⟨b, m, cs, rfl, ht, hF, hb⟩
  exact ⟨b, _, rfl, ⟨_, m, cs, _, ht, rfl⟩, hF, hb⟩
def RtPost (p kn : Nat) (rows : List Rw) (F : List Nat) (w : World) (r : Value) (e : Ending) (w' : World) : Prop := e = .returned r ∧ ∃ F', RepT w' p kn rows F' ∧ Turns w F F' w'
theorem rt_add (h : RepT w p kn rows F) (hkn : kn < 256) (s g a0 a1 a2 a3 a4 a5 a6 a7 : Int) (hb : beastE (kn : Int) [a0, a1, a2, a3, a4, a5, a6, a7] = 0) (hl : rows.length < 1200000000000) :
    Calls Tryz.prog 131 #[.pointer (some ⟨p, 0, none⟩), .agg #[.int .i64 s, .int .i64 g], .agg #[.int .i64 (kn : Int), .int .i64 a0, .int .i64 a1, .int .i64 a2, .int .i64 a3, .int .i64 a4, .int .i64 a5, .int .i64 a6, .int .i64 a7]] w
      (RtPost p kn (rows ++ [((s, g), (kn : Int), a0, a1, a2, a3, a4, a5, a6, a7)]) F w (.tuple #[.int .i64 (rows.length : Int), .int .i64 0])) := by
  obtain ⟨vh, m, cs, Fs, ht, rfl⟩ := h
  refine (add_ok ht s g a0 a1 a2 a3 a4 a5 a6 a7 hb (fun kc _ => by rw [List.length_map, List.length_map]) (by simpa using hl)).mono ?_
  rintro e w1 ⟨rfl, vh', Fs', ht', hy, hm⟩
  refine ⟨by rw [List.length_map], _, ⟨vh', m, cs, Fs', ?_, rfl⟩, hm, hy⟩
  have he := colsR_app rows ((s, g), (kn : Int), a0, a1, a2, a3, a4, a5, a6, a7)
  rw [List.map_append]
  show TabAt _ _ _ _ (colsR (rows ++ [_])) _ _ _ _
  rw [he]
  exact ht'
theorem rt_row (h : RepT w p kn rows F) {i : Nat} {x : Rw} (hx : rows[i]? = some x) (hg : GoodR kn x) (hl : rows.length ≤ 1200000000000) :
    Calls Tryz.prog 56 #[.pointer (some ⟨p, 0, none⟩), .int .i64 (i : Int)] w fun e w' => e = .returned (.tuple #[.agg (rwC x).toArray, .int .i64 0]) ∧ Below w.heap.size w w' := by
  obtain ⟨vh, m, cs, Fs, ht, rfl⟩ := h
  obtain ⟨hi, rfl⟩ := List.getElem?_eq_some_iff.1 hx
  refine (row_yes ht i (by simpa using hi) (fun kc _ => by rw [List.length_map, List.length_map]) (by simpa using hl)).mono ?_
  rintro e w1 ⟨rfl, hbl⟩
  refine ⟨?_, hbl⟩
  have := rowI_good i hi hg
  rw [List.getElem_map]
  show Ending.returned (.tuple #[.agg (ints (rowI kn rows[i].1 fun k => (colsR rows k).getD i 0)).toArray, _]) = _
  rw [this]; rfl
theorem rt_rem (h : RepT w p kn rows F) {i : Nat} {x : Rw} (hx : rows[i]? = some x) (hg : GoodR kn x) (hl : rows.length ≤ 1200000000000) :
    Calls Tryz.prog 143 #[.pointer (some ⟨p, 0, none⟩), .int .i64 (i : Int)] w (RtPost p kn (remL rows i) F w (.tuple #[.agg (rwC x).toArray, .int .i64 0])) := by
  obtain ⟨vh, m, cs, Fs, ht, rfl⟩ := h
  obtain ⟨hi, rfl⟩ := List.getElem?_eq_some_iff.1 hx
  refine (remove_ok ht i (by simpa using hi) (fun kc _ => by rw [List.length_map, List.length_map]) (by simpa using hl)).mono ?_
  rintro e w1 ⟨rfl, vh', Fs', ht', hy, hm⟩
  refine ⟨?_, _, ⟨vh', m, cs, Fs', ?_, rfl⟩, hm, hy⟩
  · have := rowI_good i hi hg
    rw [List.getElem_map]
    show Ending.returned (.tuple #[.agg (ints (rowI kn rows[i].1 fun k => (colsR rows k).getD i 0)).toArray, _]) = _
    rw [this]; rfl
  · have he := colsR_rem rows i
    rw [← remL_map]
    show TabAt _ _ _ _ (colsR (remL rows i)) _ _ _ _
    rw [he]
    exact ht'
theorem rt_set (h : RepT w p kn rows F) {i k : Nat} {x : Rw} (hx : rows[i]? = some x) (hk : k < 8) (hb : kn.testBit k = true) (n : Int) (hn : ¬ (n < -1000000000 ∨ 1000000000 < n)) (hl : rows.length ≤ 1200000000000) :
    Calls Tryz.prog 98 #[.pointer (some ⟨p, 0, none⟩), .int .i64 (i : Int), .int .i64 (k : Int), .int .i64 n] w (RtPost p kn (rows.set i (rwSet x k n)) F w (.int .i64 0)) := by
  obtain ⟨vh, m, cs, Fs, ht, rfl⟩ := h
  obtain ⟨hi, rfl⟩ := List.getElem?_eq_some_iff.1 hx
  refine (set_any ht (i : Int) (k : Int) n (fun kc _ => by rw [List.length_map, List.length_map]) (by simpa using hl)).mono ?_
  rintro e w1 ⟨rfl, ht', hm⟩
  have hz : setE kn (i : Int) (rows.map (·.1)).length (k : Int) n = 0 := by
    unfold setE
    rw [if_neg (by rw [rowB_iff.2 ⟨i, rfl, by simpa using hi⟩]; simp)]
    have : kindE kn (k : Int) = 0 := by unfold kindE; rw [if_neg (by omega), Int.toNat_natCast, if_pos hb]
    rw [this, if_neg (by simp), if_neg hn]
  rw [if_pos hz, Int.toNat_natCast, Int.toNat_natCast] at ht'
  refine ⟨by rw [hz], _, ⟨vh, m, cs, Fs, ?_, rfl⟩, hm, fun _ h => .inl h⟩
  rw [map_set_same rows i hi]
  show TabAt _ _ _ _ (colsR (rows.set i _)) _ _ _ _
  rw [colsR_set rows i hi k hk]
  exact ht'
theorem rt_handles (h : RepT w p kn rows F) (hl : rows.length ≤ 1200000000000) :
    Calls Tryz.prog 61 #[.pointer (some ⟨p, 0, none⟩)] w (MadeR 41 2 handleC (rows.map (·.1)) w) := by
  obtain ⟨vh, m, cs, Fs, ht, rfl⟩ := h
  exact handles_any ht (by simpa using hl)
end

/-! Maps with integer keys. -/
def plPr (x : Pl) : Value × Value := (.int .i64 (x.1 : Int), .agg #[.int .i64 (x.2.1 : Int), .int .i64 (x.2.2 : Int)])
structure IntKeys {β : Type} (enc : Nat × β → Value × Value) : Prop where
  key : ∀ x, (enc x).1 = .int .i64 (x.1 : Int)
theorem plPr_keys : IntKeys plPr := ⟨fun _ => rfl⟩
theorem colPr_keys : IntKeys colPr := ⟨fun _ => rfl⟩
section
variable {β : Type} {enc : Nat × β → Value × Value} {w : World} {b : Nat} {l : List (Nat × β)} {t e : TypeId}
theorem MapAt.keysNodup (K : IntKeys enc) (h : MapAt Tryz.prog 3 w b (l.map enc)) : (l.map (·.1)).Nodup := by
  obtain ⟨es, clock, hb, hok⟩ := h
  have := hok.apart
  rw [List.pairwise_map] at this
  unfold List.Nodup
  rw [List.pairwise_map]
  refine this.imp fun {x y} hxy e => hxy ?_
  rw [K.key, K.key, e]
theorem key_ne (K : IntKeys enc) {s : Nat} (hs : ∀ x ∈ l, x.1 ≠ s) : ∀ p ∈ l.map enc, p.1 ≠ .int .i64 (s : Int) := by
  intro p hp e
  obtain ⟨x, hx, rfl⟩ := List.mem_map.1 hp
  rw [K.key] at e
  simp only [Value.int.injEq, true_and] at e
  exact hs x hx (by omega)
theorem mi_in (K : IntKeys enc) (ht : Tryz.prog.underlying t = some (.map 3 e)) (h : MapAt Tryz.prog 3 w b (l.map enc)) {s : Nat} (hs : s < 256) {v : β} (hm : (s, v) ∈ l) (c : Bool) :
    (Instr.lookup t (.map (some b)) (.int .i64 (s : Int)) c).run Tryz.prog w = .ok (if c then .tuple #[(enc (s, v)).2, .bool true] else (enc (s, v)).2) w :=
  h.look_in keyedInt ht (keyInt (inR_nat hs)) (by
    have : enc (s, v) ∈ l.map enc := List.mem_map.2 ⟨_, hm, rfl⟩
    rw [show enc (s, v) = (.int .i64 (s : Int), (enc (s, v)).2) from Prod.ext (K.key _) rfl] at this
    exact this) c
theorem mi_put (K : IntKeys enc) (ht : Tryz.prog.underlying t = some (.map 3 e)) (h : MapAt Tryz.prog 3 w b (l.map enc)) {s : Nat} (hs : s < 256) (hn : ∀ x ∈ l, x.1 ≠ s) (v : β) :
    ∃ w', (Instr.mapUpdate t (.map (some b)) (.int .i64 (s : Int)) (enc (s, v)).2).run Tryz.prog w = .ok () w' ∧ MapAt Tryz.prog 3 w' b ((l ++ [(s, v)]).map enc) ∧ Mod [b] w w' ∧ w'.heap.size = w.heap.size := by
  obtain ⟨w', h1, h2, h3⟩ := h.put_new keyedInt ht (keyInt (inR_nat hs)) (key_ne K hn) (enc (s, v)).2
  refine ⟨w', h1, ?_, h3⟩
  rw [List.map_append]
  rw [show (List.map enc [(s, v)]) = [(.int .i64 (s : Int), (enc (s, v)).2)] from congrArg (· :: []) (Prod.ext (K.key _) rfl)]
  exact h2
theorem mi_set (K : IntKeys enc) (ht : Tryz.prog.underlying t = some (.map 3 e)) (h : MapAt Tryz.prog 3 w b (l.map enc)) {s : Nat} (hs : s < 256) {v0 : β} (hm : (s, v0) ∈ l) (v : β) :
    ∃ w', (Instr.mapUpdate t (.map (some b)) (.int .i64 (s : Int)) (enc (s, v)).2).run Tryz.prog w = .ok () w' ∧ MapAt Tryz.prog 3 w' b ((setPl l s v).map enc) ∧ Mod [b] w w' ∧ w'.heap.size = w.heap.size := by
  obtain ⟨l1, l2, rfl, hne⟩ := pl_split (h.keysNodup K) hm
  rw [setPl_split hne]
  rw [List.map_append, List.map_cons, show enc (s, v0) = (.int .i64 (s : Int), (enc (s, v0)).2) from Prod.ext (K.key _) rfl] at h
  rw [List.map_append, List.map_cons, show enc (s, v) = (.int .i64 (s : Int), (enc (s, v)).2) from Prod.ext (K.key _) rfl]
  exact h.put_old keyedInt ht (keyInt (inR_nat hs)) (enc (s, v)).2
theorem mi_del {ty : TypeId} (K : IntKeys enc) (ht : Tryz.prog.underlying t = some (.map 3 e)) (h : MapAt Tryz.prog 3 w b (l.map enc)) {s : Nat} (hs : s < 256) {v0 : β} (hm : (s, v0) ∈ l) :
    ∃ w', (Builtin.delete_ #[t, 3] ty #[.map (some b), .int .i64 (s : Int)]).run Tryz.prog w = .ok (.tuple #[]) w' ∧ MapAt Tryz.prog 3 w' b ((delPl l s).map enc) ∧ Mod [b] w w' ∧ w'.heap.size = w.heap.size := by
  obtain ⟨l1, l2, rfl, hne⟩ := pl_split (h.keysNodup K) hm
  rw [delPl_split hne]
  rw [List.map_append, List.map_cons, show enc (s, v0) = (.int .i64 (s : Int), (enc (s, v0)).2) from Prod.ext (K.key _) rfl] at h
  rw [List.map_append]
  exact h.del_in keyedInt ht (keyInt (inR_nat hs))
end

/-- A world at block p, its parts named; c colours the blocks. -/
structure WorldAt (w : World) (p ps mt mp : Nat) (sl : Sl) (tb : List (Nat × Nat)) (rw : Nat → List Rw) (pl : List Pl) (FS : List Nat) (Fs : Nat → List Nat) (c : Nat → Nat) : Prop where
  blk : w.heap[p]? = some (.cells #[.pointer (some ⟨ps, 0, none⟩), .map (some mt), .map (some mp)] 96 (0, 0))
  sl : RepS w ps sl FS
  tm : MapAt Tryz.prog 3 w mt (tb.map colPr)
  pm : MapAt Tryz.prog 3 w mp (pl.map plPr)
  tab : ∀ t ∈ tb, RepT w t.2 t.1 (rw t.1) (Fs t.1)
  cp : c p = 1
  cs : ∀ y ∈ FS, c y = 2
  ct : c mt = 3
  cm : c mp = 4
  cb : ∀ t ∈ tb, ∀ y ∈ Fs t.1, c y = 5 + t.1
def wF (p mt mp : Nat) (tb : List (Nat × Nat)) (FS : List Nat) (Fs : Nat → List Nat) : List Nat := p :: mt :: mp :: (FS ++ tb.flatMap fun t => Fs t.1)
theorem mem_wF {p mt mp : Nat} {tb : List (Nat × Nat)} {FS : List Nat} {Fs : Nat → List Nat} {y : Nat} : y ∈ wF p mt mp tb FS Fs ↔ y = p ∨ y = mt ∨ y = mp ∨ y ∈ FS ∨ ∃ t ∈ tb, y ∈ Fs t.1 := by
  unfold wF; simp only [List.mem_cons, List.mem_append, List.mem_flatMap]
def recol (c : Nat → Nat) (n k : Nat) (y : Nat) : Nat := if y < n then c y else k
theorem recol_lt {c : Nat → Nat} {n k y : Nat} (h : y < n) : recol c n k y = c y := if_pos h
theorem recol_ge {c : Nat → Nat} {n k y : Nat} (h : n ≤ y) : recol c n k y = k := if_neg (by omega)
section
variable {w w1 w2 w' : World} {p ps mt mp : Nat} {sl : Sl} {tb : List (Nat × Nat)} {rw : Nat → List Rw} {pl : List Pl} {FS : List Nat} {Fs : Nat → List Nat} {c : Nat → Nat}
theorem WorldAt.lt (h : WorldAt w p ps mt mp sl tb rw pl FS Fs c) : ∀ y ∈ wF p mt mp tb FS Fs, y < w.heap.size := by
  intro y hy
  rcases mem_wF.1 hy with rfl | rfl | rfl | hy | ⟨t, ht, hy⟩
  · exact blk_lt h.blk
  · exact h.tm.lt
  · exact h.pm.lt
  · exact h.sl.lt y hy
  · exact (h.tab t ht).lt y hy
theorem WorldAt.mod (h : WorldAt w p ps mt mp sl tb rw pl FS Fs c) {G : List Nat} (hm : Mod G w w') (hd : ∀ y ∈ wF p mt mp tb FS Fs, y ∉ G) : WorldAt w' p ps mt mp sl tb rw pl FS Fs c :=
  ⟨hm.keep h.blk (hd _ (mem_wF.2 (.inl rfl))), h.sl.mod hm (fun y hy => hd y (mem_wF.2 (.inr (.inr (.inr (.inl hy)))))), h.tm.mod hm (hd _ (mem_wF.2 (.inr (.inl rfl)))), h.pm.mod hm (hd _ (mem_wF.2 (.inr (.inr (.inl rfl))))),
    fun t ht => (h.tab t ht).mod hm (fun y hy => hd y (mem_wF.2 (.inr (.inr (.inr (.inr ⟨t, ht, hy⟩)))))), h.cp, h.cs, h.ct, h.cm, h.cb⟩
theorem WorldAt.below (h : WorldAt w p ps mt mp sl tb rw pl FS Fs c) (hb : Below w.heap.size w w') : WorldAt w' p ps mt mp sl tb rw pl FS Fs c := h.mod (Mod.ofBelow hb) (by simp)
theorem WorldAt.keys (h : WorldAt w p ps mt mp sl tb rw pl FS Fs c) : (tb.map (·.1)).Nodup := h.tm.keysNodup colPr_keys
theorem WorldAt.one (h : WorldAt w p ps mt mp sl tb rw pl FS Fs c) {k b b' : Nat} (h1 : (k, b) ∈ tb) (h2 : (k, b') ∈ tb) : b = b' := key_one h.keys h1 h2
/-- One table has turned. -/
theorem WorldAt.turnTab (h : WorldAt w p ps mt mp sl tb rw pl FS Fs c) {k b : Nat} (hk : (k, b) ∈ tb) {rows : List Rw} {F' : List Nat} (ht : RepT w' b k rows F') (hm : Turns w (Fs k) F' w') :
    WorldAt w' p ps mt mp sl tb (updL rw k rows) pl FS (updL Fs k F') (recol c w.heap.size (5 + k)) ∧ Turns w (wF p mt mp tb FS Fs) (wF p mt mp tb FS (updL Fs k F')) w' := by
  have hlt := h.lt
  have hck : ∀ y ∈ Fs k, c y = 5 + k := h.cb _ hk
  have hkeep : ∀ y ∈ wF p mt mp tb FS Fs, c y ≠ 5 + k → y ∉ Fs k := fun y _ hne hy => hne (hck y hy)
  have l0 := hlt p (mem_wF.2 (.inl rfl)); have l1 := hlt mt (mem_wF.2 (.inr (.inl rfl))); have l2 := hlt mp (mem_wF.2 (.inr (.inr (.inl rfl))))
  refine ⟨⟨hm.mod.keep h.blk (fun e => by have := hck _ e; rw [h.cp] at this; omega), h.sl.mod hm.mod (fun y hy e => by have := hck _ e; rw [h.cs y hy] at this; omega), h.tm.mod hm.mod (fun e => by have := hck _ e; rw [h.ct] at this; omega), h.pm.mod hm.mod (fun e => by have := hck _ e; rw [h.cm] at this; omega), ?_,
    by rw [recol_lt l0]; exact h.cp, fun y hy => by rw [recol_lt (h.sl.lt y hy)]; exact h.cs y hy, by rw [recol_lt l1]; exact h.ct, by rw [recol_lt l2]; exact h.cm, ?_⟩, ?_, ?_⟩
  · rintro ⟨j, b'⟩ hj
    by_cases e : j = k
    · subst e
      have := h.one hj hk
      subst this
      simp only [updL_same]; exact ht
    · simp only [updL_ne _ _ e]
      exact (h.tab _ hj).mod hm.mod (fun y hy e2 => by have h1 := hck _ e2; have h2 := h.cb _ hj y hy; simp only at h2; omega)
  · rintro ⟨j, b'⟩ hj y hy
    by_cases e : j = k
    · subst e
      simp only [updL_same] at hy
      rcases hm.new y hy with h1 | h1
      · rw [recol_lt ((h.tab _ hk).lt y h1)]; exact hck y h1
      · rw [recol_ge h1]
    · simp only [updL_ne _ _ e] at hy
      rw [recol_lt ((h.tab _ hj).lt y hy)]; exact h.cb _ hj y hy
  · exact hm.mod.mono fun x hx => .inl (mem_wF.2 (.inr (.inr (.inr (.inr ⟨_, hk, hx⟩)))))
  · intro y hy
    rcases mem_wF.1 hy with h1 | h1 | h1 | h1 | ⟨⟨j, b'⟩, hj, h1⟩
    · exact .inl (mem_wF.2 (.inl h1))
    · exact .inl (mem_wF.2 (.inr (.inl h1)))
    · exact .inl (mem_wF.2 (.inr (.inr (.inl h1))))
    · exact .inl (mem_wF.2 (.inr (.inr (.inr (.inl h1)))))
    · by_cases e : j = k
      · subst e
        simp only [updL_same] at h1
        rcases hm.new y h1 with h2 | h2
        · exact .inl (mem_wF.2 (.inr (.inr (.inr (.inr ⟨_, hk, h2⟩)))))
        · exact .inr h2
      · simp only [updL_ne _ _ e] at h1
        exact .inl (mem_wF.2 (.inr (.inr (.inr (.inr ⟨_, hj, h1⟩)))))
/-- The map of places has turned. -/
theorem WorldAt.turnPl (h : WorldAt w p ps mt mp sl tb rw pl FS Fs c) {pl' : List Pl} (hp : MapAt Tryz.prog 3 w' mp (pl'.map plPr)) (hm : Mod [mp] w w') :
    WorldAt w' p ps mt mp sl tb rw pl' FS Fs c ∧ Turns w (wF p mt mp tb FS Fs) (wF p mt mp tb FS Fs) w' := by
  have hno : ∀ y, c y ≠ 4 → y ∉ [mp] := fun y hy e => by simp at e; subst e; exact hy h.cm
  refine ⟨⟨hm.keep h.blk (hno _ (by rw [h.cp]; omega)), h.sl.mod hm (fun y hy => hno _ (by rw [h.cs y hy]; omega)), h.tm.mod hm (hno _ (by rw [h.ct]; omega)), hp, fun t ht => (h.tab t ht).mod hm (fun y hy => hno _ (by rw [h.cb t ht y hy]; omega)), h.cp, h.cs, h.ct, h.cm, h.cb⟩,
    hm.mono fun x hx => .inl (by simp at hx; subst hx; exact mem_wF.2 (.inr (.inr (.inl rfl)))), fun _ h => .inl h⟩
/-- A table has come. -/
theorem WorldAt.addTab (h : WorldAt w p ps mt mp sl tb rw pl FS Fs c) (hb : Below w.heap.size w w1) {k b : Nat} {rows : List Rw} {F : List Nat} (ht : RepT w1 b k rows F) (hF : ∀ y ∈ F, w.heap.size ≤ y) (hk : ∀ t ∈ tb, t.1 ≠ k)
    (hmap : MapAt Tryz.prog 3 w2 mt ((tb ++ [(k, b)]).map colPr)) (hm : Mod [mt] w1 w2) :
    WorldAt w2 p ps mt mp sl (tb ++ [(k, b)]) (updL rw k rows) pl FS (updL Fs k F) (recol c w.heap.size (5 + k)) ∧ Turns w (wF p mt mp tb FS Fs) (wF p mt mp (tb ++ [(k, b)]) FS (updL Fs k F)) w2 := by
  have hlt := h.lt
  have h1 := h.below hb
  have hno : ∀ y, c y ≠ 3 → y ∉ [mt] := fun y hy e => by simp at e; subst e; exact hy h.ct
  have l0 := hlt p (mem_wF.2 (.inl rfl)); have l1 := hlt mt (mem_wF.2 (.inr (.inl rfl))); have l2 := hlt mp (mem_wF.2 (.inr (.inr (.inl rfl))))
  refine ⟨⟨hm.keep h1.blk (hno _ (by rw [h.cp]; omega)), h1.sl.mod hm (fun y hy => hno _ (by rw [h.cs y hy]; omega)), hmap, h1.pm.mod hm (hno _ (by rw [h.cm]; omega)), ?_,
    by rw [recol_lt l0]; exact h.cp, fun y hy => by rw [recol_lt (h.sl.lt y hy)]; exact h.cs y hy, by rw [recol_lt l1]; exact h.ct, by rw [recol_lt l2]; exact h.cm, ?_⟩, ?_, ?_⟩
  · intro t hj
    rcases List.mem_append.1 hj with hj | hj
    · rw [updL_ne _ _ (hk t hj), updL_ne _ _ (hk t hj)]
      exact (h1.tab t hj).mod hm (fun y hy => hno _ (by rw [h.cb t hj y hy]; omega))
    · simp at hj; subst hj
      simp only [updL_same]
      exact ht.mod hm (fun y hy e => by simp at e; have := hF y hy; omega)
  · intro t hj y hy
    rcases List.mem_append.1 hj with hj | hj
    · rw [updL_ne _ _ (hk t hj)] at hy
      rw [recol_lt ((h.tab t hj).lt y hy)]; exact h.cb t hj y hy
    · simp at hj; subst hj
      simp only [updL_same] at hy
      rw [recol_ge (hF y hy)]
  · exact ((Mod.ofBelow hb).mono (by simp)).trans hm (fun x hx => .inl (by simp at hx; subst hx; exact mem_wF.2 (.inr (.inl rfl))))
  · intro y hy
    rcases mem_wF.1 hy with h1 | h1 | h1 | h1 | ⟨t, hj, h1⟩
    · exact .inl (mem_wF.2 (.inl h1))
    · exact .inl (mem_wF.2 (.inr (.inl h1)))
    · exact .inl (mem_wF.2 (.inr (.inr (.inl h1))))
    · exact .inl (mem_wF.2 (.inr (.inr (.inr (.inl h1)))))
    · rcases List.mem_append.1 hj with hj | hj
      · rw [updL_ne _ _ (hk t hj)] at h1
        exact .inl (mem_wF.2 (.inr (.inr (.inr (.inr ⟨t, hj, h1⟩)))))
      · simp at hj; subst hj
        simp only [updL_same] at h1
        exact .inr (hF y h1)
/-- A table has gone. -/
theorem WorldAt.delTab (h : WorldAt w p ps mt mp sl tb rw pl FS Fs c) {k : Nat} (hmap : MapAt Tryz.prog 3 w' mt ((delPl tb k).map colPr)) (hm : Mod [mt] w w') :
    WorldAt w' p ps mt mp sl (delPl tb k) rw pl FS Fs c ∧ Turns w (wF p mt mp tb FS Fs) (wF p mt mp (delPl tb k) FS Fs) w' := by
  have hno : ∀ y, c y ≠ 3 → y ∉ [mt] := fun y hy e => by simp at e; subst e; exact hy h.ct
  refine ⟨⟨hm.keep h.blk (hno _ (by rw [h.cp]; omega)), h.sl.mod hm (fun y hy => hno _ (by rw [h.cs y hy]; omega)), hmap, h.pm.mod hm (hno _ (by rw [h.cm]; omega)), fun t ht => (h.tab t (mem_delPl.1 ht).1).mod hm (fun y hy => hno _ (by rw [h.cb t (mem_delPl.1 ht).1 y hy]; omega)), h.cp, h.cs, h.ct, h.cm, fun t ht => h.cb t (mem_delPl.1 ht).1⟩,
    hm.mono fun x hx => .inl (by simp at hx; subst hx; exact mem_wF.2 (.inr (.inl rfl))), ?_⟩
  intro y hy
  rcases mem_wF.1 hy with h1 | h1 | h1 | h1 | ⟨t, hj, h1⟩
  · exact .inl (mem_wF.2 (.inl h1))
  · exact .inl (mem_wF.2 (.inr (.inl h1)))
  · exact .inl (mem_wF.2 (.inr (.inr (.inl h1))))
  · exact .inl (mem_wF.2 (.inr (.inr (.inr (.inl h1)))))
  · exact .inl (mem_wF.2 (.inr (.inr (.inr (.inr ⟨t, (mem_delPl.1 hj).1, h1⟩)))))
/-- The slots have turned. -/
theorem WorldAt.turnSl (h : WorldAt w p ps mt mp sl tb rw pl FS Fs c) {sl' : Sl} {FS' : List Nat} (hs : RepS w' ps sl' FS') (hm : Turns w FS FS' w') :
    WorldAt w' p ps mt mp sl' tb rw pl FS' Fs (recol c w.heap.size 2) ∧ Turns w (wF p mt mp tb FS Fs) (wF p mt mp tb FS' Fs) w' := by
  have hlt := h.lt
  have hno : ∀ y, c y ≠ 2 → y ∉ FS := fun y hy e => hy (h.cs y e)
  have l0 := hlt p (mem_wF.2 (.inl rfl)); have l1 := hlt mt (mem_wF.2 (.inr (.inl rfl))); have l2 := hlt mp (mem_wF.2 (.inr (.inr (.inl rfl))))
  refine ⟨⟨hm.mod.keep h.blk (hno _ (by rw [h.cp]; omega)), hs, h.tm.mod hm.mod (hno _ (by rw [h.ct]; omega)), h.pm.mod hm.mod (hno _ (by rw [h.cm]; omega)), fun t ht => (h.tab t ht).mod hm.mod (fun y hy => hno _ (by rw [h.cb t ht y hy]; omega)),
    by rw [recol_lt l0]; exact h.cp, ?_, by rw [recol_lt l1]; exact h.ct, by rw [recol_lt l2]; exact h.cm, fun t ht y hy => by rw [recol_lt ((h.tab t ht).lt y hy)]; exact h.cb t ht y hy⟩, hm.mod.mono fun x hx => .inl (mem_wF.2 (.inr (.inr (.inr (.inl hx))))), ?_⟩
  · intro y hy
    rcases hm.new y hy with h1 | h1
    · rw [recol_lt (h.sl.lt y h1)]; exact h.cs y h1
    · rw [recol_ge h1]
  · intro y hy
    rcases mem_wF.1 hy with h1 | h1 | h1 | h1 | ⟨t, hj, h1⟩
    · exact .inl (mem_wF.2 (.inl h1))
    · exact .inl (mem_wF.2 (.inr (.inl h1)))
    · exact .inl (mem_wF.2 (.inr (.inr (.inl h1))))
    · rcases hm.new y h1 with h2 | h2
      · exact .inl (mem_wF.2 (.inr (.inr (.inr (.inl h2)))))
      · exact .inr h2
    · exact .inl (mem_wF.2 (.inr (.inr (.inr (.inr ⟨t, hj, h1⟩)))))
end
end Go.Proofs.YtehjfmjibiafdaaGreat
