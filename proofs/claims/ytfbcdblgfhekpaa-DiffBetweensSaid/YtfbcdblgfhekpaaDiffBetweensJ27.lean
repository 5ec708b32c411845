import Derived.Test.YtfbcdblgfhekpaaDiffBetweensJ26
/- The reference's bonds: Loosen, less, Under. (printed by mk_rf3.py) -/
namespace Go.Proofs.Ytfbcdblgfhekpaa
open Go Go.RowKit
attribute [local go_sem] AllFrom.cons_eq AllFrom.nil_eq putF_nil putF_cons wantedL_none wantedL_some OpGoalT OpGoalV OpGoalQ OpGoalA OpGoalK YieldsR preF_nil preF_cons

theorem Turns.same {w w' : World} {F : List Nat} (hb : Below w.heap.size w w') : Turns w F F w' := ⟨(Mod.ofBelow hb).mono (by simp), fun _ h => .inl h⟩
/-- append of one handle; what else lay stays. -/
theorem app_handleG {w : World} {ops : Array Oper} {rest : List Oper} {o : Oper} {a : Act} {Q : Exit → Act → World → Prop} (hgd : o.guard = none) (s x : Operand)
    (ho : o.op = .call { callee := .builtin .append, args := #[s, x], argTypes := #[47, 47] }) (base : Nat) (v : Value) (l : List Hd) (y : Hd) (ad : Addr) (c : Nat)
    (hs : a.eval s = v) (hown : w.ownsRow base 28 2 v l.length (l.flatMap handleC)) (hx : a.eval x = .slice (some ad) 1 c) (hc : ∀ j u, (handleC y)[j]? = some u → w.cell? (ad.add j) = some u)
    (hlen : l.length < 8796093022207) (hbase : base ≤ w.heap.size)
    (h : ∀ v' w', w'.ownsRow base 28 2 v' (l ++ [y]).length ((l ++ [y]).flatMap handleC) → w.grownBy w' v.ownBlock → wpList Try.prog ops Q rest (a.put o.dst v') w') : wpList Try.prog ops Q (o :: rest) a w := by
  refine app_rec (enc := handleC) (n := 2) (z := .agg #[.int .i64 0, .int .i64 0]) (bytes := 16) hgd s x 47 28 ho Try.underlying47 info_handle rfl (by omega) (by omega) handleC_one handleC_len base v l y ad c hs hown hx hc (by omega) hbase ?_
  intro v' w' h1 h2 _
  exact h v' w' h1 h2
theorem wpList_app {P : Program} {w w' : World} {ops : Array Oper} {rest : List Oper} {o : Oper} {a : Act} {Q : Exit → Act → World → Prop} (hgd : o.guard = none) (s x : Operand) (T : TypeId)
    (ho : o.op = .call { callee := .builtin .append, args := #[s, x], argTypes := #[T, T] }) {v1 v2 v' : Value} (hs : a.eval s = v1) (hx : a.eval x = v2)
    (hr : (Builtin.append_ #[T, T] o.type #[v1, v2]).run P w = .ok v' w') (h : wpList P ops Q rest (a.put o.dst v') w') : wpList P ops Q (o :: rest) a w := by
  refine wpList_plain hgd fun K hK => ?_
  unfold Oper.wp execOp
  simp only [ho, resolve, invoke, builtin, Sem.run_bind, Sem.run_pure, Result.andThen_ok, List.map_toArray, List.map_cons, List.map_nil, hs, hx, hr]
  exact hK _ _ h
/-- append of a list of handles. -/
theorem run_appH {w : World} (base B2 : Nat) (v v2 : Value) (l l2 : List Hd) (ty : TypeId) (hown : w.ownsRow base 28 2 v l.length (l.flatMap handleC)) (hrow : w.ownsRow B2 28 2 v2 l2.length (l2.flatMap handleC))
    (hlen : l.length + l2.length < 8796093022207) (hbase : base ≤ w.heap.size) :
    ∃ v' w', (Builtin.append_ #[47, 47] ty #[v, v2]).run Try.prog w = .ok v' w' ∧ w'.ownsRow base 28 2 v' (l ++ l2).length ((l ++ l2).flatMap handleC) ∧ w.grownBy w' v.ownBlock := by
  obtain ⟨i0, hi, hz0, hz1, hz2⟩ := info_parts info_handle
  rcases hrow with ⟨hx, ⟨rfl, h2⟩ | ⟨g, cap2, cur, rfl, h3⟩⟩
  · have hl2 : l2 = [] := List.eq_nil_of_length_eq_zero h2
    subst hl2
    exact ⟨v, w, run_append_owned_none (P := Try.prog) w base 47 ty 28 i0 2 Try.underlying47 hi v l.length _ hown, by simpa using hown, ⟨rfl, rfl, rfl, Nat.le_refl _, fun _ _ _ => rfl⟩⟩
  · have hrow2 : w.ownsRow B2 28 2 (.slice (some ⟨g, 0, none⟩) l2.length cap2) l2.length (l2.flatMap handleC) := ⟨hx, .inr ⟨g, cap2, cur, rfl, h3⟩⟩
    obtain ⟨v', w', hr, h4, h5, -, -⟩ := run_append_own_at (P := Try.prog) w base 47 ty 28 i0 _ 2 16 Try.underlying47 hi hz0 hz1 hz2 rfl (by omega) v l.length _ hown ⟨g, 0, none⟩ l2.length cap2 (l2.flatMap handleC) (flatV_length handleC_len l2) (fun j u hu => by
      have h5 := row_cell hrow2 hu
      rw [Addr.add_mid, Nat.zero_add]; exact h5) (flat_one handleC_one _) (by unfold maxLen; omega) (by omega) hbase
    refine ⟨v', w', hr, ?_, h5⟩
    rw [List.length_append, List.flatMap_append]
    exact h4
theorem app_list {w : World} {ops : Array Oper} {rest : List Oper} {o : Oper} {a : Act} {Q : Exit → Act → World → Prop} (hgd : o.guard = none) (s x : Operand)
    (ho : o.op = .call { callee := .builtin .append, args := #[s, x], argTypes := #[47, 47] }) (base B2 : Nat) (v v2 : Value) (l l2 : List Hd)
    (hs : a.eval s = v) (hown : w.ownsRow base 28 2 v l.length (l.flatMap handleC)) (hx : a.eval x = v2) (hrow : w.ownsRow B2 28 2 v2 l2.length (l2.flatMap handleC))
    (hlen : l.length + l2.length < 8796093022207) (hbase : base ≤ w.heap.size)
    (h : ∀ v' w', w'.ownsRow base 28 2 v' (l ++ l2).length ((l ++ l2).flatMap handleC) → w.grownBy w' v.ownBlock → wpList Try.prog ops Q rest (a.put o.dst v') w') : wpList Try.prog ops Q (o :: rest) a w := by
  obtain ⟨v', w', hr, h1, h2⟩ := run_appH base B2 v v2 l l2 o.type hown hrow hlen hbase
  exact wpList_app hgd s x _ ho hs hx hr (h v' w' h1 h2)
theorem underN_len {B : List Bd} (h : FamOk B) {n : Nat} {x : Hd} (hl : Low B n x) : (underN B n x).length ≤ B.length := by
  have h1 := nodup_le (under_nodup h hl) (ys := B.map (·.1)) (fun y hy => by
    obtain ⟨p, h1, -⟩ := (mem_under hl).1 hy
    exact List.mem_map.2 ⟨_, h1, rfl⟩)
  rw [List.length_map] at h1
  exact h1
/-- What has come behind k of the children. -/
def undP (B : List Bd) (n : Nat) (ks : List Hd) (k : Nat) : List Hd := (ks.take k).flatMap (fun c => c :: underN B n c)
theorem undP_succ (B : List Bd) (n : Nat) (ks : List Hd) (k : Nat) (hk : k < ks.length) : undP B n ks (k + 1) = (undP B n ks k ++ [ks[k]]) ++ underN B n ks[k] := by
  unfold undP; rw [take_succ_get ks k hk, List.flatMap_append]; simp
theorem undP_all (B : List Bd) (n : Nat) (h : Hd) : undP B n (kidsB B h) (kidsB B h).length = underN B (n + 1) h := by
  unfold undP; rw [List.take_length]; rfl
theorem undP_len (B : List Bd) (n : Nat) (ks : List Hd) (k : Nat) : (undP B n ks k).length ≤ (undP B n ks ks.length).length := by
  unfold undP
  rw [List.take_length]
  conv => rhs; rw [← List.take_append_drop k ks]
  rw [List.flatMap_append, List.length_append]; omega

section
variable {vg vl vr : Value} {w : World} {q : Nat} {B : List Bd} {F : List Nat}
set_option maxRecDepth 20000 in
set_option maxHeartbeats 4000000 in
theorem less_any (s g t u : Int) (w : World) : Calls Try.prog 21 #[.agg #[.int .i64 s, .int .i64 g], .agg #[.int .i64 t, .int .i64 u]] w (BoolPost (ltH (s, g) (t, u)) w) := by
  have hB : Below w.heap.size w ((w.alloc (.cells #[.int .i64 s, .int .i64 g] 28)).alloc (.cells #[.int .i64 t, .int .i64 u] 28)) := ((Below.refl _ _).alloc (Nat.le_refl _) _).alloc (by simp) _
  have HB := Lib.hid hB
  clear hB
  unfold ltH
  simp only
  by_cases h1 : s < t
  · rw [show (decide (s < t) || (decide (s = t) && decide (g < u))) = true by simp [h1]]
    go_enter Try.func21, Try.ntmps21
    go_wp2
    go_ret
    exact ⟨rfl, HB.out⟩
  · by_cases h2 : s = t
    · subst h2
      by_cases h3 : g < u
      · rw [show (decide (s < s) || (decide (s = s) && decide (g < u))) = true by simp [h3]]
        go_enter Try.func21, Try.ntmps21
        go_wp2
        go_ret
        exact ⟨rfl, HB.out⟩
      · rw [show (decide (s < s) || (decide (s = s) && decide (g < u))) = false by simp [h3]]
        go_enter Try.func21, Try.ntmps21
        go_wp2
        go_ret
        exact ⟨rfl, HB.out⟩
    · rw [show (decide (s < t) || (decide (s = t) && decide (g < u))) = false by simp [h1, h2]]
      go_enter Try.func21, Try.ntmps21
      go_wp2
      go_ret
      exact ⟨rfl, HB.out⟩

end
end Go.Proofs.Ytfbcdblgfhekpaa
