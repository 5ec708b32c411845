import Derived.Test.YtfbcdblgfhekpaaDiffBetweensJ19
import Derived.Test.YtfbcdblgfhekpaaDiffBetweensJ22
import Derived.Test.YtfbcdblgfhekpaaDiffBetweensJ17
import Derived.Test.YtfbcdblgfhekpaaDiffBetweensJ10
/- diff.Between. (printed by mk_df7.py) -/
namespace Go.Proofs.Ytfbcdblgfhekpaa
open Go Go.RowKit Go.Maps Go.Shelf
attribute [local go_sem] AllFrom.cons_eq AllFrom.nil_eq putF_nil putF_cons wantedL_none wantedL_some OpGoalT OpGoalV OpGoalQ OpGoalA OpGoalK YieldsR preF_nil preF_cons

theorem mayB_ok {l : List Rw} (h : mayB l = true) : l.length ≤ 60 ∧ (∀ r ∈ l, 0 ≤ r.1.1 ∧ r.1.1 ≤ 59 ∧ 0 ≤ r.1.2 ∧ r.1.2 ≤ 1000000) ∧ l.Pairwise (fun x y => x.1.1 < y.1.1) := by
  unfold mayB at h
  rw [Bool.and_eq_true] at h
  obtain ⟨h1, h2⟩ := h
  have hk : ∀ n (hn : n < l.length), okAt l n = true := fun n hn => List.all_eq_true.1 h1 n (List.mem_range.2 hn)
  refine ⟨by simpa using h2, ?_, ?_⟩
  · intro r hr
    obtain ⟨i, hi, rfl⟩ := List.mem_iff_getElem.1 hr
    have := hk i hi
    rw [okAt_eq l i hi] at this
    simp only [Bool.and_eq_true, withinB, decide_eq_true_eq] at this
    omega
  · rw [List.pairwise_iff_getElem]
    have step : ∀ k (hk1 : k + 1 < l.length), l[k].1.1 < l[k + 1].1.1 := by
      intro k hk1
      have := hk (k + 1) hk1
      rw [okAt_eq l (k + 1) hk1] at this
      simp only [Bool.and_eq_true] at this
      have := this.2
      unfold prevB at this
      simp only [List.getElem?_eq_getElem (show k < l.length by omega)] at this
      simpa using this
    intro i j hi hj hij
    induction j with
    | zero => omega
    | succ j ih =>
      by_cases e : i = j
      · subst e; exact step i hj
      · exact Int.lt_trans (ih (by omega) (by omega)) (step j hj)
theorem mayB_hd {l : List Rw} (h : mayB l = true) : ∀ r ∈ l, HdR r.1 := by
  intro r hr
  have := (mayB_ok h).2.1 r hr
  unfold HdR InR
  omega
theorem mayB_apart {l : List Rw} (h : mayB l = true) : l.Pairwise (fun x y => x.1 ≠ y.1) := (mayB_ok h).2.2.imp fun {x y} hlt e => by rw [e] at hlt; omega

/-- The handles of both lists, in order. -/
structure BetH (la lb : List Rw) (hs : List Hd) : Prop where
  so : hs.Pairwise (fun x y => ltH x y = true)
  mem : ∀ h, h ∈ hs ↔ hasH la h ∨ hasH lb h
def betL (la lb : List Rw) (hs : List Hd) : List Cg := (hs.filter (fun h => !eqB (getM la h) (getM lb h))).map (fun h => (h, getM la h, getM lb h))
theorem betL_snoc (la lb : List Rw) (hs : List Hd) (h : Hd) : betL la lb (hs ++ [h]) = betL la lb hs ++ if eqB (getM la h) (getM lb h) = true then [] else [(h, getM la h, getM lb h)] := by
  unfold betL
  rw [List.filter_append, List.map_append]
  congr 1
  cases e : eqB (getM la h) (getM lb h) <;> simp [e]
theorem betL_len (la lb : List Rw) (hs : List Hd) : (betL la lb hs).length ≤ hs.length := by unfold betL; rw [List.length_map]; exact List.length_filter_le _ _
theorem hasH_perm {l l' : List Rw} (h : l.Perm l') (k : Hd) : hasH l k ↔ hasH l' k := ⟨fun ⟨b, hb⟩ => ⟨b, h.mem_iff.1 hb⟩, fun ⟨b, hb⟩ => ⟨b, h.mem_iff.2 hb⟩⟩
theorem betH_of {la lb l' : List Rw} {xs hs : List Hd} (h1 : ∀ h, hasH l' h ↔ hasH la h ∨ hasH lb h) (h2 : l'.Pairwise (fun x y => x.1 ≠ y.1)) (h3 : xs.Perm (l'.map (·.1))) (h4 : hs.Perm xs)
    (h5 : hs.Pairwise (fun x y => ltOf (fun x y : Hd => cmpH x y) y x = false)) : BetH la lb hs := by
  have hp := h4.trans h3
  refine ⟨?_, fun h => ?_⟩
  · have hnd : hs.Pairwise (fun x y => x ≠ y) := by
      have h6 : (l'.map (·.1)).Pairwise (fun x y => x ≠ y) := by rw [List.pairwise_map]; exact h2
      exact (List.Perm.pairwise_iff (fun h => Ne.symm h) hp).2 h6
    refine (h5.and hnd).imp ?_
    rintro x y ⟨e1, e2⟩
    have e1 : ltOf cmpH y x = false := e1
    rw [ltHd_eq] at e1
    cases h : ltH x y with
    | true => rfl
    | false => exact absurd (ltH_tri h e1) e2
  · rw [hp.mem_iff, ← h1 h, List.mem_map]
    exact ⟨fun ⟨⟨a, b⟩, hm, e⟩ => ⟨b, by rw [← e]; exact hm⟩, fun ⟨b, hb⟩ => ⟨_, hb, rfl⟩⟩

theorem app_cg {w : World} {ops : Array Oper} {rest : List Oper} {o : Oper} {a : Act} {Q : Exit → Act → World → Prop} (hgd : o.guard = none) (s x : Operand)
    (ho : o.op = .call { callee := .builtin .append, args := #[s, x], argTypes := #[23, 23] }) (base : Nat) (v : Value) (l : List Cg) (y : Cg) (ad : Addr) (c : Nat)
    (hs : a.eval s = v) (hown : ownC w base v l) (hx : a.eval x = .slice (some ad) 1 c) (hc : ∀ j u, (cgC y)[j]? = some u → w.cell? (ad.add j) = some u)
    (hlen : l.length ≤ 800000000000) (hbase : base ≤ w.heap.size)
    (h : ∀ v' w', ownC w' base v' (l ++ [y]) → w.grownBy w' v.ownBlock → wpList Try.prog ops Q rest (a.put o.dst v') w') : wpList Try.prog ops Q (o :: rest) a w := by
  refine app_rec (enc := cgC) (n := 20) (z := .agg (Array.replicate 20 (.int .i64 0))) (bytes := 160) hgd s x 23 36 ho Try.underlying23 inf_Change rfl (by omega) (by omega) cgC_one cgC_len base v l y ad c hs hown hx hc (by omega) hbase ?_
  intro v' w' h1 h2 _
  exact h v' w' h1 h2

theorem blk_piece {w : World} {b : Nat} {cs : List Value} {t : TypeId} (h : w.heap[b]? = some (.cells cs.toArray t (0, 0))) (o : Nat) (xs : List Value) (hx : ∀ j u, xs[j]? = some u → cs[o + j]? = some u) :
    ∀ j u, xs[j]? = some u → w.cell? ((⟨b, o, none⟩ : Addr).add j) = some u := fun j u hu => by
  rw [Addr.add_mid]
  exact (blk_cell h (o + j)).trans (by rw [List.getElem?_toArray]; exact hx j u hu)

def BtwPost (la lb : List Rw) (w : World) (e : Ending) (w' : World) : Prop :=
  Below w.heap.size w w' ∧ if mayB la = true ∧ mayB lb = true then ∃ (v : Value) (hs : List Hd), e = .returned (.tuple #[v, .int .i64 0]) ∧ BetH la lb hs ∧ ownC w' w.heap.size v (betL la lb hs)
    else e = .returned (.tuple #[.slice none 0 0, .int .i64 4])

set_option maxRecDepth 20000 in
set_option maxHeartbeats 4000000 in
theorem between_any {w : World} (A : Option Addr) (c : Nat) (la : List Rw) (A' : Option Addr) (c' : Nat) (lb : List Rw) (hla : la.length ≤ 9223372036854775807) (hlb : lb.length ≤ 9223372036854775807) (hA : Lies w w.heap.size A (la.flatMap rwC)) (hB : Lies w w.heap.size A' (lb.flatMap rwC)) :
    Calls Try.prog 5 #[.slice A la.length c, .slice A' lb.length c'] w (BtwPost la lb w) := by
  have HLa := Lib.hid hla; have HLb := Lib.hid hlb; have HA := Lib.hid hA; have HB := Lib.hid hB
  clear hla hlb hA hB
  go_enter Try.func5, Try.ntmps5
  go_wp2_with fail
  refine (may_any A c la _ HLa.out HA.out).mono ?_
  rintro e w1 ⟨rfl, hb1⟩
  cases hma : mayB la with
  | false =>
    have Hfin := Lib.hid (show BtwPost la lb w (.returned (.tuple #[.slice none 0 0, .int .i64 4])) w1 from ⟨hb1, by rw [if_neg (by rw [hma]; simp)]⟩)
    clear hb1
    go_wp2_with fail
    refine bodyPost_ret (v := .tuple #[.slice none 0 0, .int .i64 4]) (by unfold results; try go_simp) rfl Hfin.out
  | true =>
    have Hma := Lib.hid hma; have Hb1 := Lib.hid hb1
    clear hma hb1
    go_wp2_with fail
    refine (may_any A' c' lb _ HLb.out ((HB.out.below Hb1.out).mono Hb1.out.size)).mono ?_
    rintro e w2 ⟨rfl, hb2⟩
    have hb02 := Hb1.out.trans (hb2.mono Hb1.out.size)
    cases hmb : mayB lb with
    | false =>
      have Hfin := Lib.hid (show BtwPost la lb w (.returned (.tuple #[.slice none 0 0, .int .i64 4])) w2 from ⟨hb02, by rw [if_neg (by rw [hmb]; simp)]⟩)
      clear hb2 hb02
      go_wp2_with fail
      refine bodyPost_ret (v := .tuple #[.slice none 0 0, .int .i64 4]) (by unfold results; try go_simp) rfl Hfin.out
    | true =>
      have Hmb := Lib.hid hmb; have HB02 := Lib.hid hb02
      clear hmb hb2 hb02
      go_wp2_with fail
      refine (of_any A c la HLa.out ((HA.out.below HB02.out).mono HB02.out.size) (mayB_apart Hma.out) (mayB_hd Hma.out)).mono ?_
      rintro e w3 ⟨mx, lx, rfl, hMx3, hpx, hmx, hb3⟩
      have hb03 := HB02.out.trans (hb3.mono HB02.out.size)
      have HMx3 := Lib.hid hMx3; have HPx := Lib.hid hpx; have Hmx := Lib.hid hmx; have Hb03 := Lib.hid hb03
      clear hMx3 hpx hmx hb03
      clear hb3
      go_wp2_with fail
      refine (of_any A' c' lb HLb.out ((HB.out.below Hb03.out).mono Hb03.out.size) (mayB_apart Hmb.out) (mayB_hd Hmb.out)).mono ?_
      rintro e w4 ⟨my, ly, rfl, hMy4, hpy, hmy, hb4⟩
      have hb04 := Hb03.out.trans (hb4.mono Hb03.out.size)
      have hMx4 := HMx3.out.mod (Mod.ofBelow hb4) (by simp)
      have HMx4 := Lib.hid hMx4; have HMy4 := Lib.hid hMy4; have HPy := Lib.hid hpy; have Hmy := Lib.hid hmy; have Hb04 := Lib.hid hb04
      clear hMx4 hMy4 hpy hmy hb04
      clear hb4
      go_wp2_with fail
      refine (mclone_any HMx4.out).mono ?_
      rintro e w5 ⟨rfl, hMc5, hb5, hs5⟩
      have hb05 := Hb04.out.trans (hb5.mono Hb04.out.size)
      have hMx5 := HMx4.out.mod (Mod.ofBelow hb5) (by simp)
      have hMy5 := HMy4.out.mod (Mod.ofBelow hb5) (by simp)
      have hlx4 := HMx4.out.lt
      have hly4 := HMy4.out.lt
      have HMc5 := Lib.hid hMc5; have HMx5 := Lib.hid hMx5; have HMy5 := Lib.hid hMy5; have Hb05 := Lib.hid hb05; have Hlx4 := Lib.hid hlx4; have Hly4 := Lib.hid hly4
      clear hMc5 hMx5 hMy5 hb05 hlx4 hly4
      clear hb5 hs5
      go_wp2_with fail
      refine (mcopy_any HMc5.out HMy5.out (by have := Hly4.out; omega) (fun r hr => mayB_hd Hmb.out r (HPy.out.mem_iff.1 hr))).mono ?_
      rintro e w6 ⟨rfl, ⟨l6, hMc6, hk6, hl6⟩, hm6⟩
      have hMx6 := HMx5.out.mod hm6 (by have := Hlx4.out; simp; omega)
      have hMy6 := HMy5.out.mod hm6 (by have := Hly4.out; simp; omega)
      have hb06 : Below w.heap.size w w6 := Hb05.out.trans (hm6.toBelow (by have := Hb04.out.size; simpa using this) Hb05.out.size)
      obtain ⟨w7, hw7, hb7, hz7, hs7⟩ := box1 w6 (.cells #[.map (some w4.heap.size)] 43)
      have hMc7 := hMc6.mod (Mod.ofBelow hb7) (by simp)
      have hap := mh_apart rwPr_keys hMc6
      have hseq := fun n => keys_seq n hMc7 w6.heap.size hz7
      have hl6' : l6.length ≤ 120 := by
        have e1 := HPx.out.length_eq
        have e2 := HPy.out.length_eq
        have e3 := (mayB_ok Hma.out).1
        have e4 := (mayB_ok Hmb.out).1
        omega
      have hS := sortedFunc_any (w := w7) (enters_of Try.func32 (by kernel_rfl) rfl) (by omega) hseq (fun l hl => by have := hl.length_eq; simp at this; omega)
      have hMx7 := hMx6.mod (Mod.ofBelow hb7) (by simp)
      have hMy7 := hMy6.mod (Mod.ofBelow hb7) (by simp)
      have hb07 := hb06.trans (hb7.mono hb06.size)
      have Hk6 := Lib.hid hk6; have Hap := Lib.hid hap; have HS := Lib.hid hS; have HMx7 := Lib.hid hMx7; have HMy7 := Lib.hid hMy7; have Hb07 := Lib.hid hb07; have Hl6' := Lib.hid hl6'; have HW7 := Lib.hid hw7
      clear hk6 hap hS hMx7 hMy7 hb07 hl6' hw7
      clear hMc6 hl6 hm6 hMx6 hMy6 hb06 hb7 hz7 hs7 hMc7 hseq
      go_wp2_with fail
      refine (keys_any w4.heap.size w6).mono ?_
      rintro e w7' ⟨rfl, rfl⟩
      rw [HW7.out]
      go_wp2_with fail
      refine HS.out.mono ?_
      rintro e w8 ⟨v, xs, hs, rfl, hxs, hp, hpw, hown8, hb8⟩
      have hBH : BetH la lb hs := betH_of (fun h => (Hk6.out h).trans (by rw [hasH_perm HPx.out, hasH_perm HPy.out])) Hap.out hxs hp hpw
      have hlen8 : hs.length ≤ 120 := by
        have e1 := hp.length_eq
        have e2 := hxs.length_eq
        have e3 := Hl6'.out
        simp at e2
        omega
      obtain ⟨A8, c8, rfl, hc8, hL8⟩ := row_lies hown8
      have hb08 := Hb07.out.trans (hb8.mono Hb07.out.size)
      have hMx8 := Hmx.out
      have hMX8 := HMx7.out.mod (Mod.ofBelow hb8) (by simp)
      have hMY8 := HMy7.out.mod (Mod.ofBelow hb8) (by simp)
      have hgx : ∀ h, getM lx h = getM la h := fun h => getM_perm (mayB_apart Hma.out) HPx.out h
      have hgy : ∀ h, getM ly h = getM lb h := fun h => getM_perm (mayB_apart Hmb.out) HPy.out h
      have hhr : ∀ h ∈ hs, HdR h := fun h hh => by
        rcases (hBH.mem h).1 hh with ⟨b, hb⟩ | ⟨b, hb⟩
        · exact mayB_hd Hma.out _ hb
        · exact mayB_hd Hmb.out _ hb
      have hgA : ∀ (V : World) (s g : Int), (s, g) ∈ hs → Below w8.heap.size w8 V → Calls Try.prog 18 #[.map (some mx), .agg #[.int .i64 s, .int .i64 g]] V (GetPost (getM la (s, g)) V) := fun V s g hm hV => by
        rw [← hgx]; exact get_any (hMX8.mod (Mod.ofBelow hV) (by simp)) s g (hhr _ hm)
      have hgB : ∀ (V : World) (s g : Int), (s, g) ∈ hs → Below w8.heap.size w8 V → Calls Try.prog 18 #[.map (some my), .agg #[.int .i64 s, .int .i64 g]] V (GetPost (getM lb (s, g)) V) := fun V s g hm hV => by
        rw [← hgy]; exact get_any (hMY8.mod (Mod.ofBelow hV) (by simp)) s g (hhr _ hm)
      have HBH := Lib.hid hBH; have Hlen8 := Lib.hid hlen8; have HL8 := Lib.hid hL8; have Hb08 := Lib.hid hb08; have HGA := Lib.hid hgA; have HGB := Lib.hid hgB
      clear hBH hlen8 hL8 hb08 hgA hgB
      clear hxs hp hpw hown8 hb8 hMx8 hMX8 hMY8 hgx hgy hhr hc8
      go_wp2_with fail
      go_loopw [9, 34] (fun v i wr => ∃ k : Nat, k ≤ hs.length ∧ i = .int .i64 k ∧ ownC wr w8.heap.size v (betL la lb (hs.take k)) ∧ Below w8.heap.size w8 wr) (fun _ i _ => hs.length - (intOf i).toNat)
      case atStart => exact ⟨0, by omega, rfl, ⟨rfl, .inl ⟨rfl, rfl⟩⟩, Below.refl _ _⟩
      case round =>
        obtain ⟨k, hk, rfl, hown, hB8⟩ := hrel
        have hsz := hB8.size
        by_cases hlt : k < hs.length
        · obtain ⟨ab, ao, rfl, hal, hc⟩ := HL8.out.rec_at handleC_len (by omega) hlt
          have hq : ∀ j u, (handleC hs[k])[j]? = some u → wr.cell? ((⟨ab, ao + k * 2, none⟩ : Addr).add j) = some u := fun j u hu => (hB8.cell (p := (⟨ab, ao + k * 2, none⟩ : Addr).add j) (by rw [add_block]; exact hal)).trans (by first | exact hc j u hu | (have := hc j u hu; rw [Addr.add_mid]; exact this))
          have hki : (k : Int) < (hs.length : Int) := by omega
          have hst : betL la lb (hs.take (k + 1)) = betL la lb (hs.take k) ++ (if eqB (getM la hs[k]) (getM lb hs[k]) = true then [] else [(hs[k], getM la hs[k], getM lb hs[k])]) := by rw [take_succ_get hs k hlt]; exact betL_snoc la lb _ _
          have hll : (betL la lb (hs.take k)).length ≤ 120 := Nat.le_trans (betL_len _ _ _) (by rw [List.length_take]; have := Hlen8.out; omega)
          have hmem := List.getElem_mem hlt
          generalize betL la lb (hs.take k) = L at *
          generalize hs[k] = x at *
          obtain ⟨s, g⟩ := x
          have hg1 := fun V (hV : Below w8.heap.size w8 V) => HGA.out V s g hmem hV
          have hg2 := fun V (hV : Below w8.heap.size w8 V) => HGB.out V s g hmem hV
          obtain ⟨w9, hw9, hb9, hz9, hs9⟩ := box1 wr (.cells #[.int .i64 s, .int .i64 g] 28)
          have hb89 := hB8.trans (hb9.mono hsz)
          have hown9 : ownC w9 w8.heap.size _ L := row_mod hown (Mod.ofBelow hb9) (by simp)
          generalize getM la (s, g) = ba at *
          generalize getM lb (s, g) = bb at *
          obtain ⟨K, a0, a1, a2, a3, a4, a5, a6, a7⟩ := ba
          obtain ⟨M, b0, b1, b2, b3, b4, b5, b6, b7⟩ := bb
          have hG1 : ∀ V, Below w9.heap.size w9 V → Calls Try.prog 18 #[.map (some mx), .agg #[.int .i64 s, .int .i64 g]] V fun e V' => e = .returned (.agg #[.int .i64 K, .int .i64 a0, .int .i64 a1, .int .i64 a2, .int .i64 a3, .int .i64 a4, .int .i64 a5, .int .i64 a6, .int .i64 a7]) ∧ Below V.heap.size V V' := fun V hV => hg1 V (hb89.trans (hV.mono hb89.size))
          have hG2 : ∀ V, Below w9.heap.size w9 V → Calls Try.prog 18 #[.map (some my), .agg #[.int .i64 s, .int .i64 g]] V fun e V' => e = .returned (.agg #[.int .i64 M, .int .i64 b0, .int .i64 b1, .int .i64 b2, .int .i64 b3, .int .i64 b4, .int .i64 b5, .int .i64 b6, .int .i64 b7]) ∧ Below V.heap.size V V' := fun V hV => hg2 V (hb89.trans (hV.mono hb89.size))
          obtain ⟨zl, hzl⟩ : ∃ zl, zl = ints [0, 0, 0, 0, 0, 0, 0, 0, 0, 0, 0, 0, 0, 0, 0, 0, 0, 0, 0, 0] := ⟨_, rfl⟩
          obtain ⟨rl, hrl⟩ : ∃ rl, rl = cgC ((s, g), (K, a0, a1, a2, a3, a4, a5, a6, a7), (M, b0, b1, b2, b3, b4, b5, b6, b7)) := ⟨_, rfl⟩
          have HP := Lib.hid hq; have HG1 := Lib.hid hG1; have HG2 := Lib.hid hG2; have Hst := Lib.hid hst; have Hlen := Lib.hid hll; have Hz9 := Lib.hid hz9; have HB89 := Lib.hid hb89; have HO9 := Lib.hid hown9; have HS9 := Lib.hid hs9; have HW9 := Lib.hid hw9; have Hzl := Lib.hid hzl; have Hrl := Lib.hid hrl
          clear hq hG1 hG2 hst hll hz9 hb89 hown9 hs9 hw9 hzl hrl
          clear hc hg1 hg2 hown hb9 hB8
          go_wp2_with (first | (refine wpList_load_flat rfl 28 (.tmp 36) rfl _ rfl [.int .i64 s, .int .i64 g] _ Try.underlying28 rfl (by kernel_rfl) HP.out ?_) | fail)
          rw [HW9.out]
          refine wp_planK [8] 10 [1, 4] [some 38, some 39, some 40, some 41, some 42, some 43, some 44, some 45, some 12, none] [[], [], [], [1, 2], [], [], [1, 2, 3, 4, 5], [0, 1, 2, 3, 4, 5, 6], [], [0, 1, 2, 3, 4, 5, 6, 7, 8]] [0, 1, 2, 3, 4, 5, 6, 7, 8, 9] (fun L σ V => IGet 8 9 w9 zl.toArray rl.toArray 36 L σ V) mixed rfl (by kernel_rfl) (by decide) (by decide) (by decide) (IGet.start (Below.refl _ _).drew) rfl ?_
          iterate 10 apply Exists.intro
          refine ⟨rfl, ?_, ?_⟩
          · simp only [List.take_succ_cons, List.take_zero, AllFrom.cons_eq, AllFrom.nil_eq, OpGoalK]
            refine ⟨?_, ?_, ?_, ?_, ?_, ?_, ?_, ?_, ?_, ?_, trivial⟩
            all_goals (intro L' σ V h1 h2 h3 hI hp; have HA1 := Lib.hid h1; have HA2 := Lib.hid h2; have HA3 := Lib.hid h3; clear h1 h2 h3; (try simp only [List.getD_cons_zero, List.getD_cons_succ, preK_cons, preK_nil] at hp); (try simp only [List.mem_cons, List.not_mem_nil, or_false, eq_self, Nat.reduceEqDiff, Nat.reduceAdd, Nat.zero_add, false_or, true_or, true_and, and_true] at hp); (first | (have hq : True := hp; clear hq hp) | skip); have HI := Lib.hid hI; clear hI)
            all_goals (
              have hzV := (Mod.ofBelow HI.out.b).keep Hz9.out (by simp)
              have q0 := blk_cell hzV 0
              have q1 := blk_cell hzV 1
              simp only [List.getElem?_toArray, List.getElem?_cons_zero, List.getElem?_cons_succ] at q0 q1
              have ql := blk_lt hzV
              clear hzV)
            · (go_simp; exact ⟨.inr rfl, HI.out.read (by decide) (by decide) _⟩)
            · (go_simp; exact ⟨.inr rfl, HI.out.read (by decide) (by decide) _⟩)
            · (go_simp; exact ⟨.inr rfl, HI.out.read (by decide) (by decide) _⟩)
            · (go_simp; refine (HG1.out V HI.out.b).mono ?_; rintro e V2 ⟨rfl, hb⟩; exact ⟨_, rfl, .inr rfl, (HI.out.step hb).read (by decide) (by decide) _⟩)
            · (go_simp; exact ⟨.inr rfl, HI.out.read (by decide) (by decide) _⟩)
            · (go_simp; exact ⟨.inr rfl, HI.out.read (by decide) (by decide) _⟩)
            · (go_simp; refine (HG2.out V HI.out.b).mono ?_; rintro e V2 ⟨rfl, hb⟩; exact ⟨_, rfl, .inr rfl, (HI.out.step hb).read (by decide) (by decide) _⟩)
            · (go_simp; exact ⟨.inr rfl, HI.out.read (by decide) (by decide) _⟩)
            · go_simp
              have hmk := HI.out.made (by decide) (HA3.out 9 (by decide))
              rw [Hzl.out] at hmk ⊢
              exact PostK.mk (c := undef) (.inl (by decide)) hmk
            · simp only [wantedL_none, if_true, Nat.reduceAdd, Nat.zero_add]
              have x3 := HA1.out
              simp only [Nat.reduceAdd, Nat.zero_add] at x3
              generalize hρ : Act.eval _ = ρ
              refine IGet.yr_stored HI.out (by decide) (HA2.out 8 (by decide)) x3 (by rw [Hzl.out, Hrl.out]; rfl) 36 (.tmp 12) (.tmp 45) rfl ?_ ?_ (by rw [Hrl.out]; kernel_rfl) (by rw [Hrl.out]; exact cgC_one _) (fun V' hV' => PostK.mk (c := undef) (.inr rfl) hV')
              · rw [← hρ]
                go_simp
              · rw [← hρ]
                go_simp
                rw [Hrl.out]
                rfl
          · intro L' σ V h1 hI hp
            obtain ⟨r, s9, hr, hst⟩ := hI.blk (h1 8 (by decide))
            rw [if_pos (h1 9 (by decide)), Hrl.out] at hst
            clear h1
            simp only [preK_cons, preK_nil, List.getD_cons_zero, List.getD_cons_succ] at hp; simp only [List.mem_cons, List.not_mem_nil, or_false, eq_self, Nat.reduceEqDiff, false_or, true_or, true_and, and_true] at hp
            have hbV := HB89.out.trans (hI.b.mono HB89.out.size)
            have hOV : ownC V w8.heap.size _ L := row_mod HO9.out (Mod.ofBelow hI.b) (by simp)
            have hst' : V.heap[r]? = some (.cells #[.int .i64 s, .int .i64 g, .int .i64 K, .int .i64 a0, .int .i64 a1, .int .i64 a2, .int .i64 a3, .int .i64 a4, .int .i64 a5, .int .i64 a6, .int .i64 a7, .int .i64 M, .int .i64 b0, .int .i64 b1, .int .i64 b2, .int .i64 b3, .int .i64 b4, .int .i64 b5, .int .i64 b6, .int .i64 b7] 36 (0, 0)) := hst
            have hcmp := fun w => neqBeast w (K, a0, a1, a2, a3, a4, a5, a6, a7) (M, b0, b1, b2, b3, b4, b5, b6, b7)
            simp only [show (btC (K, a0, a1, a2, a3, a4, a5, a6, a7)).toArray = #[.int .i64 K, .int .i64 a0, .int .i64 a1, .int .i64 a2, .int .i64 a3, .int .i64 a4, .int .i64 a5, .int .i64 a6, .int .i64 a7] from rfl, show (btC (M, b0, b1, b2, b3, b4, b5, b6, b7)).toArray = #[.int .i64 M, .int .i64 b0, .int .i64 b1, .int .i64 b2, .int .i64 b3, .int .i64 b4, .int .i64 b5, .int .i64 b6, .int .i64 b7] from rfl] at hcmp
            have hN2 := new_rec (w := V) (cs := #[.int .i64 s, .int .i64 g, .int .i64 K, .int .i64 a0, .int .i64 a1, .int .i64 a2, .int .i64 a3, .int .i64 a4, .int .i64 a5, .int .i64 a6, .int .i64 a7, .int .i64 M, .int .i64 b0, .int .i64 b1, .int .i64 b2, .int .i64 b3, .int .i64 b4, .int .i64 b5, .int .i64 b6, .int .i64 b7]) (t := 36) (n := V.heap.size) (xs := cgC ((s, g), (K, a0, a1, a2, a3, a4, a5, a6, a7), (M, b0, b1, b2, b3, b4, b5, b6, b7))) rfl rfl
            have hOV2 : ownC (V.alloc (.cells #[.int .i64 s, .int .i64 g, .int .i64 K, .int .i64 a0, .int .i64 a1, .int .i64 a2, .int .i64 a3, .int .i64 a4, .int .i64 a5, .int .i64 a6, .int .i64 a7, .int .i64 M, .int .i64 b0, .int .i64 b1, .int .i64 b2, .int .i64 b3, .int .i64 b4, .int .i64 b5, .int .i64 b6, .int .i64 b7] 36)) w8.heap.size _ L := row_mod hOV (Mod.ofBelow ((Below.refl _ V).alloc (Nat.le_refl _) _)) (by simp)
            have hN3 := blk_piece hst 0 (cgC ((s, g), (K, a0, a1, a2, a3, a4, a5, a6, a7), (M, b0, b1, b2, b3, b4, b5, b6, b7))) (fun j u hu => by rw [Nat.zero_add]; exact hu)
            have hNo := blk_piece hst 2 (btC (K, a0, a1, a2, a3, a4, a5, a6, a7)) (cg_old ((s, g), (K, a0, a1, a2, a3, a4, a5, a6, a7), (M, b0, b1, b2, b3, b4, b5, b6, b7)))
            have hNn := blk_piece hst 11 (btC (M, b0, b1, b2, b3, b4, b5, b6, b7)) (cg_now ((s, g), (K, a0, a1, a2, a3, a4, a5, a6, a7), (M, b0, b1, b2, b3, b4, b5, b6, b7)))
            have HN3 := Lib.hid hN3; have HNo := Lib.hid hNo; have HNn := Lib.hid hNn; have HBV := Lib.hid hbV; have HOV := Lib.hid hOV; have HN2 := Lib.hid hN2; have HOV2 := Lib.hid hOV2
            clear hN3 hNo hNn hbV hOV hN2 hOV2
            clear hI hst hst' hr
            have hl8 := Hlen8.out
            simp only [List.drop_succ_cons, List.drop_zero]
            go_simp
            clear hp
            generalize σ 8 = v8 at *
            subst s9
            cases he : eqB (K, a0, a1, a2, a3, a4, a5, a6, a7) (M, b0, b1, b2, b3, b4, b5, b6, b7) with
            | true =>
              rw [he] at hcmp
              have Hst := Lib.hid (Hst.out.trans (by rw [if_pos he, List.append_nil]))
              go_wp2_with fail
              refine ⟨rfl, ?_⟩
              go_wp2_with (first
                | (refine wpList_load_flat rfl 31 (.tmp 46) rfl ⟨r, 2, none⟩ rfl [.int .i64 K, .int .i64 a0, .int .i64 a1, .int .i64 a2, .int .i64 a3, .int .i64 a4, .int .i64 a5, .int .i64 a6, .int .i64 a7] _ Try.underlying31 rfl (by kernel_rfl) HNo.out ?_)
                | (refine wpList_load_flat rfl 31 (.tmp 48) rfl ⟨r, 11, none⟩ rfl [.int .i64 M, .int .i64 b0, .int .i64 b1, .int .i64 b2, .int .i64 b3, .int .i64 b4, .int .i64 b5, .int .i64 b6, .int .i64 b7] _ Try.underlying31 rfl (by kernel_rfl) HNn.out ?_))
              go_roundw
              case rel => exact ⟨k + 1, by omega, by go_num, by rw [Hst.out]; exact HOV.out, HBV.out⟩
              case measure => simp [intOf]; omega
            | false =>
              rw [he] at hcmp
              have Hst := Lib.hid (Hst.out.trans (by rw [if_neg (by rw [he]; simp)]))
              go_wp2_with fail
              refine ⟨rfl, ?_⟩
              go_wp2_with (first
                | (refine wpList_load_flat rfl 31 (.tmp 46) rfl ⟨r, 2, none⟩ rfl [.int .i64 K, .int .i64 a0, .int .i64 a1, .int .i64 a2, .int .i64 a3, .int .i64 a4, .int .i64 a5, .int .i64 a6, .int .i64 a7] _ Try.underlying31 rfl (by kernel_rfl) HNo.out ?_)
                | (refine wpList_load_flat rfl 31 (.tmp 48) rfl ⟨r, 11, none⟩ rfl [.int .i64 M, .int .i64 b0, .int .i64 b1, .int .i64 b2, .int .i64 b3, .int .i64 b4, .int .i64 b5, .int .i64 b6, .int .i64 b7] _ Try.underlying31 rfl (by kernel_rfl) HNn.out ?_)
                | (refine wpList_load_flat rfl 36 (.tmp 12) rfl _ rfl [.int .i64 s, .int .i64 g, .int .i64 K, .int .i64 a0, .int .i64 a1, .int .i64 a2, .int .i64 a3, .int .i64 a4, .int .i64 a5, .int .i64 a6, .int .i64 a7, .int .i64 M, .int .i64 b0, .int .i64 b1, .int .i64 b2, .int .i64 b3, .int .i64 b4, .int .i64 b5, .int .i64 b6, .int .i64 b7] _ Try.underlying36 rfl (by kernel_rfl) HN3.out ?_)
                | (refine wpList_build1 rfl 23 36 (.tmp 52) rfl [.int .i64 s, .int .i64 g, .int .i64 K, .int .i64 a0, .int .i64 a1, .int .i64 a2, .int .i64 a3, .int .i64 a4, .int .i64 a5, .int .i64 a6, .int .i64 a7, .int .i64 M, .int .i64 b0, .int .i64 b1, .int .i64 b2, .int .i64 b3, .int .i64 b4, .int .i64 b5, .int .i64 b6, .int .i64 b7] rfl Try.underlying23 inf_Change rfl (by omega) (by omega) ?_)
                | (at_builtin; refine app_cg rfl _ _ rfl w8.heap.size _ L ((s, g), (K, a0, a1, a2, a3, a4, a5, a6, a7), (M, b0, b1, b2, b3, b4, b5, b6, b7)) ⟨V.heap.size, 0, none⟩ 1 rfl HOV2.out rfl HN2.out (by have := Hlen.out; omega) (by have := HBV.out.size; simp; omega) ?_; intro v' w' hown' hg'))
              have hb' : Below w8.heap.size w8 w' := ((HBV.out.alloc HBV.out.size _).grown hg' (by have := HBV.out.size; simp; omega) (own_ge HOV2.out))
              have Hown' := Lib.hid hown'; have Hb' := Lib.hid hb'
              clear hown' hb'
              clear hg'
              go_wp2_with fail
              go_roundw
              case rel => exact ⟨k + 1, by omega, by go_num, by rw [Hst.out]; exact Hown'.out, Hb'.out⟩
              case measure => simp [intOf]; omega
        · obtain rfl : k = hs.length := by omega
          rw [List.take_length] at hown
          have hfin : ∀ v, ownC wr w8.heap.size v (betL la lb hs) → BtwPost la lb w (.returned (.tuple #[v, .int .i64 0])) wr := fun v hv => ⟨Hb08.out.trans (hB8.mono Hb08.out.size), by
            rw [if_pos ⟨Hma.out, Hmb.out⟩]
            exact ⟨v, hs, rfl, HBH.out, row_base hv (fun k hk => Nat.le_trans Hb08.out.size (own_ge hv k hk))⟩⟩
          have hfin := hfin _ hown
          have Hfin := Lib.hid hfin
          clear hfin
          clear hown hB8
          go_wp2_with fail
          refine bodyPost_ret (by unfold results; try go_simp) rfl Hfin.out
end Go.Proofs.Ytfbcdblgfhekpaa
