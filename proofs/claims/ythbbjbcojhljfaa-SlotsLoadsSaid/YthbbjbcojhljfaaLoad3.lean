/- The program's Load. -/
import Derived.Test.YthbbjbcojhljfaaLoad2
import Derived.Test.YthbbjbcojhljfaaSlot5
namespace Go.Proofs.Ythbbjbcojhljfaa
open Go.RowKit

/-- The slots when one has been set behind them. -/
theorem push_fin {p : Nat} {l : Sl} {F : List Nat} {w1 w2 : World} {v v' : Value} {o : Obj} {y : Int × Bool} (hR : RepS w1 p l F) (hp1 : w1.heap[p]? = some (.cells #[v] 147 (0, 0))) (hF : F = p :: v.ownBlock.toList)
    (hown : w2.ownsRow 0 150 2 v' (l ++ [y]).length ((l ++ [y]).flatMap slotC)) (hg : (w1.alloc o).grownBy w2 v.ownBlock) (hloc : v'.ownBlock = v.ownBlock ∨ v'.ownBlock = some (w1.alloc o).heap.size) :
    ∃ g' cap', v' = .slice (some ⟨g', 0, none⟩) (l.length + 1) cap' ∧ p < w2.heap.size ∧ w2.cell? ⟨p, 0, none⟩ = some v ∧ w2.frozen? ⟨p, 0, none⟩ = false ∧ Hid (RepS (w2.setCell ⟨p, 0, none⟩ v') p (l ++ [y]) (p :: v'.ownBlock.toList)) ∧ Hid (Mod F w1 w2) ∧ Hid (∀ k ∈ v'.ownBlock.toList, k ∈ F ∨ w1.heap.size ≤ k) := by
  have hlt := hR.lt
  have hpw := hlt p (by rw [hF]; simp)
  have hnp : F.Nodup := by obtain ⟨_, _, _, _, h⟩ := hR; exact h
  have hvp : ∀ k, v.ownBlock = some k → k ∈ F ∧ k ≠ p := by
    intro k hk
    refine ⟨by rw [hF]; simp [hk], ?_⟩
    rintro rfl
    rw [hF, hk] at hnp
    simp at hnp
  have hm : Mod F w1 w2 := ((Mod.refl F w1).alloc o).grown hg (fun k hk => .inl (hvp k hk).1)
  have hp2 : w2.heap[p]? = some (.cells #[v] 147 (0, 0)) := (hg.block p (by simp; omega) (fun e => (hvp p e.symm).2 rfl)).trans (blk_alloc hp1 o)
  have hgp : ∀ k, v'.ownBlock = some k → k ≠ p := by
    intro k hk
    rcases hloc with h | h
    · exact (hvp k (h.symm.trans hk)).2
    · rw [h] at hk; simp at hk; omega
  obtain ⟨g', cap', cur', he, -, -, -⟩ := row_some hown (by simp)
  refine ⟨g', cap', by rw [he]; simp, blk_lt hp2, by rw [blk_cell hp2]; rfl, blk_free hp2 0, ⟨v', by rw [blk_set hp2]; rfl, row_mod hown ((Mod.refl [p] _).setCell (.inl (by simp)) _) (fun k hk => by simpa using hgp k hk), rfl, ?_⟩, hm, ?_⟩
  · cases h : v'.ownBlock with
    | none => simp
    | some k => simpa using fun e => hgp k h e.symm
  · intro k hk
    have hk' : v'.ownBlock = some k := by simpa using hk
    rcases hloc with h | h
    · exact .inl (hvp k (h.symm.trans hk')).1
    · rw [h] at hk'; simp at hk'; right; omega

def LoadPost (gs ks : List Int) (w : World) (e : Ending) (w' : World) : Prop :=
  Below w.heap.size w w' ∧ ((loadE gs ks ≠ 0 ∧ e = .returned (.tuple #[.pointer none, .int .i64 (loadE gs ks)])) ∨
    (loadE gs ks = 0 ∧ ∃ p F, e = .returned (.tuple #[.pointer (some ⟨p, 0, none⟩), .int .i64 0]) ∧ RepS w' p (loadL gs ks) F ∧ (∀ k ∈ F, w.heap.size ≤ k) ∧ SlOk (loadL gs ks)))

set_option maxHeartbeats 1000000 in
theorem load_long (A : Option Addr) (c : Nat) (gs : List Int) (A' : Option Addr) (c' : Nat) (ks : List Int) (w : World) (hl : gs.length ≤ 9223372036854775807) (h60 : 60 < gs.length) :
    Calls Try.prog 52 #[.slice A gs.length c, .slice A' ks.length c'] w (LoadPost gs ks w) := by
  have H := Lib.hid (loadE_long (ks := ks) h60)
  have hin : (60 : Int) < (gs.length : Int) := by omega
  go_enter Try.func52, Try.ntmps52
  go_wp2
  refine bodyPost_ret (v := .tuple #[.pointer none, .int .i64 2]) (by unfold results; try go_simp) rfl ?_
  exact ⟨(Below.refl _ _).alloc (Nat.le_refl _) _, .inl ⟨by rw [H.out]; omega, by rw [H.out]⟩⟩

set_option maxHeartbeats 1000000 in
theorem load_gen (A : Option Addr) (c : Nat) (gs : List Int) (A' : Option Addr) (c' : Nat) (ks : List Int) (w : World) (h60 : gs.length ≤ 60) (hA : Lies w w.heap.size A (ints gs)) (hb : anyP badN gs = true) :
    Calls Try.prog 52 #[.slice A gs.length c, .slice A' ks.length c'] w (LoadPost gs ks w) := by
  have hE := loadE_gen (ks := ks) h60 hb
  have h1 := containsN_any A c gs w.heap.size _ (by omega) (hA.below ((Below.refl w.heap.size w).alloc (Nat.le_refl _) (.cells #[.slice A gs.length c] 27)))
  rw [hb] at h1
  have H := Lib.hid hE; have H1 := Lib.hid h1
  have hin : (gs.length : Int) ≤ (60 : Int) := by omega
  clear hE h1 hb hA
  go_enter Try.func52, Try.ntmps52
  go_wp2_with fail
  refine H1.out.mono ?_
  rintro e w1 ⟨rfl, rfl⟩
  go_wp2
  refine bodyPost_ret (v := .tuple #[.pointer none, .int .i64 1]) (by unfold results; try go_simp) rfl ?_
  exact ⟨(Below.refl _ _).alloc (Nat.le_refl _) _, .inl ⟨by rw [H.out]; omega, by rw [H.out]⟩⟩

set_option maxHeartbeats 1000000 in
theorem load_key (A : Option Addr) (c : Nat) (gs : List Int) (A' : Option Addr) (c' : Nat) (ks : List Int) (w : World) (h60 : gs.length ≤ 60) (hk : ks.length ≤ 9223372036854775807) (hA : Lies w w.heap.size A (ints gs)) (hA' : Lies w w.heap.size A' (ints ks))
    (hb : anyP badN gs = false) (hb2 : anyP (badK gs.length) ks = true) :
    Calls Try.prog 52 #[.slice A gs.length c, .slice A' ks.length c'] w (LoadPost gs ks w) := by
  have hE := loadE_key h60 hb hb2
  have hm := (Below.refl w.heap.size w).alloc (Nat.le_refl _) (.cells #[.slice A gs.length c] 27)
  have h1 := containsN_any A c gs w.heap.size _ (by omega) (hA.below hm)
  have h2 := containsK_any w.heap.size A gs.length c A' c' ks w.heap.size _ hk (hA'.below hm) (by simp) (by omega)
  rw [hb] at h1
  rw [hb2] at h2
  have H := Lib.hid hE; have H1 := Lib.hid h1; have H2 := Lib.hid h2
  have hin : (gs.length : Int) ≤ (60 : Int) := by omega
  clear hE h1 h2 hb hb2 hA hA' hm
  go_enter Try.func52, Try.ntmps52
  go_wp2_with fail
  refine H1.out.mono ?_
  rintro e w1 ⟨rfl, rfl⟩
  go_wp2_with fail
  refine H2.out.mono ?_
  rintro e w1 ⟨rfl, rfl⟩
  go_wp2
  refine bodyPost_ret (v := .tuple #[.pointer none, .int .i64 5]) (by unfold results; try go_simp) rfl ?_
  exact ⟨(Below.refl _ _).alloc (Nat.le_refl _) _, .inl ⟨by rw [H.out]; omega, by rw [H.out]⟩⟩

theorem Lies.int_at {w : World} {B : Nat} {A : Option Addr} {zs : List Int} (h : Lies w B A (ints zs)) {k : Nat} (hk : k < zs.length) :
    ∃ b o, A = some ⟨b, o, none⟩ ∧ b < B ∧ w.cell? ⟨b, o + k, none⟩ = some (.int .i64 zs[k]) := by
  have h1 : Lies w B A (zs.flatMap intC) := by rw [← ints_flat]; exact h
  obtain ⟨b, o, e, hb, hc⟩ := h1.rec_at (n := 1) (fun _ => rfl) (by omega) hk
  have := hc 0 _ rfl
  rw [Nat.mul_one, Nat.add_zero] at this
  exact ⟨b, o, e, hb, this⟩
theorem RepS.open_ {w : World} {p : Nat} {l : Sl} {F : List Nat} (h : RepS w p l F) : ∃ A cap, w.heap[p]? = some (.cells #[.slice A l.length cap] 147 (0, 0)) ∧ w.ownsRow 0 150 2 (.slice A l.length cap) l.length (l.flatMap slotC) ∧ F = p :: (Value.slice A l.length cap).ownBlock.toList := by
  obtain ⟨v, h1, h2, h3, -⟩ := h
  obtain ⟨A, cap, rfl, -, -⟩ := row_slice h2
  exact ⟨A, cap, h1, h2, h3⟩

set_option maxHeartbeats 4000000 in
theorem load_in (A : Option Addr) (c : Nat) (gs : List Int) (A' : Option Addr) (c' : Nat) (ks : List Int) (w : World) (hk : ks.length ≤ 9223372036854775807) (hA : Lies w w.heap.size A (ints gs)) (hA' : Lies w w.heap.size A' (ints ks)) (hi : LoadIn gs ks) :
    Calls Try.prog 52 #[.slice A gs.length c, .slice A' ks.length c'] w (LoadPost gs ks w) := by
  have hm := (Below.refl w.heap.size w).alloc (Nat.le_refl _) (.cells #[.slice A gs.length c] 27)
  have h1 := containsN_any A c gs w.heap.size _ (by have := hi.len; omega) (hA.below hm)
  have h2 := containsK_any w.heap.size A gs.length c A' c' ks w.heap.size _ hk (hA'.below hm) (by simp) (by have := hi.len; omega)
  rw [hi.bad.1] at h1
  rw [hi.bad.2] at h2
  have H1 := Lib.hid h1; have H2 := Lib.hid h2; have HA := Lib.hid hA; have HA' := Lib.hid hA'; have HI := Lib.hid hi; have HM := Lib.hid hm
  have h60 := hi.len
  have hin : (gs.length : Int) ≤ (60 : Int) := by omega
  clear h1 h2 hA hA' hi hm
  go_enter Try.func52, Try.ntmps52
  go_wp2_with fail
  refine H1.out.mono ?_
  rintro e w1 ⟨rfl, rfl⟩
  go_wp2_with fail
  refine H2.out.mono ?_
  rintro e w1 ⟨rfl, rfl⟩
  go_wp2_with fail
  refine (slotsNew_any _).mono ?_
  rintro e w1 ⟨p, rfl, hb1, hs1, hp1⟩
  have d0 : w1.cell? ⟨w.heap.size, 0, none⟩ = some (.slice A gs.length c) := (hb1.cell (p := ⟨w.heap.size, 0, none⟩) (by simp)).trans (by simp)
  have hsz1 := hb1.size
  have hb2 := HM.out.trans (hb1.mono (by simp))
  simp only [World.size_alloc] at hsz1 hp1
  have HS1 := Lib.hid hs1; have HB1 := Lib.hid hb2
  have hpw : w.heap.size ≤ p := by omega
  clear hs1 hb1 H1 H2 HM hb2 hin hsz1 hp1
  go_wp2
  clear d0
  go_loopw [25] (fun i wr => ∃ (k : Nat) (F : List Nat), k ≤ gs.length ∧ i = .int .i64 k ∧ RepS wr p ((gs.take k).map (·, false)) F ∧ (∀ b ∈ F, w.heap.size ≤ b) ∧ Below w.heap.size w wr) (fun i _ => gs.length - (intOf i).toNat)
  case atStart => exact ⟨0, _, by omega, rfl, HS1.out, by simpa using hpw, HB1.out⟩
  case round =>
    obtain ⟨k, F, hkl, rfl, hs, hF, hbel⟩ := hrel
    have hsz := hbel.size
    by_cases hlt : k < gs.length
    · obtain ⟨ab, ao, rfl, hab, hcell⟩ := HA.out.int_at hlt
      have c0 := (hbel.cell (p := ⟨ab, ao + k, none⟩) hab).trans hcell
      have hab2 : ab < wr.heap.size := by omega
      have hs2 : (gs.take (k + 1)).map (·, false) = (gs.take k).map (·, false) ++ [(gs[k], false)] := by rw [take_succ_get gs k hlt, List.map_append]; rfl
      have hlen : ((gs.take k).map (·, false)).length ≤ 60 := by simp; omega
      generalize ((gs.take k).map (·, false)) = L at *
      obtain ⟨B, cap, hp, hrow, hFe⟩ := hs.open_
      have c1 := blk_cell hp 0
      simp at c1
      have hpl := blk_lt hp
      have HS := Lib.hid hs; have HP := Lib.hid hp; have HR := Lib.hid hrow; have HFe := Lib.hid hFe; have HF := Lib.hid hF; have HBel := Lib.hid hbel
      generalize gs[k] = x at *
      have Hs2 := Lib.hid hs2
      clear hcell hs2 hs hp hrow hFe hF hbel HS1 HB1
      go_wp2_with (at_builtin; refine app_slot rfl _ _ rfl 0 _ L (x, false) ⟨wr.heap.size, 0, none⟩ 1 rfl (row_mod HR.out ((Mod.refl [] wr).alloc _) (by simp)) rfl (new_rec rfl rfl) (by omega) (by omega) ?_; intro v' w2 hown2 hg1 hloc; obtain ⟨g', cap', rfl, n1, n2, n3, KR, KM, KF⟩ := push_fin HS.out HP.out HFe.out hown2 hg1 hloc; clear hown2 hg1 hloc)
      go_roundw
      case rel =>
        refine ⟨k + 1, _, by omega, by go_num, by rw [Hs2.out]; exact KR.out, ?_, ?_⟩
        · intro b hb
          rcases List.mem_cons.1 hb with rfl | hb
          · exact hpw
          · rcases KF.out b hb with h | h
            · exact HF.out b h
            · omega
        · have hpF : p ∈ F := by rw [HFe.out]; simp
          exact HBel.out.trans ((KM.out.setCell (.inl hpF) _).toBelow HF.out hsz)
      case measure => simp [intOf]; omega
    · obtain rfl : k = gs.length := by omega
      rw [List.take_length, ← loadL_nil] at hs
      have HS := Lib.hid hs; have HF := Lib.hid hF; have HBel := Lib.hid hbel
      clear hs hF hbel HS1 HB1
      go_wp2
      go_loopw [43] (fun i wr => ∃ n : Nat, n ≤ ks.length ∧ i = .int .i64 n ∧ RepS wr p (loadL gs (ks.take n)) F ∧ (∀ j (h : j < n) (h' : j < ks.length), hasB (ks.take j) ks[j] = false) ∧ Below w.heap.size w wr) (fun i _ => ks.length - (intOf i).toNat)
      case atStart => exact ⟨0, by omega, rfl, HS.out, fun j h => by omega, HBel.out⟩
      case round =>
        obtain ⟨n, hn, rfl, hs, hno, hbel⟩ := hrel
        have hsz := hbel.size
        have hlL := loadL_len gs (ks.take n)
        by_cases hlt : n < ks.length
        · obtain ⟨ab, ao, rfl, hab, hcell⟩ := HA'.out.int_at hlt
          have c0 := (hbel.cell (p := ⟨ab, ao + n, none⟩) hab).trans hcell
          obtain ⟨hz0, hz1⟩ := HI.out.keys n hlt
          obtain ⟨m, hm⟩ := Int.eq_ofNat_of_zero_le hz0
          rw [hm] at c0 hz1
          have hmL : m < (loadL gs (ks.take n)).length := by rw [hlL]; omega
          have hmi : (m : Int) < ((loadL gs (ks.take n)).length : Int) := by omega
          obtain ⟨g0, cap, hp, hgF, hgl, e0, e1, hfz, -, hset⟩ := hs.at_ hmL
          have hset' := hset true
          rw [loadL_set gs (ks.take n) hmL, ← hm, ← take_succ_get ks n hlt] at hset'
          rw [loadL_get gs (ks.take n) hmL] at e0 e1
          simp only at e0 e1
          have c1 := blk_cell hp 0
          simp only [List.getElem?_toArray, List.getElem?_cons_zero] at c1
          have hpl := blk_lt hp
          have f1 := hfz (m * 2 + 1)
          have hdup : hasB (ks.take n) (m : Int) = true → loadE gs ks = 6 := fun h => HI.out.dup (dupB_of hlt (by rw [hm]; exact h))
          have hno2 : hasB (ks.take n) (m : Int) = false → ∀ j (h : j < n + 1) (h' : j < ks.length), hasB (ks.take j) ks[j] = false := by
            intro hf j h h'
            by_cases e : j = n
            · subst e; rw [hm]; exact hf
            · exact hno j (by omega) h'
          have hab2 : ab < wr.heap.size := by omega
          clear hset
          generalize hasB (ks.take n) (m : Int) = r at *
          generalize gs[m]'(by omega) = x at *
          generalize loadL gs (ks.take n) = L at *
          have HS2 := Lib.hid hs; have HSet := Lib.hid hset'; have HBel2 := Lib.hid hbel; have Hdup := Lib.hid hdup; have Hno2 := Lib.hid hno2; have HG := Lib.hid hgF; have HP := Lib.hid hp
          clear hs hset' hbel hdup hno2 hno hcell hm hfz hgF hp HS HBel
          cases r with
          | true =>
            have H := Lib.hid (Hdup.out rfl)
            go_wp2
            refine bodyPost_ret (v := .tuple #[.pointer none, .int .i64 6]) (by unfold results; try go_simp) rfl ?_
            exact ⟨HBel2.out, .inl ⟨by rw [H.out]; omega, by rw [H.out]⟩⟩
          | false =>
            go_wp2
            go_roundw
            case rel => exact ⟨n + 1, by omega, by go_num, HSet.out, Hno2.out rfl, HBel2.out.trans (((Mod.refl F wr).setCell (p := ⟨g0, m * 2 + 1, none⟩) (.inl HG.out) _).toBelow HF.out hsz)⟩
            case measure => simp [intOf]; omega
        · obtain rfl : n = ks.length := by omega
          rw [List.take_length] at hs hlL
          have hd : dupB ks = false := dupB_none fun j hj => hno j hj hj
          obtain ⟨B, cap, hp, hrow, hFe⟩ := hs.open_
          have c1 := blk_cell hp 0
          simp only [List.getElem?_toArray, List.getElem?_cons_zero] at c1
          have hpl := blk_lt hp
          have hcs := containsSlot_any _ _ 1000000 true wr hrow (by rw [hlL]; omega)
          have HCs := Lib.hid hcs; have HS2 := Lib.hid hs; have HBel2 := Lib.hid hbel; have HD := Lib.hid hd
          clear hcs hs hbel hd hno hrow hp hFe HS HBel hlt
          generalize (loadL gs ks).length = NL at *
          subst hlL
          go_wp2_with fail
          refine HCs.out.mono ?_
          rintro e w4 ⟨rfl, hb4⟩
          have HB4 := Lib.hid (HBel2.out.trans (hb4.mono hsz))
          have HS4 := Lib.hid (HS2.out.mod (Mod.ofBelow hb4) (by simp))
          clear hb4 HCs
          cases hany : anyS (1000000, true) (loadL gs ks) with
          | true =>
            have H := Lib.hid (HI.out.full HD.out hany)
            clear hany
            go_wp2
            refine bodyPost_ret (v := .tuple #[.pointer none, .int .i64 1]) (by unfold results; try go_simp) rfl ?_
            exact ⟨HB4.out, .inl ⟨by rw [H.out]; omega, by rw [H.out]⟩⟩
          | false =>
            have H := Lib.hid (HI.out.good HD.out hany)
            have HO := Lib.hid (HI.out.ok hany)
            clear hany
            go_wp2
            refine bodyPost_ret (v := .tuple #[.pointer (some ⟨p, 0, none⟩), .int .i64 0]) (by unfold results; try go_simp) rfl ?_
            exact ⟨HB4.out, .inr ⟨H.out, p, F, rfl, HS4.out, HF.out, HO.out⟩⟩
theorem load_any (A : Option Addr) (c : Nat) (gs : List Int) (A' : Option Addr) (c' : Nat) (ks : List Int) (w : World) (hg : gs.length ≤ 9223372036854775807) (hk : ks.length ≤ 9223372036854775807) (hA : Lies w w.heap.size A (ints gs)) (hA' : Lies w w.heap.size A' (ints ks)) :
    Calls Try.prog 52 #[.slice A gs.length c, .slice A' ks.length c'] w (LoadPost gs ks w) := by
  by_cases h60 : 60 < gs.length
  · exact load_long A c gs A' c' ks w hg h60
  · cases h1 : anyP badN gs with
    | true => exact load_gen A c gs A' c' ks w (by omega) hA h1
    | false =>
      cases h2 : anyP (badK gs.length) ks with
      | true => exact load_key A c gs A' c' ks w (by omega) hk hA hA' h1 h2
      | false => exact load_in A c gs A' c' ks w hk hA hA' (loadIn_of (by omega) h1 h2)
end Go.Proofs.Ythbbjbcojhljfaa
