import Derived.Test.YtehjfmjibiafdaaGreatZooLoadsJ31
import Derived.Test.YtehjfmjibiafdaaGreatZooLoadsJ8
/- The program's Load. -/
namespace Go.Proofs.YtehjfmjibiafdaaGreat
open Go.RowKit

/-- The slots when one has been set behind them. -/
theorem push_fin {p : Nat} {l : Sl} {F : List Nat} {w1 w2 : World} {v v' : Value} {o : Obj} {y : Int × Bool} (hR : RepS w1 p l F) (hp1 : w1.heap[p]? = some (.cells #[v] 157 (0, 0))) (hF : F = p :: v.ownBlock.toList)
    (hown : w2.ownsRow 0 159 2 v' (l ++ [y]).length ((l ++ [y]).flatMap slotC)) (hg : (w1.alloc o).grownBy w2 v.ownBlock) (hloc : v'.ownBlock = v.ownBlock ∨ v'.ownBlock = some (w1.alloc o).heap.size) :
    ∃ g' cap', v' = .slice (some ⟨g', 0, none⟩) (l.length + 1) cap' ∧ p < w2.heap.size ∧ w2.cell? ⟨p, 0, none⟩ = some v ∧ w2.frozen? ⟨p, 0, none⟩ = false ∧ Hid (RepS (w2.setCell ⟨p, 0, none⟩ v') p (l ++ [y]) (p :: v'.ownBlock.toList)) ∧ Hid (Mod F w1 w2) ∧ Hid (∀ k ∈ v'.ownBlock.toList, k ∈ F ∨ w1.heap.size ≤ k) := by
  have hlt := hR.lt
  have hpw := hlt p (by rw [hF]; simp)
  have hnp : F.Nodup := by obtain ⟨_, _, _, _, h⟩ := hR; exact h
  have hvp : ∀ k, v.ownBlock = some k → k ∈ F ∧ k ≠ p := by
    intro k hk
    refine ⟨by rw [hF]; simp [hk], ?_⟩
    rintro rfl
    rw [hF, hk] at hnp
    simp at hnp
  have hm : Mod F w1 w2 := ((Mod.refl F w1).alloc o).grown hg (fun k hk => .inl (hvp k hk).1)
  have hp2 : w2.heap[p]? = some (.cells #[v] 157 (0, 0)) := (hg.block p (by simp; omega) (fun e => (hvp p e.symm).2 rfl)).trans (blk_alloc hp1 o)
  have hgp : ∀ k, v'.ownBlock = some k → k ≠ p := by
    intro k hk
    rcases hloc with h | h
    · exact (hvp k (h.symm.trans hk)).2
    · rw [h] at hk; simp at hk; omega
  obtain ⟨g', cap', cur', he, -, -, -⟩ := row_some hown (by simp)
  refine ⟨g', cap', by rw [he]; simp, blk_lt hp2, by rw [blk_cell hp2]; rfl, blk_free hp2 0, ⟨v', by rw [blk_set hp2]; rfl, row_mod hown ((Mod.refl [p] _).setCell (.inl (by simp)) _) (fun k hk => by simpa using hgp k hk), rfl, ?_⟩, hm, ?_⟩
  · cases h : v'.ownBlock with
    | none => simp
    | some k => simpa using fun e => hgp k h e.symm
  · intro k hk
    have hk' : v'.ownBlock = some k := by simpa using hk
    rcases hloc with h | h
    · exact .inl (hvp k (h.symm.trans hk')).1
    · rw [h] at hk'; simp at hk'; right; omega

def LoadPost (gs ks : List Int) (w : World) (e : Ending) (w' : World) : Prop :=
  Below w.heap.size w w' ∧ ((loadE gs ks ≠ 0 ∧ e = .returned (.tuple #[.pointer none, .int .i64 (loadE gs ks)])) ∨
    (loadE gs ks = 0 ∧ ∃ p F, e = .returned (.tuple #[.pointer (some ⟨p, 0, none⟩), .int .i64 0]) ∧ RepS w' p (loadL gs ks) F ∧ (∀ k ∈ F, w.heap.size ≤ k) ∧ SlOk (loadL gs ks)))

set_option maxHeartbeats 1000000 in
theorem load_long (A : Option Addr) (c : Nat) (gs : List Int) (A' : Option Addr) (c' : Nat) (ks : List Int) (w : World) (hl : gs.length ≤ 9223372036854775807) (h60 : 60 < gs.length) :
    Calls Tryz.prog 78 #[.slice A gs.length c, .slice A' ks.length c'] w (LoadPost gs ks w) := by
  have H := Lib.hid (loadE_long (ks := ks) h60)
  have hin : (60 : Int) < (gs.length : Int) := by omega
  go_enter Tryz.func78, Tryz.ntmps78
  go_wp2
  refine bodyPost_ret (v := .tuple #[.pointer none, .int .i64 2]) (by unfold results; try go_simp) rfl ?_
  exact ⟨(Below.refl _ _).alloc (Nat.le_refl _) _, .inl ⟨by rw [H.out]; omega, by rw [H.out]⟩⟩

set_option maxHeartbeats 1000000 in
theorem load_gen (A : Option Addr) (c : Nat) (gs : List Int) (A' : Option Addr) (c' : Nat) (ks : List Int) (w : World) (h60 : gs.length ≤ 60) (hA : Lies w w.heap.size A (ints gs)) (hb : anyP badN gs = true) :
    Calls Tryz.prog 78 #[.slice A gs.length c, .slice A' ks.length c'] w (LoadPost gs ks w) := by
  have hE := loadE_gen (ks := ks) h60 hb
  have h1 := containsN_any A c gs w.heap.size _ (by omega) (hA.below ((Below.refl w.heap.size w).alloc (Nat.le_refl _) (.cells #[.slice A gs.length c] 22)))
  rw [hb] at h1
  have H := Lib.hid hE; have H1 := Lib.hid h1
  have hin : (gs.length : Int) ≤ (60 : Int) := by omega
  clear hE h1 hb hA
  go_enter Tryz.func78, Tryz.ntmps78
  go_wp2_with fail
  refine H1.out.mono ?_
  rintro e w1 ⟨rfl, rfl⟩
  go_wp2
  refine bodyPost_ret (v := .tuple #[.pointer none, .int .i64 1]) (by unfold results; try go_simp) rfl ?_
  exact ⟨(Below.refl _ _).alloc (Nat.le_refl _) _, .inl ⟨by rw [H.out]; omega, by rw [H.out]⟩⟩

set_option maxHeartbeats 1000000 in
theorem load_key (A : Option Addr) (c : Nat) (gs : List Int) (A' : Option Addr) (c' : Nat) (ks : List Int) (w : World) (h60 : gs.length ≤ 60) (hk : ks.length ≤ 9223372036854775807) (hA : Lies w w.heap.size A (ints gs)) (hA' : Lies w w.heap.size A' (ints ks))
    (hb : anyP badN gs = false) (hb2 : anyP (badK gs.length) ks = true) :
    Calls Tryz.prog 78 #[.slice A gs.length c, .slice A' ks.length c'] w (LoadPost gs ks w) := by
  have hE := loadE_key h60 hb hb2
  have hm := (Below.refl w.heap.size w).alloc (Nat.le_refl _) (.cells #[.slice A gs.length c] 22)
  have h1 := containsN_any A c gs w.heap.size _ (by omega) (hA.below hm)
  have h2 := containsK_any w.heap.size A gs.length c A' c' ks w.heap.size _ hk (hA'.below hm) (by simp) (by omega)
  rw [hb] at h1
  rw [hb2] at h2
  have H := Lib.hid hE; have H1 := Lib.hid h1; have H2 := Lib.hid h2
  have hin : (gs.length : Int) ≤ (60 : Int) := by omega
  clear hE h1 h2 hb hb2 hA hA' hm
  go_enter Tryz.func78, Tryz.ntmps78
  go_wp2_with fail
  refine H1.out.mono ?_
  rintro e w1 ⟨rfl, rfl⟩
  go_wp2_with fail
  refine H2.out.mono ?_
  rintro e w1 ⟨rfl, rfl⟩
  go_wp2
  refine bodyPost_ret (v := .tuple #[.pointer none, .int .i64 5]) (by unfold results; try go_simp) rfl ?_
  exact ⟨(Below.refl _ _).alloc (Nat.le_refl _) _, .inl ⟨by rw [H.out]; omega, by rw [H.out]⟩⟩

theorem Lies.int_at {w : World} {B : Nat} {A : Option Addr} {zs : List Int} (h : Lies w B A (ints zs)) {k : Nat} (hk : k < zs.length) :
    ∃ b o, A = some ⟨b, o, none⟩ ∧ b < B ∧ w.cell? ⟨b, o + k, none⟩ = some (.int .i64 zs[k]) := by
  have h1 : Lies w B A (zs.flatMap intC) := by rw [← ints_flat]; exact h
  obtain ⟨b, o, e, hb, hc⟩ := h1.rec_at (n := 1) (fun _ => rfl) (by omega) hk
  have := hc 0 _ rfl
  rw [Nat.mul_one, Nat.add_zero] at this
  exact ⟨b, o, e, hb, this⟩
theorem RepS.open_ {w : World} {p : Nat} {l : Sl} {F : List Nat} (h : RepS w p l F) : ∃ A cap, w.heap[p]? = some (.cells #[.slice A l.length cap] 157 (0, 0)) ∧ w.ownsRow 0 159 2 (.slice A l.length cap) l.length (l.flatMap slotC) ∧ F = p :: (Value.slice A l.length cap).ownBlock.toList := by
  obtain ⟨v, h1, h2, h3, -⟩ := h
  obtain ⟨A, cap, rfl, -, -⟩ := row_slice h2
  exact ⟨A, cap, h1, h2, h3⟩

set_option maxHeartbeats 4000000 in
theorem load_in (A : Option Addr) (c : Nat) (gs : List Int) (A' : Option Addr) (c' : Nat) (ks : List Int) (w : World) (hk : ks.length ≤ 9223372036854775807) (hA : Lies w w.heap.size A (ints gs)) (hA' : Lies w w.heap.size A' (ints ks)) (hi : LoadIn gs ks) :
    Calls Tryz.prog 78 #[.slice A gs.length c, .slice A' ks.length c'] w (LoadPost gs ks w) := by
  have hm := (Below.refl w.heap.size w).alloc (Nat.le_refl _) (.cells #[.slice A gs.length c] 22)
  have h1 := containsN_any A c gs w.heap.size _ (by have := hi.len; omega) (hA.below hm)
  have h2 := containsK_any w.heap.size A gs.length c A' c' ks w.heap.size _ hk (hA'.below hm) (by simp) (by have := hi.len; omega)
  rw [hi.bad.1] at h1
  rw [hi.bad.2] at h2
  have H1 := Lib.hid h1; have H2 := Lib.hid h2; have HA := Lib.hid hA; have HA' := Lib.hid hA'; have HI := Lib.hid hi; have HM := Lib.hid hm
  have h60 := hi.len
  have hin : (gs.length : Int) ≤ (60 : Int) := by omega
  clear h1 h2 hA hA' hi hm
  go_enter Tryz.func78, Tryz.ntmps78
  go_wp2_with fail
  refine H1.out.mono ?_
  rintro e w1 ⟨rfl, rfl⟩
  go_wp2_with fail
  refine H2.out.mono ?_
  rintro e w1 ⟨rfl, rfl⟩
  go_wp2_with fail
  refine (slotsNew_any _).mono ?_
  rintro e w1 ⟨p, rfl, hb1, hs1, hp1⟩
  have d0 : w1.cell? ⟨w.heap.size, 0, none⟩ = some (.slice A gs.length c) := (hb1.cell (p := ⟨w.heap.size, 0, none⟩) (by simp)).trans (by simp)
  have hsz1 := hb1.size
  have hb2 := HM.out.trans (hb1.mono (by simp))
  simp only [World.size_alloc] at hsz1 hp1
  have HS1 := Lib.hid hs1; have HB1 := Lib.hid hb2
  have hpw : w.heap.size ≤ p := by omega
  clear hs1 hb1 H1 H2 HM hb2 hin hsz1 hp1
  go_wp2
  clear d0
  go_loopw [25] (fun i wr => ∃ (k : Nat) (F : List Nat), k ≤ gs.length ∧ i = .int .i64 k ∧ RepS wr p ((gs.take k).map (·, false)) F ∧ (∀ b ∈ F, w.heap.size ≤ b) ∧ Below w.heap.size w wr) (fun i _ => gs.length - (intOf i).toNat)
  case atStart => exact ⟨0, _, by omega, rfl, HS1.out, by simpa using hpw, HB1.out⟩
  case round =>
    obtain ⟨k, F, hkl, rfl, hs, hF, hbel⟩ := hrel
    have hsz := hbel.size
    by_cases hlt : k < gs.length
    · obtain ⟨ab, ao, rfl, hab, hcell⟩ := HA.out.int_at hlt
      have c0 := (hbel.cell (p := ⟨ab, ao + k, none⟩) hab).trans hcell
      have hab2 : ab < wr.heap.size := by omega
      have hs2 : (gs.take (k + 1)).map (·, false) = (gs.take k).map (·, false) ++ [(gs[k], false)] := by rw [take_succ_get gs k hlt, List.map_append]; rfl
      have hlen : ((gs.take k).map (·, false)).length ≤ 60 := by simp; omega
      generalize ((gs.take k).map (·, false)) = L at *
      obtain ⟨B, cap, hp, hrow, hFe⟩ := hs.open_
      have c1 := blk_cell hp 0
      simp at c1
      have hpl := blk_lt hp
      have HS := Lib.hid hs; have HP := Lib.hid hp; have HR := Lib.hid hrow; have HFe := Lib.hid hFe; have HF := Lib.hid hF; have HBel := Lib.hid hbel
      generalize gs[k] = x at *
      have Hs2 := Lib.hid hs2
      clear hcell hs2 hs hp hrow hFe hF hbel HS1 HB1
      go_wp2_with (at_builtin; refine app_slot rfl _ _ rfl 0 _ L (x, false) ⟨wr.heap.size, 0, none⟩ 1 rfl (row_mod HR.out ((Mod.refl [] wr).alloc _) (by simp)) rfl (new_rec rfl rfl) (by omega) (by omega) ?_; intro v' w2 hown2 hg1 hloc; obtain ⟨g', cap', rfl, n1, n2, n3, KR, KM, KF⟩ := push_fin HS.out HP.out HFe.out hown2 hg1 hloc; clear hown2 hg1 hloc)
      go_roundw
      case rel =>
        refine ⟨k + 1, _, by omega, by go_num, by rw [Hs2.out]; exact KR.out, ?_, ?_⟩
        · intro b hb
          rcases List.mem_cons.1 hb with rfl | hb
          · exact hpw
          · rcases KF.out b hb with h | h
            · exact HF.out b h
            · omega
        · have hpF : p ∈ F := by rw [HFe.out]; simp
          exact HBel.out.trans ((KM.out.setCell (.inl hpF) _).toBelow HF.out hsz)
      case measure => simp [intOf]; omega
    · obtain rfl : k = gs.length := by omega
      rw [List.take_length, ← loadL_nil] at hs
      have HS := Lib.hid hs; have HF := Lib.hid hF; have HBel := Lib.hid hbel
      clear hs hF hbel HS1 HB1
      go_wp2
      go_loopw [43] (fun i wr => ∃ n : Nat, n ≤ ks.length ∧ i = .int .i64 n ∧ RepS wr p (loadL gs (ks.take n)) F ∧ (∀ j (h : j < n) (h' : j < ks.length), hasB (ks.take j) ks[j] = false) ∧ Below w.heap.size w wr) (fun i _ => ks.length - (intOf i).toNat)
      case atStart => exact ⟨0, by omega, rfl, HS.out, fun j h => by omega, HBel.out⟩
      case round =>
        obtain ⟨n, hn, rfl, hs, hno, hbel⟩ := hrel
        have hsz := hbel.size
        have hlL := loadL_len gs (ks.take n)
        by_cases hlt : n < ks.length
        · obtain ⟨ab, ao, rfl, hab, hcell⟩ := HA'.out.int_at hlt
          have c0 := (hbel.cell (p := ⟨ab, ao + n, none⟩) hab).trans hcell
          obtain ⟨hz0, hz1⟩ := HI.out.keys n hlt
          obtain ⟨m, hm⟩ := Int.eq_ofNat_of_zero_le hz0
          rw [hm] at c0 hz1
          have hmL : m < (loadL gs (ks.take n)).length := by rw [hlL]; omega
          have hmi : (m : Int) < ((loadL gs (ks.take n)).length : Int) := by omega
          obtain ⟨g0, cap, hp, hgF, hgl, e0, e1, hfz, -, hset⟩ := hs.at_ hmL
          have hset' := hset true
          rw [loadL_set gs (ks.take n) hmL, ← hm, ← take_succ_get ks n hlt] at hset'
          rw [loadL_get gs (ks.take n) hmL] at e0 e1
          simp only at e0 e1
          have c1 := blk_cell hp 0
          simp only [List.getElem?_toArray, List.getElem?_cons_zero] at c1
          have hpl := blk_lt hp
          have f1 := hfz (m * 2 + 1)
          have hdup : hasB (ks.take n) (m : Int) = true → loadE gs ks = 6 := fun h => HI.out.dup (dupB_of hlt (by rw [hm]; exact h))
          have hno2 : hasB (ks.take n) (m : Int) = false → ∀ j (h : j < n + 1) (h' : j < ks.length), hasB (ks.take j) ks[j] = false := by
            intro hf j h h'
            by_cases e : j = n
            · subst e; rw [hm]; exact hf
            · exact hno j (by omega) h'
          have hab2 : ab < wr.heap.size := by omega
          clear hset
          generalize hasB (ks.take n) (m : Int) = r at *
          generalize gs[m]'(by omega) = x at *
          generalize loadL gs (ks.take n) = L at *
          have HS2 := Lib.hid hs; have HSet := Lib.hid hset'; have HBel2 := Lib.hid hbel; have Hdup := Lib.hid hdup; have Hno2 := Lib.hid hno2; have HG := Lib.hid hgF; have HP := Lib.hid hp
          clear hs hset' hbel hdup hno2 hno hcell hm hfz hgF hp HS HBel
          cases r with
          | true =>
            have H := Lib.hid (Hdup.out rfl)
            go_wp2
            refine bodyPost_ret (v := .tuple #[.pointer none, .int .i64 6]) (by unfold results; try go_simp) rfl ?_
            exact ⟨HBel2.out, .inl ⟨by rw [H.out]; omega, by rw [H.out]⟩⟩
          | false =>
            go_wp2
            go_roundw
            case rel => exact ⟨n + 1, by omega, by go_num, HSet.out, Hno2.out rfl, HBel2.out.trans (((Mod.refl F wr).setCell (p := ⟨g0, m * 2 + 1, none⟩) (.inl HG.out) _).toBelow HF.out hsz)⟩
            case measure => simp [intOf]; omega
        · obtain rfl : n = ks.length := by omega
          rw [List.take_length] at hs hlL
          have hd : dupB ks = false := dupB_none fun j hj => hno j hj hj
          obtain ⟨B, cap, hp, hrow, hFe⟩ := hs.open_
          have c1 := blk_cell hp 0
          simp only [List.getElem?_toArray, List.getElem?_cons_zero] at c1
          have hpl := blk_lt hp
          have hcs := containsSlot_any _ _ 1000000 true wr hrow (by rw [hlL]; omega)
          have HCs := Lib.hid hcs; have HS2 := Lib.hid hs; have HBel2 := Lib.hid hbel; have HD := Lib.hid hd
          clear hcs hs hbel hd hno hrow hp hFe HS HBel hlt
          generalize (loadL gs ks).length = NL at *
          subst hlL
          go_wp2_with fail
          refine HCs.out.mono ?_
          rintro e w4 ⟨rfl, hb4⟩
          have HB4 := Lib.hid (HBel2.out.trans (hb4.mono hsz))
          have HS4 := Lib.hid (HS2.out.mod (Mod.ofBelow hb4) (by simp))
          clear hb4 HCs
          cases hany : anyS (1000000, true) (loadL gs ks) with
          | true =>
            have H := Lib.hid (HI.out.full HD.out hany)
            clear hany
            go_wp2
            refine bodyPost_ret (v := .tuple #[.pointer none, .int .i64 1]) (by unfold results; try go_simp) rfl ?_
            exact ⟨HB4.out, .inl ⟨by rw [H.out]; omega, by rw [H.out]⟩⟩
          | false =>
            have H := Lib.hid (HI.out.good HD.out hany)
            have HO := Lib.hid (HI.out.ok hany)
            clear hany
            go_wp2
            refine bodyPost_ret (v := .tuple #[.pointer (some ⟨p, 0, none⟩), .int .i64 0]) (by unfold results; try go_simp) rfl ?_
            exact ⟨HB4.out, .inr ⟨H.out, p, F, rfl, HS4.out, HF.out, HO.out⟩⟩
theorem load_any (A : Option Addr) (c : Nat) (gs : List Int) (A' : Option Addr) (c' : Nat) (ks : List Int) (w : World) (hg : gs.length ≤ 9223372036854775807) (hk : ks.length ≤ 9223372036854775807) (hA : Lies w w.heap.size A (ints gs)) (hA' : Lies w w.heap.size A' (ints ks)) :
    Calls Tryz.prog 78 #[.slice A gs.length c, .slice A' ks.length c'] w (LoadPost gs ks w) := by
  by_cases h60 : 60 < gs.length
  · exact load_long A c gs A' c' ks w hg h60
  · cases h1 : anyP badN gs with
    | true => exact load_gen A c gs A' c' ks w (by omega) hA h1
    | false =>
      cases h2 : anyP (badK gs.length) ks with
      | true => exact load_key A c gs A' c' ks w (by omega) hk hA hA' h1 h2
      | false => exact load_in A c gs A' c' ks w hk hA hA' (loadIn_of (by omega) h1 h2)
end Go.Proofs.YtehjfmjibiafdaaGreat

/- The reference's Copy and outside; make in a region. -/
namespace Go.Proofs.YtehjfmjibiafdaaGreat
open Go Go.RowKit

set_option maxHeartbeats 1000000 in
theorem copyInt_any (A : Option Addr) (c : Nat) (l : List Int) (B : Nat) (w : World) (hl : l.length ≤ 60) (hA : Lies w B A (ints l)) (hB : B ≤ w.heap.size) :
    Calls Tryz.prog 39 #[.slice A l.length c] w (MadeInts w.heap.size l w) := by
  have hrow : w.ownsRow w.heap.size 3 1 (.slice none 0 0) 0 [] := ⟨rfl, .inl ⟨rfl, rfl⟩⟩
  obtain ⟨i0, hi, hz0, hz1, hz2⟩ := info_parts info_int
  have Hi := Lib.hid hi; have Hz0 := Lib.hid hz0; have Hz1 := Lib.hid hz1; have Hz2 := Lib.hid hz2
  clear hi hz0 hz1 hz2
  cases A with
  | none =>
    have hl0 : l = [] := by
      cases l with
      | nil => rfl
      | cons x l =>
        obtain ⟨a, h, -⟩ := hA 0 _ rfl
        cases h
    subst hl0
    clear hA
    go_enter Tryz.func39, Tryz.ntmps39
    go_wp2
    go_ret
    exact ⟨_, rfl, hrow, Below.refl _ _⟩
  | some a =>
    have HA := Lib.hid hA
    have hcell : ∀ j u, (ints l)[j]? = some u → w.cell? (a.add j) = some u := by
      intro j u hu
      obtain ⟨a', h, -, hc⟩ := HA.out j u hu
      cases h; exact hc
    have Hc := Lib.hid hcell; have Hr := Lib.hid hrow
    clear hcell hrow hA
    have hone : ∀ u ∈ ints l, u.oneCell' = true := by
      intro u hu
      simp only [ints, List.mem_map] at hu
      obtain ⟨x, -, rfl⟩ := hu
      rfl
    have Ho := Lib.hid hone
    clear hone
    go_enter Tryz.func39, Tryz.ntmps39
    go_wp2_with (at_builtin; refine wpList_append_own w rfl _ _ 22 rfl w.heap.size 3 i0 (.int .i64 0) 1 8 Tryz.underlying22 Hi.out Hz0.out Hz1.out Hz2.out rfl (by omega) (.slice none 0 0) 0 [] rfl Hr.out a l.length c (ints l) rfl (by simp [ints]) Hc.out Ho.out (by unfold maxLen; omega) (by omega) (Nat.le_refl _) ?_; intro v' w' h1 h2 h3)
    go_ret
    refine ⟨_, rfl, by simpa using h1, (Below.refl _ _).grown h2 (Nat.le_refl _) (by simp [Value.ownBlock])⟩
end Go.Proofs.YtehjfmjibiafdaaGreat

/- The contract of Eq at lists of rows. -/
namespace Go.Proofs.YtehjfmjibiafdaaGreat
open Go Go.RowKit

attribute [local go_sem] AllFrom.cons_eq AllFrom.nil_eq putF_nil putF_cons wantedL_none wantedL_some OpGoalQ YieldsR preF_nil preF_cons

set_option maxRecDepth 20000 in
set_option maxHeartbeats 1000000 in
theorem eqRow_any (A : Option Addr) (c : Nat) (A' : Option Addr) (c' : Nat) (l l' : List Rw) (w : World) (hl : l.length ≤ 9223372036854775807) (hl' : l'.length ≤ 9223372036854775807)
    (hA : Lies w w.heap.size A (l.flatMap rwC)) (hA' : Lies w w.heap.size A' (l'.flatMap rwC)) :
    Calls Tryz.prog 23 #[.slice A l.length c, .slice A' l'.length c'] w fun e w' => e = .returned (.bool (eqB l l')) ∧ Below w.heap.size w w' := by
  by_cases hlen : l.length = l'.length
  · have hb : ((l.length : Int) != (l'.length : Int)) = false := by simp [hlen]
    have Hlen := Lib.hid hlen
    clear hlen
    go_enter Tryz.func23, Tryz.ntmps23
    go_wp2
    go_loopw [14] (fun i wr => ∃ k : Nat, k ≤ l.length ∧ i = .int .i64 k ∧ l.take k = l'.take k ∧ Below w.heap.size w wr) (fun i _ => l.length - (intOf i).toNat)
    case atStart => exact ⟨0, by omega, rfl, rfl, Below.refl _ _⟩
    case round =>
      obtain ⟨k, hk, rfl, heq, hbel⟩ := hrel
      have Heq := Lib.hid heq
      clear heq hb
      have hsz := hbel.size
      by_cases hlt : k < l.length
      · have hlt' : k < l'.length := by rw [← Hlen.out]; exact hlt
        obtain ⟨ab, ao, rfl, hal, hc⟩ := hA.rec_at rwC_len (by omega) hlt
        obtain ⟨bb, bo, rfl, hbl, hc'⟩ := hA'.rec_at rwC_len (by omega) hlt'
        have hs := take_succ_get l k hlt
        have hs' := take_succ_get l' k hlt'
        have hne : l[k] ≠ l'[k] → l ≠ l' := by
          intro h e; subst e; exact h rfl
        have hc1 : ∀ j u, (rwC l[k])[j]? = some u → wr.cell? ((⟨ab, ao + k * 11, none⟩ : Addr).add j) = some u := fun j u hu => by
          have := (hbel.cell (p := ⟨ab, ao + k * 11 + j, none⟩) hal).trans (hc j u hu)
          rw [Addr.add_mid]; exact this
        have hc2 : ∀ j u, (rwC l'[k])[j]? = some u → wr.cell? ((⟨bb, bo + k * 11, none⟩ : Addr).add j) = some u := fun j u hu => by
          have := (hbel.cell (p := ⟨bb, bo + k * 11 + j, none⟩) hbl).trans (hc' j u hu)
          rw [Addr.add_mid]; exact this
        have hal2 : ab < wr.heap.size := by omega
        have hbl2 : bb < wr.heap.size := by omega
        have hin : (k : Int) < (l'.length : Int) := by omega
        generalize l[k] = x at *
        generalize l'[k] = y at *
        have Hs := Lib.hid hs; have Hs' := Lib.hid hs'; have Hne := Lib.hid hne; have Hc1 := Lib.hid hc1; have Hc2 := Lib.hid hc2; have Hbel := Lib.hid hbel
        have he := fun w => neqRow w x y
        clear hs hs' hne hc hc' hA hA' hc1 hc2 hbel
        generalize hr : eqB x y = r at *
        have Hr := Lib.hid hr
        clear hr
        have hDa : ∀ u ∈ rwC x, u.oneCell' = true := rwC_one x
        have HDa := Lib.hid hDa
        clear hDa
        go_wp2_with (first | (refine wpList_load_flat rfl 69 (.tmp 17) rfl _ rfl (rwC x) _ Tryz.underlying69 rfl (sz_Row _) Hc1.out ?_) | (refine wpList_store_new rfl 69 (.tmp 6) (.tmp 18) rfl wr (ints [0, 0, 0, 0, 0, 0, 0, 0, 0, 0, 0]) (rwC x) 69 rfl rfl rfl (sz_Row _) HDa.out ?_))
        have hnew : ∀ j u, (rwC x)[j]? = some u → (wr.alloc (.cells (rwC x).toArray 69)).drew.cell? ((⟨wr.heap.size, 0, none⟩ : Addr).add j) = some u := fun j u hu => new_rec rfl (by simp) j u hu
        have hold : ∀ j u, (rwC y)[j]? = some u → (wr.alloc (.cells (rwC x).toArray 69)).drew.cell? ((⟨bb, bo + k * 11, none⟩ : Addr).add j) = some u := fun j u hu => by
          have := Hc2.out j u hu
          rw [Addr.add_mid] at this ⊢
          exact (((Below.refl wr.heap.size wr).alloc (Nat.le_refl _) _).cell (p := ⟨bb, bo + k * 11 + j, none⟩) hbl2).trans this
        have Hnew := Lib.hid hnew; have Hold := Lib.hid hold
        clear hnew hold
        refine wp_planR 6 [1, 2] [some 19, some 20, some 21, some 22, some 23, some 24] [[], [], [], [1, 2], [1, 2, 3], [0, 1, 2, 3, 4]] [0, 1, 2, 3, 4, 5] mixed rfl (by kernel_rfl) (by decide) (by decide) rfl ?_
        iterate 6 apply Exists.intro
        refine ⟨rfl, ?_, ?_⟩
        · simp only [List.take_succ_cons, List.take_zero, AllFrom.cons_eq, AllFrom.nil_eq, OpGoalQ]
          refine ⟨?_, ?_, ?_, ?_, ?_, ?_, trivial⟩
          all_goals (intro σ hp; (try simp only [List.getD_cons_zero, List.getD_cons_succ, List.map_cons, List.map_nil, preF_cons, preF_nil, isV, and_true] at hp); (first | (have hq : True := hp; clear hq hp) | skip))
          · (simp only [wantedL_none, ↓reduceIte, List.getD_cons_zero, List.getD_cons_succ]; refine yr_load 69 (.tmp 6) (by rfl) ⟨wr.heap.size, 0, none⟩ ?_ (rwC x) _ Tryz.underlying69 rfl (sz_Row _) Hnew.out ?_; (· go_simp); (· exact ⟨rfl, rfl⟩))
          · (go_simp; exact ⟨rfl, rfl⟩)
          · (go_simp; exact ⟨rfl, rfl⟩)
          · (go_simp; exact ⟨rfl, rfl⟩)
          · (simp only [wantedL_none, ↓reduceIte, List.getD_cons_zero, List.getD_cons_succ]; refine yr_load 69 (.tmp 22) (by rfl) ⟨bb, bo + k * 11, none⟩ ?_ (rwC y) _ Tryz.underlying69 rfl (sz_Row _) Hold.out ?_; (· go_simp); (· exact ⟨rfl, rfl⟩))
          · (go_simp; exact ⟨rfl, rfl⟩)
        intro σ hp
        simp only [List.getD_cons_zero, List.getD_cons_succ, List.map_cons, List.map_nil, preF_cons, preF_nil, isV, and_true] at hp
        simp only [List.drop_succ_cons, List.drop_zero]
        go_simp
        clear hp
        cases r with
        | true =>
          have hxy : x = y := by simpa [eqB] using Hr.out
          have Hxy := Lib.hid hxy
          clear hxy
          go_simp
          refine ⟨rfl, ?_⟩
          go_wp2
          go_roundw
          case rel => exact ⟨k + 1, by omega, by go_num, by rw [Hs.out, Hs'.out, Heq.out, Hxy.out], (Hbel.out.alloc hsz _).drew⟩
          case measure => simp [intOf]; omega
        | false =>
          have hxy : x ≠ y := by intro e; have := Hr.out; rw [e, eqB_self] at this; cases this
          have Hf := Lib.hid (eqB_ne (Hne.out hxy))
          clear hxy
          go_simp
          refine ⟨rfl, ?_⟩
          go_wp2
          go_ret
          exact ⟨by rw [Hf.out]; rfl, (Hbel.out.alloc hsz _).drew⟩
      · have he : l = l' := by
          have := Heq.out
          rwa [List.take_of_length_le (by omega), List.take_of_length_le (by have := Hlen.out; omega)] at this
        have Hf : Hid (eqB l l' = true) := by rw [he]; exact eqB_self _
        clear he
        go_wp2
        go_ret
        exact ⟨by rw [Hf.out]; rfl, hbel⟩
  · have hb : ((l.length : Int) != (l'.length : Int)) = true := by simp; omega
    have Hf := Lib.hid (eqB_ne (fun e : l = l' => hlen (congrArg List.length e)))
    clear hlen
    go_enter Tryz.func23, Tryz.ntmps23
    go_wp2
    go_ret
    exact ⟨by rw [Hf.out]; rfl, Below.refl _ _⟩
end Go.Proofs.YtehjfmjibiafdaaGreat
