import Derived.Test.YtkcpmoinpdojjaaWorldLoadsJ27
import Derived.Test.YtkcpmoinpdojjaaWorldLoadsJ8
/- The program's Load. -/
namespace Go.Proofs.Ytkcpmoinpdojjaa
open Go.RowKit

/-- The slots when one has been set behind them. -/
theorem push_fin {p : Nat} {l : Sl} {F : List Nat} {w1 w2 : World} {v v' : Value} {o : Obj} {y : Int × Bool} (hR : RepS w1 p l F) (hp1 : w1.heap[p]? = some (.cells #[v] 146 (0, 0))) (hF : F = p :: v.ownBlock.toList)
    (hown : w2.ownsRow 0 148 2 v' (l ++ [y]).length ((l ++ [y]).flatMap slotC)) (hg : (w1.alloc o).grownBy w2 v.ownBlock) (hloc : v'.ownBlock = v.ownBlock ∨ v'.ownBlock = some (w1.alloc o).heap.size) :
    ∃ g' cap', v' = .slice (some ⟨g', 0, none⟩) (l.length + 1) cap' ∧ p < w2.heap.size ∧ w2.cell? ⟨p, 0, none⟩ = some v ∧ w2.frozen? ⟨p, 0, none⟩ = false ∧ Hid (RepS (w2.setCell ⟨p, 0, none⟩ v') p (l ++ [y]) (p :: v'.ownBlock.toList)) ∧ Hid (Mod F w1 w2) ∧ Hid (∀ k ∈ v'.ownBlock.toList, k ∈ F ∨ w1.heap.size ≤ k) := by
  have hlt := hR.lt
  have hpw := hlt p (by rw [hF]; simp)
  have hnp : F.Nodup := by obtain ⟨_, _, _, _, h⟩ := hR; exact h
  have hvp : ∀ k, v.ownBlock = some k → k ∈ F ∧ k ≠ p := by
    intro k hk
    refine ⟨by rw [hF]; simp [hk], ?_⟩
    rintro rfl
    rw [hF, hk] at hnp
    simp at hnp
  have hm : Mod F w1 w2 := ((Mod.refl F w1).alloc o).grown hg (fun k hk => .inl (hvp k hk).1)
  have hp2 : w2.heap[p]? = some (.cells #[v] 146 (0, 0)) := (hg.block p (by simp; omega) (fun e => (hvp p e.symm).2 rfl)).trans (blk_alloc hp1 o)
  have hgp : ∀ k, v'.ownBlock = some k → k ≠ p := by
    intro k hk
    rcases hloc with h | h
    · exact (hvp k (h.symm.trans hk)).2
    · rw [h] at hk; simp at hk; omega
  obtain ⟨g', cap', cur', he, -, -, -⟩ := row_some hown (by simp)
  refine ⟨g', cap', by rw [he]; simp, blk_lt hp2, by rw [blk_cell hp2]; rfl, blk_free hp2 0, ⟨v', by rw [blk_set hp2]; rfl, row_mod hown ((Mod.refl [p] _).setCell (.inl (by simp)) _) (fun k hk => by simpa using hgp k hk), rfl, ?_⟩, hm, ?_⟩
  · cases h : v'.ownBlock with
    | none => simp
    | some k => simpa using fun e => hgp k h e.symm
  · intro k hk
    have hk' : v'.ownBlock = some k := by simpa using hk
    rcases hloc with h | h
    · exact .inl (hvp k (h.symm.trans hk')).1
    · rw [h] at hk'; simp at hk'; right; omega

def LoadPost (gs ks : List Int) (w : World) (e : Ending) (w' : World) : Prop :=
  Below w.heap.size w w' ∧ ((loadE gs ks ≠ 0 ∧ e = .returned (.tuple #[.pointer none, .int .i64 (loadE gs ks)])) ∨
    (loadE gs ks = 0 ∧ ∃ p F, e = .returned (.tuple #[.pointer (some ⟨p, 0, none⟩), .int .i64 0]) ∧ RepS w' p (loadL gs ks) F ∧ (∀ k ∈ F, w.heap.size ≤ k) ∧ SlOk (loadL gs ks)))

set_option maxHeartbeats 1000000 in
theorem load_long (A : Option Addr) (c : Nat) (gs : List Int) (A' : Option Addr) (c' : Nat) (ks : List Int) (w : World) (hl : gs.length ≤ 9223372036854775807) (h60 : 60 < gs.length) :
    Calls Try.prog 124 #[.slice A gs.length c, .slice A' ks.length c'] w (LoadPost gs ks w) := by
  have H := Lib.hid (loadE_long (ks := ks) h60)
  have hin : (60 : Int) < (gs.length : Int) := by omega
  go_enter Try.func124, Try.ntmps124
  go_wp2
  refine bodyPost_ret (v := .tuple #[.pointer none, .int .i64 2]) (by unfold results; try go_simp) rfl ?_
  exact ⟨(Below.refl _ _).alloc (Nat.le_refl _) _, .inl ⟨by rw [H.out]; omega, by rw [H.out]⟩⟩

set_option maxHeartbeats 1000000 in
theorem load_gen (A : Option Addr) (c : Nat) (gs : List Int) (A' : Option Addr) (c' : Nat) (ks : List Int) (w : World) (h60 : gs.length ≤ 60) (hA : Lies w w.heap.size A (ints gs)) (hb : anyP badN gs = true) :
    Calls Try.prog 124 #[.slice A gs.length c, .slice A' ks.length c'] w (LoadPost gs ks w) := by
  have hE := loadE_gen (ks := ks) h60 hb
  have h1 := containsN_any A c gs w.heap.size _ (by omega) (hA.below ((Below.refl w.heap.size w).alloc (Nat.le_refl _) (.cells #[.slice A gs.length c] 55)))
  rw [hb] at h1
  have H := Lib.hid hE; have H1 := Lib.hid h1
  have hin : (gs.length : Int) ≤ (60 : Int) := by omega
  clear hE h1 hb hA
  go_enter Try.func124, Try.ntmps124
  go_wp2_with fail
  refine H1.out.mono ?_
  rintro e w1 ⟨rfl, rfl⟩
  go_wp2
  refine bodyPost_ret (v := .tuple #[.pointer none, .int .i64 1]) (by unfold results; try go_simp) rfl ?_
  exact ⟨(Below.refl _ _).alloc (Nat.le_refl _) _, .inl ⟨by rw [H.out]; omega, by rw [H.out]⟩⟩

set_option maxHeartbeats 1000000 in
theorem load_key (A : Option Addr) (c : Nat) (gs : List Int) (A' : Option Addr) (c' : Nat) (ks : List Int) (w : World) (h60 : gs.length ≤ 60) (hk : ks.length ≤ 9223372036854775807) (hA : Lies w w.heap.size A (ints gs)) (hA' : Lies w w.heap.size A' (ints ks))
    (hb : anyP badN gs = false) (hb2 : anyP (badK gs.length) ks = true) :
    Calls Try.prog 124 #[.slice A gs.length c, .slice A' ks.length c'] w (LoadPost gs ks w) := by
  have hE := loadE_key h60 hb hb2
  have hm := (Below.refl w.heap.size w).alloc (Nat.le_refl _) (.cells #[.slice A gs.length c] 55)
  have h1 := containsN_any A c gs w.heap.size _ (by omega) (hA.below hm)
  have h2 := containsK_any w.heap.size A gs.length c A' c' ks w.heap.size _ hk (hA'.below hm) (by simp) (by omega)
  rw [hb] at h1
  rw [hb2] at h2
  have H := Lib.hid hE; have H1 := Lib.hid h1; have H2 := Lib.hid h2
  have hin : (gs.length : Int) ≤ (60 : Int) := by omega
  clear hE h1 h2 hb hb2 hA hA' hm
  go_enter Try.func124, Try.ntmps124
  go_wp2_with fail
  refine H1.out.mono ?_
  rintro e w1 ⟨rfl, rfl⟩
  go_wp2_with fail
  refine H2.out.mono ?_
  rintro e w1 ⟨rfl, rfl⟩
  go_wp2
  refine bodyPost_ret (v := .tuple #[.pointer none, .int .i64 5]) (by unfold results; try go_simp) rfl ?_
  exact ⟨(Below.refl _ _).alloc (Nat.le_refl _) _, .inl ⟨by rw [H.out]; omega, by rw [H.out]⟩⟩

theorem Lies.int_at {w : World} {B : Nat} {A : Option Addr} {zs : List Int} (h : Lies w B A (ints zs)) {k : Nat} (hk : k < zs.length) :
    ∃ b o, A = some ⟨b, o, none⟩ ∧ b < B ∧ w.cell? ⟨b, o + k, none⟩ = some (.int .i64 zs[k]) := by
  have h1 : Lies w B A (zs.flatMap intC) := by rw [← ints_flat]; exact h
  obtain ⟨b, o, e, hb, hc⟩ := h1.rec_at (n := 1) (fun _ => rfl) (by omega) hk
  have := hc 0 _ rfl
  rw [Nat.mul_one, Nat.add_zero] at this
  exact ⟨b, o, e, hb, this⟩
theorem RepS.open_ {w : World} {p : Nat} {l : Sl} {F : List Nat} (h : RepS w p l F) : ∃ A cap, w.heap[p]? = some (.cells #[.slice A l.length cap] 146 (0, 0)) ∧ w.ownsRow 0 148 2 (.slice A l.length cap) l.length (l.flatMap slotC) ∧ F = p :: (Value.slice A l.length cap).ownBlock.toList := by
  obtain ⟨v, h1, h2, h3, -⟩ := h
  obtain ⟨A, cap, rfl, -, -⟩ := row_slice h2
  exact ⟨A, cap, h1, h2, h3⟩

set_option maxHeartbeats 4000000 in
theorem load_in (A : Option Addr) (c : Nat) (gs : List Int) (A' : Option Addr) (c' : Nat) (ks : List Int) (w : World) (hk : ks.length ≤ 9223372036854775807) (hA : Lies w w.heap.size A (ints gs)) (hA' : Lies w w.heap.size A' (ints ks)) (hi : LoadIn gs ks) :
    Calls Try.prog 124 #[.slice A gs.length c, .slice A' ks.length c'] w (LoadPost gs ks w) := by
  have hm := (Below.refl w.heap.size w).alloc (Nat.le_refl _) (.cells #[.slice A gs.length c] 55)
  have h1 := containsN_any A c gs w.heap.size _ (by have := hi.len; omega) (hA.below hm)
  have h2 := containsK_any w.heap.size A gs.length c A' c' ks w.heap.size _ hk (hA'.below hm) (by simp) (by have := hi.len; omega)
  rw [hi.bad.1] at h1
  rw [hi.bad.2] at h2
  have H1 := Lib.hid h1; have H2 := Lib.hid h2; have HA := Lib.hid hA; have HA' := Lib.hid hA'; have HI := Lib.hid hi; have HM := Lib.hid hm
  have h60 := hi.len
  have hin : (gs.length : Int) ≤ (60 : Int) := by omega
  clear h1 h2 hA hA' hi hm
  go_enter Try.func124, Try.ntmps124
  go_wp2_with fail
  refine H1.out.mono ?_
  rintro e w1 ⟨rfl, rfl⟩
  go_wp2_with fail
  refine H2.out.mono ?_
  rintro e w1 ⟨rfl, rfl⟩
  go_wp2_with fail
  refine (slotsNew_any _).mono ?_
  rintro e w1 ⟨p, rfl, hb1, hs1, hp1⟩
  have d0 : w1.cell? ⟨w.heap.size, 0, none⟩ = some (.slice A gs.length c) := (hb1.cell (p := ⟨w.heap.size, 0, none⟩) (by simp)).trans (by simp)
  have hsz1 := hb1.size
  have hb2 := HM.out.trans (hb1.mono (by simp))
  simp only [World.size_alloc] at hsz1 hp1
  have HS1 := Lib.hid hs1; have HB1 := Lib.hid hb2
  have hpw : w.heap.size ≤ p := by omega
  clear hs1 hb1 H1 H2 HM hb2 hin hsz1 hp1
  go_wp2
  clear d0
  go_loopw [25] (fun i wr => ∃ (k : Nat) (F : List Nat), k ≤ gs.length ∧ i = .int .i64 k ∧ RepS wr p ((gs.take k).map (·, false)) F ∧ (∀ b ∈ F, w.heap.size ≤ b) ∧ Below w.heap.size w wr) (fun i _ => gs.length - (intOf i).toNat)
  case atStart => exact ⟨0, _, by omega, rfl, HS1.out, by simpa using hpw, HB1.out⟩
  case round =>
    obtain ⟨k, F, hkl, rfl, hs, hF, hbel⟩ := hrel
    have hsz := hbel.size
    by_cases hlt : k < gs.length
    · obtain ⟨ab, ao, rfl, hab, hcell⟩ := HA.out.int_at hlt
      have c0 := (hbel.cell (p := ⟨ab, ao + k, none⟩) hab).trans hcell
      have hab2 : ab < wr.heap.size := by omega
      have hs2 : (gs.take (k + 1)).map (·, false) = (gs.take k).map (·, false) ++ [(gs[k], false)] := by rw [take_succ_get gs k hlt, List.map_append]; rfl
      have hlen : ((gs.take k).map (·, false)).length ≤ 60 := by simp; omega
      generalize ((gs.take k).map (·, false)) = L at *
      obtain ⟨B, cap, hp, hrow, hFe⟩ := hs.open_
      have c1 := blk_cell hp 0
      simp at c1
      have hpl := blk_lt hp
      have HS := Lib.hid hs; have HP := Lib.hid hp; have HR := Lib.hid hrow; have HFe := Lib.hid hFe; have HF := Lib.hid hF; have HBel := Lib.hid hbel
      generalize gs[k] = x at *
      have Hs2 := Lib.hid hs2
      clear hcell hs2 hs hp hrow hFe hF hbel HS1 HB1
      go_wp2_with (at_builtin; refine app_slot rfl _ _ rfl 0 _ L (x, false) ⟨wr.heap.size, 0, none⟩ 1 rfl (row_mod HR.out ((Mod.refl [] wr).alloc _) (by simp)) rfl (new_rec rfl rfl) (by omega) (by omega) ?_; intro v' w2 hown2 hg1 hloc; obtain ⟨g', cap', rfl, n1, n2, n3, KR, KM, KF⟩ := push_fin HS.out HP.out HFe.out hown2 hg1 hloc; clear hown2 hg1 hloc)
      go_roundw
      case rel =>
        refine ⟨k + 1, _, by omega, by go_num, by rw [Hs2.out]; exact KR.out, ?_, ?_⟩
        · intro b hb
          rcases List.mem_cons.1 hb with rfl | hb
          · exact hpw
          · rcases KF.out b hb with h | h
            · exact HF.out b h
            · omega
        · have hpF : p ∈ F := by rw [HFe.out]; simp
          exact HBel.out.trans ((KM.out.setCell (.inl hpF) _).toBelow HF.out hsz)
      case measure => simp [intOf]; omega
    · obtain rfl : k = gs.length := by omega
      rw [List.take_length, ← loadL_nil] at hs
      have HS := Lib.hid hs; have HF := Lib.hid hF; have HBel := Lib.hid hbel
      clear hs hF hbel HS1 HB1
      go_wp2
      go_loopw [43] (fun i wr => ∃ n : Nat, n ≤ ks.length ∧ i = .int .i64 n ∧ RepS wr p (loadL gs (ks.take n)) F ∧ (∀ j (h : j < n) (h' : j < ks.length), hasB (ks.take j) ks[j] = false) ∧ Below w.heap.size w wr) (fun i _ => ks.length - (intOf i).toNat)
      case atStart => exact ⟨0, by omega, rfl, HS.out, fun j h => by omega, HBel.out⟩
      case round =>
        obtain ⟨n, hn, rfl, hs, hno, hbel⟩ := hrel
        have hsz := hbel.size
        have hlL := loadL_len gs (ks.take n)
        by_cases hlt : n < ks.length
        · obtain ⟨ab, ao, rfl, hab, hcell⟩ := HA'.out.int_at hlt
          have c0 := (hbel.cell (p := ⟨ab, ao + n, none⟩) hab).trans hcell
          obtain ⟨hz0, hz1⟩ := HI.out.keys n hlt
          obtain ⟨m, hm⟩ := Int.eq_ofNat_of_zero_le hz0
          rw [hm] at c0 hz1
          have hmL : m < (loadL gs (ks.take n)).length := by rw [hlL]; omega
          have hmi : (m : Int) < ((loadL gs (ks.take n)).length : Int) := by omega
          obtain ⟨g0, cap, hp, hgF, hgl, e0, e1, hfz, -, hset⟩ := hs.at_ hmL
          have hset' := hset true
          rw [loadL_set gs (ks.take n) hmL, ← hm, ← take_succ_get ks n hlt] at hset'
          rw [loadL_get gs (ks.take n) hmL] at e0 e1
          simp only at e0 e1
          have c1 := blk_cell hp 0
          simp only [List.getElem?_toArray, List.getElem?_cons_zero] at c1
          have hpl := blk_lt hp
          have f1 := hfz (m * 2 + 1)
          have hdup : hasB (ks.take n) (m : Int) = true → loadE gs ks = 6 := fun h => HI.out.dup (dupB_of hlt (by rw [hm]; exact h))
          have hno2 : hasB (ks.take n) (m : Int) = false → ∀ j (h : j < n + 1) (h' : j < ks.length), hasB (ks.take j) ks[j] = false := by
            intro hf j h h'
            by_cases e : j = n
            · subst e; rw [hm]; exact hf
            · exact hno j (by omega) h'
          have hab2 : ab < wr.heap.size := by omega
          clear hset
          generalize hasB (ks.take n) (m : Int) = r at *
          generalize gs[m]'(by omega) = x at *
          generalize loadL gs (ks.take n) = L at *
          have HS2 := Lib.hid hs; have HSet := Lib.hid hset'; have HBel2 := Lib.hid hbel; have Hdup := Lib.hid hdup; have Hno2 := Lib.hid hno2; have HG := Lib.hid hgF; have HP := Lib.hid hp
          clear hs hset' hbel hdup hno2 hno hcell hm hfz hgF hp HS HBel
          cases r with
          | true =>
            have H := Lib.hid (Hdup.out rfl)
            go_wp2
            refine bodyPost_ret (v := .tuple #[.pointer none, .int .i64 6]) (by unfold results; try go_simp) rfl ?_
            exact ⟨HBel2.out, .inl ⟨by rw [H.out]; omega, by rw [H.out]⟩⟩
          | false =>
            go_wp2
            go_roundw
            case rel => exact ⟨n + 1, by omega, by go_num, HSet.out, Hno2.out rfl, HBel2.out.trans (((Mod.refl F wr).setCell (p := ⟨g0, m * 2 + 1, none⟩) (.inl HG.out) _).toBelow HF.out hsz)⟩
            case measure => simp [intOf]; omega
        · obtain rfl : n = ks.length := by omega
          rw [List.take_length] at hs hlL
          have hd : dupB ks = false := dupB_none fun j hj => hno j hj hj
          obtain ⟨B, cap, hp, hrow, hFe⟩ := hs.open_
          have c1 := blk_cell hp 0
          simp only [List.getElem?_toArray, List.getElem?_cons_zero] at c1
          have hpl := blk_lt hp
          have hcs := containsSlot_any _ _ 1000000 true wr hrow (by rw [hlL]; omega)
          have HCs := Lib.hid hcs; have HS2 := Lib.hid hs; have HBel2 := Lib.hid hbel; have HD := Lib.hid hd
          clear hcs hs hbel hd hno hrow hp hFe HS HBel hlt
          generalize (loadL gs ks).length = NL at *
          subst hlL
          go_wp2_with fail
          refine HCs.out.mono ?_
          rintro e w4 ⟨rfl, hb4⟩
          have HB4 := Lib.hid (HBel2.out.trans (hb4.mono hsz))
          have HS4 := Lib.hid (HS2.out.mod (Mod.ofBelow hb4) (by simp))
          clear hb4 HCs
          cases hany : anyS (1000000, true) (loadL gs ks) with
          | true =>
            have H := Lib.hid (HI.out.full HD.out hany)
            clear hany
            go_wp2
            refine bodyPost_ret (v := .tuple #[.pointer none, .int .i64 1]) (by unfold results; try go_simp) rfl ?_
            exact ⟨HB4.out, .inl ⟨by rw [H.out]; omega, by rw [H.out]⟩⟩
          | false =>
            have H := Lib.hid (HI.out.good HD.out hany)
            have HO := Lib.hid (HI.out.ok hany)
            clear hany
            go_wp2
            refine bodyPost_ret (v := .tuple #[.pointer (some ⟨p, 0, none⟩), .int .i64 0]) (by unfold results; try go_simp) rfl ?_
            exact ⟨HB4.out, .inr ⟨H.out, p, F, rfl, HS4.out, HF.out, HO.out⟩⟩
theorem load_any (A : Option Addr) (c : Nat) (gs : List Int) (A' : Option Addr) (c' : Nat) (ks : List Int) (w : World) (hg : gs.length ≤ 9223372036854775807) (hk : ks.length ≤ 9223372036854775807) (hA : Lies w w.heap.size A (ints gs)) (hA' : Lies w w.heap.size A' (ints ks)) :
    Calls Try.prog 124 #[.slice A gs.length c, .slice A' ks.length c'] w (LoadPost gs ks w) := by
  by_cases h60 : 60 < gs.length
  · exact load_long A c gs A' c' ks w hg h60
  · cases h1 : anyP badN gs with
    | true => exact load_gen A c gs A' c' ks w (by omega) hA h1
    | false =>
      cases h2 : anyP (badK gs.length) ks with
      | true => exact load_key A c gs A' c' ks w (by omega) hk hA hA' h1 h2
      | false => exact load_in A c gs A' c' ks w hk hA hA' (loadIn_of (by omega) h1 h2)
end Go.Proofs.Ytkcpmoinpdojjaa

/- The reference's Copy and outside; make in a region. -/
namespace Go.Proofs.Ytkcpmoinpdojjaa
open Go Go.RowKit

set_option maxHeartbeats 1000000 in
theorem copyInt_any (A : Option Addr) (c : Nat) (l : List Int) (B : Nat) (w : World) (hl : l.length ≤ 60) (hA : Lies w B A (ints l)) (hB : B ≤ w.heap.size) :
    Calls Try.prog 163 #[.slice A l.length c] w (MadeInts w.heap.size l w) := by
  have hrow : w.ownsRow w.heap.size 3 1 (.slice none 0 0) 0 [] := ⟨rfl, .inl ⟨rfl, rfl⟩⟩
  obtain ⟨i0, hi, hz0, hz1, hz2⟩ := info_parts info_int
  have Hi := Lib.hid hi; have Hz0 := Lib.hid hz0; have Hz1 := Lib.hid hz1; have Hz2 := Lib.hid hz2
  clear hi hz0 hz1 hz2
  cases A with
  | none =>
    have hl0 : l = [] := by
      cases l with
      | nil => rfl
      | cons x l =>
        obtain ⟨a, h, -⟩ := hA 0 _ rfl
        cases h
    subst hl0
    clear hA
    go_enter Try.func163, Try.ntmps163
    go_wp2
    go_ret
    exact ⟨_, rfl, hrow, Below.refl _ _⟩
  | some a =>
    have HA := Lib.hid hA
    have hcell : ∀ j u, (ints l)[j]? = some u → w.cell? (a.add j) = some u := by
      intro j u hu
      obtain ⟨a', h, -, hc⟩ := HA.out j u hu
      cases h; exact hc
    have Hc := Lib.hid hcell; have Hr := Lib.hid hrow
    clear hcell hrow hA
    have hone : ∀ u ∈ ints l, u.oneCell' = true := by
      intro u hu
      simp only [ints, List.mem_map] at hu
      obtain ⟨x, -, rfl⟩ := hu
      rfl
    have Ho := Lib.hid hone
    clear hone
    go_enter Try.func163, Try.ntmps163
    go_wp2_with (at_builtin; refine wpList_append_own w rfl _ _ 55 rfl w.heap.size 3 i0 (.int .i64 0) 1 8 Try.underlying55 Hi.out Hz0.out Hz1.out Hz2.out rfl (by omega) (.slice none 0 0) 0 [] rfl Hr.out a l.length c (ints l) rfl (by simp [ints]) Hc.out Ho.out (by unfold maxLen; omega) (by omega) (Nat.le_refl _) ?_; intro v' w' h1 h2 h3)
    go_ret
    refine ⟨_, rfl, by simpa using h1, (Below.refl _ _).grown h2 (Nat.le_refl _) (by simp [Value.ownBlock])⟩
end Go.Proofs.Ytkcpmoinpdojjaa

/- The reference's SlotsLoad. -/
namespace Go.Proofs.Ytkcpmoinpdojjaa
open Go Go.RowKit

attribute [local go_sem] AllFrom.cons_eq AllFrom.nil_eq putF_nil putF_cons wantedL_none wantedL_some OpGoalT OpGoalS OpGoalP OpGoalV YieldsR preF_nil preF_cons

theorem made_bools (n : Nat) : (madeCells (Value.bool false).cells (n * 1)).toList = bools (List.replicate n false) := by
  apply List.ext_getElem
  · simp [madeCells, bools]
  · intro i h1 h2
    simp [madeCells, bools, Value.cells, Nat.mod_one]
theorem make_bools (w : World) (n : Nat) (hn : n ≤ 60) : ∃ w', (Instr.makeSlice 67 (.int .i64 (n : Int)) (.int .i64 (n : Int))).run Try.prog w = .ok (.slice (some ⟨w.heap.size, 0, none⟩) n n) w' ∧
    w'.ownsRow w.heap.size 4 1 (.slice (some ⟨w.heap.size, 0, none⟩) n n) n (bools (List.replicate n false)) ∧ w.grownBy w' none := by
  obtain ⟨i0, hi, hz0, hz1, hz2⟩ := info_parts info_bool
  have h := run_make_full (P := Try.prog) w w.heap.size 67 4 i0 (.bool false) 1 Try.underlying67 hi hz0 hz1 .i64 .i64 n (by rw [hz2]; omega) (by unfold maxLen; omega) (Nat.le_refl _)
  rw [made_bools] at h
  exact h
theorem yr_make {o : Oper} {ρ : Operand → Value} {V : World} {J : Value → World → Prop} (x y : Operand) (n : Nat) (ho : o.op = .makeSlice 67 x y) (hx : ρ x = .int .i64 (n : Int)) (hy : ρ y = .int .i64 (n : Int)) (hn : n ≤ 60)
    (h : ∀ V2, V2.ownsRow V.heap.size 4 1 (.slice (some ⟨V.heap.size, 0, none⟩) n n) n (bools (List.replicate n false)) → Below V.heap.size V V2 → J (.slice (some ⟨V.heap.size, 0, none⟩) n n) V2) : YieldsR Try.prog o ρ V J := by
  obtain ⟨V2, hr, hown, hgr⟩ := make_bools V n hn
  unfold YieldsR execOp
  simp only [ho, resolve, Sem.run_bind, Sem.run_pure, Result.andThen_ok, hx, hy, hr]
  exact h V2 hown ((Below.refl _ _).grown hgr (Nat.le_refl _) (by simp))
theorem wrapMid (z : Int) (h1 : -1000000 ≤ z) (h2 : z ≤ 1000000) : IntKind.i64.wrap z = z := by
  by_cases h : 0 ≤ z
  · exact wrapSmall z h h2
  · have e : z % 2 ^ 64 = z + 2 ^ 64 := by
      rw [← Int.add_emod_right]
      exact Int.emod_eq_of_lt (by omega) (by omega)
    simp only [IntKind.wrap, IntKind.bits, IntKind.signed, e, Bool.true_and, decide_eq_true_eq]
    split <;> omega

def RLoadPost (gs ks : List Int) (w : World) (e : Ending) (w' : World) : Prop :=
  Below w.heap.size w w' ∧ ((loadE gs ks ≠ 0 ∧ e = .returned (.tuple #[.pointer none, .int .i64 (loadE gs ks)])) ∨
    (loadE gs ks = 0 ∧ ∃ p F, e = .returned (.tuple #[.pointer (some ⟨p, 0, none⟩), .int .i64 0]) ∧ RepRS w' p (loadL gs ks) F ∧ (∀ k ∈ F, w.heap.size ≤ k) ∧ SlOk (loadL gs ks)))

theorem LoadIn.spent {gs ks : List Int} (h : LoadIn gs ks) {j m : Nat} (hj : j < ks.length) (hm : ks[j] = m) (hg : gs.getD m 0 = 1000000) : anyS (1000000, true) (loadL gs ks) = true := by
  have hml : m < gs.length := by have := (h.keys j hj).2; omega
  have hmL : m < (loadL gs ks).length := by rw [loadL_len]; exact hml
  have e := loadL_get gs ks hmL
  rw [List.getD_eq_getElem?_getD, List.getElem?_eq_getElem hml, Option.getD_some] at hg
  rw [hg, (hasB_iff ks (m : Int)).2 (by rw [← hm]; exact List.getElem_mem hj)] at e
  rw [anyS_iff, ← e]
  exact List.getElem_mem hmL
theorem LoadIn.unspent {gs ks : List Int} (h : LoadIn gs ks) (hno : ∀ j (hj : j < ks.length) (m : Nat), ks[j] = m → gs.getD m 0 ≠ 1000000) : anyS (1000000, true) (loadL gs ks) = false := by
  cases e : anyS (1000000, true) (loadL gs ks) with
  | false => rfl
  | true =>
    rw [anyS_iff] at e
    obtain ⟨m, hm, he⟩ := List.mem_iff_getElem.1 e
    rw [loadL_get gs ks hm] at he
    have hml : m < gs.length := by rwa [loadL_len] at hm
    have h1 : gs[m] = 1000000 := congrArg Prod.fst he
    have h2 : hasB ks (m : Int) = true := congrArg Prod.snd he
    rw [hasB_iff] at h2
    obtain ⟨j, hj, hjm⟩ := List.mem_iff_getElem.1 h2
    exact absurd (by rw [List.getD_eq_getElem?_getD, List.getElem?_eq_getElem hml]; exact h1) (hno j hj m hjm)
theorem outside_gen (x : Int) : outsideB x 0 1000000 = badN x := rfl
theorem outside_key (n : Nat) (x : Int) : outsideB x 0 ((n : Int) - 1) = badK n x := by
  unfold outsideB badK
  congr 1
  simp; omega

/-- Two of a region's values lie in blocks of their own, apart. -/
structure TwoI (V : World) (i j : Nat) (L : Nat → Bool) (σ : Nat → Value) : Prop where
  a : L i = true → ∀ k, (σ i).ownBlock = some k → k < V.heap.size
  b : L j = true → ∀ k, (σ j).ownBlock = some k → k < V.heap.size
  ne : L i = true → L j = true → ∀ k, (σ i).ownBlock = some k → (σ j).ownBlock ≠ some k
theorem TwoI.nil {V : World} {i j : Nat} {σ : Nat → Value} : TwoI V i j (fun _ => false) σ := ⟨fun h => (nomatch h), fun h => (nomatch h), fun h => (nomatch h)⟩
theorem TwoI.other {V V' : World} {i j k : Nat} {L : Nat → Bool} {σ : Nat → Value} {v : Value} (h : TwoI V i j L σ) (hs : V.heap.size ≤ V'.heap.size) (hi : i ≠ k) (hj : j ≠ k) : TwoI V' i j (upd L k) (updv σ k v) := by
  have e1 : upd L k i = L i := by simp [upd, hi]
  have e2 : upd L k j = L j := by simp [upd, hj]
  have e3 : updv σ k v i = σ i := by simp [updv, hi]
  have e4 : updv σ k v j = σ j := by simp [updv, hj]
  refine ⟨?_, ?_, ?_⟩
  · rw [e1, e3]; intro hl b hb; have := h.a hl b hb; omega
  · rw [e2, e4]; intro hl b hb; have := h.b hl b hb; omega
  · rw [e1, e2, e3, e4]; exact h.ne
theorem TwoI.left {V V' : World} {i j : Nat} {L : Nat → Bool} {σ : Nat → Value} {v : Value} (h : TwoI V i j L σ) (hs : V.heap.size ≤ V'.heap.size) (hij : j ≠ i) (hv : ∀ k, v.ownBlock = some k → V.heap.size ≤ k ∧ k < V'.heap.size) : TwoI V' i j (upd L i) (updv σ i v) := by
  have e2 : upd L i j = L j := by simp [upd, hij]
  have e3 : updv σ i v i = v := by simp [updv]
  have e4 : updv σ i v j = σ j := by simp [updv, hij]
  refine ⟨?_, ?_, ?_⟩
  · rw [e3]; intro _ b hb; exact (hv b hb).2
  · rw [e2, e4]; intro hl b hb; have := h.b hl b hb; omega
  · rw [e2, e3, e4]; intro _ hl b hb hb'; have := h.b hl b hb'; have := hv b hb; omega
theorem TwoI.right {V V' : World} {i j : Nat} {L : Nat → Bool} {σ : Nat → Value} {v : Value} (h : TwoI V i j L σ) (hs : V.heap.size ≤ V'.heap.size) (hij : i ≠ j) (hv : ∀ k, v.ownBlock = some k → V.heap.size ≤ k ∧ k < V'.heap.size) : TwoI V' i j (upd L j) (updv σ j v) := by
  have e2 : upd L j i = L i := by simp [upd, hij]
  have e3 : updv σ j v j = v := by simp [updv]
  have e4 : updv σ j v i = σ i := by simp [updv, hij]
  refine ⟨?_, ?_, ?_⟩
  · rw [e2, e4]; intro hl b hb; have := h.a hl b hb; omega
  · rw [e3]; intro _ b hb; exact (hv b hb).2
  · rw [e2, e3, e4]; intro hl _ b hb hb'; have := h.a hl b hb; have := hv b hb'; omega
theorem gens_load (gs : List Int) : gensS (loadL gs []) = gs := by rw [loadL_nil]; simp [gensS, Function.comp_def]
theorem lives_load (gs : List Int) : livesS (loadL gs []) = List.replicate gs.length false := by
  rw [loadL_nil]
  apply List.ext_getElem
  · simp [livesS]
  · intro i h1 h2
    simp [livesS]
theorem load_rep {gs : List Int} {V w : World} {v1 v4 : Value} (h1 : V.ownsRow w.heap.size 3 1 v1 gs.length (ints gs)) (h4 : V.ownsRow w.heap.size 4 1 v4 gs.length (bools (List.replicate gs.length false))) (hne : ∀ k, v1.ownBlock = some k → v4.ownBlock ≠ some k) :
    RepRS (V.alloc (.cells #[v1, v4] 69)) V.heap.size (loadL gs []) (V.heap.size :: (v1.ownBlock.toList ++ v4.ownBlock.toList)) := by
  refine ⟨v1, v4, heap_alloc_new V _, ?_, ?_, rfl, ?_⟩
  · rw [gens_load, loadL_len]; exact row_base (h1.alloc _) (fun _ _ => Nat.zero_le _)
  · rw [lives_load, loadL_len]; exact row_base (h4.alloc _) (fun _ _ => Nat.zero_le _)
  · have a1 : ∀ k, v1.ownBlock = some k → k < V.heap.size := fun k hk => row_lt h1 k hk
    have a4 : ∀ k, v4.ownBlock = some k → k < V.heap.size := fun k hk => row_lt h4 k hk
    cases e1 : v1.ownBlock with
    | none =>
      cases e4 : v4.ownBlock with
      | none => simp
      | some b => have := a4 b e4; simp; omega
    | some a =>
      have h := a1 a e1
      cases e4 : v4.ownBlock with
      | none => simp; omega
      | some b =>
        have h' := a4 b e4
        have hn := hne a e1
        rw [e4] at hn
        simp at hn ⊢
        refine ⟨by omega, fun e => hn e.symm⟩

set_option maxRecDepth 20000 in
set_option maxHeartbeats 4000000 in
theorem rload_any (A : Option Addr) (c : Nat) (gs : List Int) (A' : Option Addr) (c' : Nat) (ks : List Int) (w : World) (hg : gs.length ≤ 9223372036854775807) (hk : ks.length ≤ c') (hc' : c' ≤ 9223372036854775807) (hA : Lies w w.heap.size A (ints gs)) (hA' : Lies w w.heap.size A' (ints ks)) :
    Calls Try.prog 126 #[.slice A gs.length c, .slice A' ks.length c'] w (RLoadPost gs ks w) := by
  by_cases h60 : 60 < gs.length
  · have H := Lib.hid (loadE_long (ks := ks) h60)
    have hin : (60 : Int) < (gs.length : Int) := by omega
    go_enter Try.func126, Try.ntmps126
    go_wp2
    refine bodyPost_ret (v := .tuple #[.pointer none, .int .i64 2]) (by unfold results; try go_simp) rfl ?_
    exact ⟨Below.refl _ _, .inl ⟨by rw [H.out]; omega, by rw [H.out]⟩⟩
  · have HA := Lib.hid hA; have HA' := Lib.hid hA'
    have hin : (gs.length : Int) ≤ (60 : Int) := by omega
    have hle : gs.length ≤ 60 := by omega
    clear hA hA' h60
    go_enter Try.func126, Try.ntmps126
    go_wp2
    go_loop [20] (fun i => ∃ k : Nat, k ≤ gs.length ∧ i = .int .i64 k ∧ (∀ j (h : j < k) (h' : j < gs.length), badN gs[j] = false)) (fun i => gs.length - (intOf i).toNat)
    case atStart => exact ⟨0, by omega, rfl, fun j h => by omega⟩
    case round =>
      obtain ⟨k, hkl, rfl, hno⟩ := hrel
      by_cases hlt : k < gs.length
      · obtain ⟨ab, ao, rfl, hab, c0⟩ := HA.out.int_at hlt
        have hyes : badN gs[k] = true → loadE gs ks = 1 := fun h => loadE_gen (by omega) (anyP_of hlt h)
        have hno2 : badN gs[k] = false → ∀ j (h : j < k + 1) (h' : j < gs.length), badN gs[j] = false := by
          intro hf j h h'
          by_cases e : j = k
          · subst e; exact hf
          · exact hno j (by omega) h'
        have ho := outside_any gs[k] 0 1000000 w
        rw [outside_gen] at ho
        generalize badN gs[k] = r at *
        generalize gs[k] = x at *
        have Hno2 := Lib.hid hno2; have Hyes := Lib.hid hyes; have Ho := Lib.hid ho
        clear hno hno2 hyes ho
        cases r with
        | true =>
          have H := Lib.hid (Hyes.out rfl)
          go_wp2_with (go_at_call 63; refine (Ho.out).mono ?_; rintro e w1 ⟨rfl, rfl⟩)
          refine bodyPost_ret (v := .tuple #[.pointer none, .int .i64 1]) (by unfold results; try go_simp) rfl ?_
          exact ⟨Below.refl _ _, .inl ⟨by rw [H.out]; omega, by rw [H.out]⟩⟩
        | false =>
          go_wp2_with (go_at_call 63; refine (Ho.out).mono ?_; rintro e w1 ⟨rfl, rfl⟩)
          go_round
          case rel => exact ⟨k + 1, by omega, by go_num, Hno2.out trivial⟩
          case measure => simp [intOf]; omega
      · obtain rfl : k = gs.length := by omega
        have hbn : anyP badN gs = false := anyP_none fun j hj => hno j hj hj
        clear hno hlt
        have hn1 := wrapMid ((gs.length : Int) - 1) (by omega) (by omega)
        go_wp2
        go_loop [29] (fun i => ∃ k : Nat, k ≤ ks.length ∧ i = .int .i64 k ∧ (∀ j (h : j < k) (h' : j < ks.length), badK gs.length ks[j] = false)) (fun i => ks.length - (intOf i).toNat)
        case atStart => exact ⟨0, by omega, rfl, fun j h => by omega⟩
        case round =>
          obtain ⟨k, hkl2, rfl, hno⟩ := hrel
          by_cases hlt : k < ks.length
          · obtain ⟨ab, ao, rfl, hab, c0⟩ := HA'.out.int_at hlt
            have hyes : badK gs.length ks[k] = true → loadE gs ks = 5 := fun h => loadE_key (by omega) hbn (anyP_of hlt h)
            have hno2 : badK gs.length ks[k] = false → ∀ j (h : j < k + 1) (h' : j < ks.length), badK gs.length ks[j] = false := by
              intro hf j h h'
              by_cases e : j = k
              · subst e; exact hf
              · exact hno j (by omega) h'
            have ho := outside_any ks[k] 0 ((gs.length : Int) - 1) w
            rw [outside_key] at ho
            generalize badK gs.length ks[k] = r at *
            generalize ks[k] = x at *
            have Hno2 := Lib.hid hno2; have Hyes := Lib.hid hyes; have Ho := Lib.hid ho; have Hbn := Lib.hid hbn
            clear hno hno2 hyes ho hbn
            cases r with
            | true =>
              have H := Lib.hid (Hyes.out rfl)
              go_wp2_with (go_at_call 63; refine (Ho.out).mono ?_; rintro e w1 ⟨rfl, rfl⟩)
              refine bodyPost_ret (v := .tuple #[.pointer none, .int .i64 5]) (by unfold results; try go_simp) rfl ?_
              exact ⟨Below.refl _ _, .inl ⟨by rw [H.out]; omega, by rw [H.out]⟩⟩
            | false =>
              go_wp2_with (go_at_call 63; refine (Ho.out).mono ?_; rintro e w1 ⟨rfl, rfl⟩)
              go_round
              case rel => exact ⟨k + 1, by omega, by go_num, Hno2.out trivial⟩
              case measure => simp [intOf]; omega
          · obtain rfl : k = ks.length := by omega
            have hbk : anyP (badK gs.length) ks = false := anyP_none fun j hj => hno j hj hj
            have HI := Lib.hid (loadIn_of (by omega) hbn hbk)
            clear hno hlt hbn hbk
            go_wp2
            refine wp_planF 5 [0, 2] [some 39, some 40, some 41, some 42, some 43, some 44, some 45, some 10] [[], [0], [], [2], [2, 3], [0, 1, 2, 3, 4], [0, 1, 2, 3, 4, 5], [0, 1, 2, 3, 4, 5, 6]] [0, 1, 2, 3, 4] 5 (fun vs => [isV (vs.getD 0 undef), (rowV w.heap.size 3 1 gs.length (ints gs)), isV (vs.getD 2 undef), isV (vs.getD 3 undef), (rowV w.heap.size 4 1 gs.length (bools (List.replicate gs.length false)))])
              (fun L σ V => Below w.heap.size w V ∧ TwoI V 1 4 L σ) mixed rfl (by kernel_rfl) (by decide) (by decide)
              ⟨(Below.refl _ _).drew, TwoI.nil⟩ rfl ?_
            iterate 5 apply Exists.intro
            refine ⟨?_, ?_⟩
            · simp only [List.take_succ_cons, List.take_zero, AllFrom.cons_eq, AllFrom.nil_eq, OpGoalV]
              refine ⟨?_, ?_, ?_, ?_, ?_, trivial⟩
              all_goals (intro L' σ V h1 h2 h3 hI hp; clear h2 h3; (try simp only [List.getD_cons_zero, List.getD_cons_succ, preF_cons, preF_nil, isV, and_true] at hp); (first | (have hq : True := hp; clear hq hp) | skip))
              all_goals (
                have HI := Lib.hid hI
                clear hI h1)
              · go_simp; exact ⟨rfl, ⟨HI.out.1, HI.out.2.other (Nat.le_refl _) (by decide) (by decide)⟩, KeepAll.refl⟩
              rotate_left 1
              · go_simp; exact ⟨rfl, ⟨HI.out.1, HI.out.2.other (Nat.le_refl _) (by decide) (by decide)⟩, KeepAll.refl⟩
              · go_simp; exact ⟨rfl, ⟨HI.out.1, HI.out.2.other (Nat.le_refl _) (by decide) (by decide)⟩, KeepAll.refl⟩
              · simp only [wantedL_none, ↓reduceIte, List.getD_cons_zero, List.getD_cons_succ]
                apply yr_make (.tmp 42) (.tmp 42) gs.length
                case ho => rfl
                case hx => go_simp
                case hy => go_simp
                case hn => exact hle
                intro V2 hown hb
                exact ⟨row_base hown (fun k hk => Nat.le_trans HI.out.1.size (own_ge hown k hk)), ⟨HI.out.1.trans (hb.mono HI.out.1.size), HI.out.2.right hb.size (by decide) (fun k hk => ⟨own_ge hown k hk, row_lt hown k hk⟩)⟩, KeepAll.ofStab (T := Grow) hb (by repeat (first | exact allStab_nil | refine allStab_isV ?_ | refine allStab_rowV ?_))⟩
              · go_simp
                refine (copyInt_any A c gs w.heap.size V hle (HA.out.below HI.out.1) HI.out.1.size).mono ?_
                rintro e V2 ⟨v, rfl, hown, hb⟩
                exact ⟨_, rfl, ⟨row_base hown (fun k hk => Nat.le_trans HI.out.1.size (own_ge hown k hk)), ⟨HI.out.1.trans (hb.mono HI.out.1.size), HI.out.2.left hb.size (by decide) (fun k hk => ⟨own_ge hown k hk, row_lt hown k hk⟩)⟩, KeepAll.ofStab (T := Grow) hb (by repeat (first | exact allStab_nil | refine allStab_isV ?_ | refine allStab_rowV ?_))⟩⟩
            · intro L' σ V h1 hI hp
              have hL1 := h1 1 (by decide)
              have hL4 := h1 4 (by decide)
              clear h1
              simp only [List.getD_cons_zero, List.getD_cons_succ, preF_cons, preF_nil, isV, and_true] at hp
              have s0 := hp.1
              have s1 := hp.2.1
              have s2 := hp.2.2.1
              have s3 := hp.2.2.2.1
              have s4 := hp.2.2.2.2
              clear hp
              have hne := hI.2.ne hL1 hL4
              have hV := hI.1
              clear hI hL1 hL4
              simp only [List.drop_succ_cons, List.drop_zero]
              go_simp
              clear s0 s2 s3
              generalize σ 1 = v1 at *
              generalize σ 4 = v4 at *
              obtain ⟨A1, c1, rfl, -, -⟩ := row_slice s1
              obtain ⟨A4, c4, rfl, -, -⟩ := row_slice s4
              have hrep := load_rep s1 s4 hne
              have hlow : ∀ k ∈ (V.heap.size :: ((Value.slice A1 gs.length c1).ownBlock.toList ++ (Value.slice A4 gs.length c4).ownBlock.toList)), w.heap.size ≤ k := by
                intro k hk
                rcases List.mem_cons.1 hk with rfl | hk
                · exact hV.size
                · rcases List.mem_append.1 hk with hk | hk
                  · exact own_ge s1 k (by simpa using hk)
                  · exact own_ge s4 k (by simpa using hk)
              have HR := Lib.hid hrep; have HLow := Lib.hid hlow; have HV := Lib.hid (hV.alloc hV.size (.cells #[.slice A1 gs.length c1, .slice A4 gs.length c4] 69))
              clear hrep hlow hV hne s1 s4
              go_wp2
              refine ⟨rfl, ?_⟩
              go_wp2
              obtain ⟨w2, hw2⟩ : ∃ w2, w2 = V.alloc (.cells #[.slice A1 gs.length c1, .slice A4 gs.length c4] 69) := ⟨_, rfl⟩
              rw [← hw2] at HR HV
              rw [← hw2]
              clear hw2
              generalize (Value.slice A1 gs.length c1).ownBlock = o1 at *
              generalize (Value.slice A4 gs.length c4).ownBlock = o4 at *
              generalize hG : V.heap.size :: (o1.toList ++ o4.toList) = G at *
              clear hG
              generalize V.heap.size = q at *
              go_loopw [48] (fun i wr => ∃ n : Nat, n ≤ ks.length ∧ i = .int .i64 n ∧ RepRS wr q (loadL gs (ks.take n)) G ∧ (∀ j (h : j < n) (h' : j < ks.length), hasB (ks.take j) ks[j] = false) ∧ Below w.heap.size w wr) (fun i _ => ks.length - (intOf i).toNat)
              case atStart => exact ⟨0, by omega, rfl, HR.out, fun j h => by omega, HV.out⟩
              case round =>
                obtain ⟨n, hn, rfl, hs, hno, hbel⟩ := hrel
                have hsz := hbel.size
                have hlL := loadL_len gs (ks.take n)
                by_cases hlt : n < ks.length
                · obtain ⟨ab, ao, rfl, hab, hcell⟩ := HA'.out.int_at hlt
                  have c0 := (hbel.cell (p := ⟨ab, ao + n, none⟩) hab).trans hcell
                  obtain ⟨hz0, hz1⟩ := HI.out.keys n hlt
                  obtain ⟨m, hm⟩ := Int.eq_ofNat_of_zero_le hz0
                  rw [hm] at c0 hz1
                  have hmL : m < (loadL gs (ks.take n)).length := by rw [hlL]; omega
                  have hmi : (m : Int) < ((loadL gs (ks.take n)).length : Int) := by omega
                  obtain ⟨g0, k0, g1, k1, hp, hgF, hgF1, n1, n2, n3, n4, l0, l1, -, e1, hfz, hfz1, -, hset⟩ := hs.at_ hmL
                  have hset' := hset true
                  rw [loadL_set gs (ks.take n) hmL, ← hm, ← take_succ_get ks n hlt] at hset'
                  rw [loadL_get gs (ks.take n) hmL] at e1
                  simp only at e1
                  have c2 := blk_cell hp 1
                  simp only [List.getElem?_toArray, List.getElem?_cons_zero, List.getElem?_cons_succ] at c2
                  have hpl := blk_lt hp
                  have f1 := hfz1 m
                  have hdup : hasB (ks.take n) (m : Int) = true → loadE gs ks = 6 := fun h => HI.out.dup (dupB_of hlt (by rw [hm]; exact h))
                  have hno2 : hasB (ks.take n) (m : Int) = false → ∀ j (h : j < n + 1) (h' : j < ks.length), hasB (ks.take j) ks[j] = false := by
                    intro hf j h h'
                    by_cases e : j = n
                    · subst e; rw [hm]; exact hf
                    · exact hno j (by omega) h'
                  have hhas := hasInt_any (some ⟨ab, ao, none⟩) c' (ks.take n) (m : Int) w.heap.size wr (by rw [List.length_take]; omega) (by rw [← ints_take]; exact (HA'.out.below hbel).take n)
                  rw [List.length_take, Nat.min_eq_left (by omega)] at hhas
                  have hnc : n ≤ c' := by omega
                  have hnci : (n : Int) ≤ (c' : Int) := by omega
                  clear hset
                  generalize hasB (ks.take n) (m : Int) = r at *
                  generalize loadL gs (ks.take n) = L at *
                  have HS2 := Lib.hid hs; have HSet := Lib.hid hset'; have HBel2 := Lib.hid hbel; have Hdup := Lib.hid hdup; have Hno2 := Lib.hid hno2; have HG := Lib.hid hgF1; have HP := Lib.hid hp; have Hh := Lib.hid hhas; have HlL := Lib.hid hlL
                  clear hs hset' hbel hdup hno2 hno hcell hm hfz hfz1 hgF hgF1 hp HR HV hhas hlL
                  cases r with
                  | true =>
                    have H := Lib.hid (Hdup.out rfl)
                    go_wp2_with (go_at_call 164; refine (Hh.out).mono ?_; rintro e w1 ⟨rfl, rfl⟩)
                    refine bodyPost_ret (v := .tuple #[.pointer none, .int .i64 6]) (by unfold results; try go_simp) rfl ?_
                    exact ⟨HBel2.out, .inl ⟨by rw [H.out]; omega, by rw [H.out]⟩⟩
                  | false =>
                    go_wp2_with (go_at_call 164; refine (Hh.out).mono ?_; rintro e w1 ⟨rfl, rfl⟩)
                    go_roundw
                    case rel => exact ⟨n + 1, by omega, by go_num, HSet.out, Hno2.out trivial, HBel2.out.trans (((Mod.refl G wr).setCell (p := ⟨g1, m, none⟩) (.inl HG.out) _).toBelow HLow.out hsz)⟩
                    case measure => simp [intOf]; omega
                · obtain rfl : n = ks.length := by omega
                  rw [List.take_length] at hs hlL
                  have hd : dupB ks = false := dupB_none fun j hj => hno j hj hj
                  have HS2 := Lib.hid hs; have HBel2 := Lib.hid hbel; have HD := Lib.hid hd
                  clear hs hbel hd hno hlL HR HV hlt
                  go_wp2
                  go_loop [67] (fun i => ∃ n : Nat, n ≤ ks.length ∧ i = .int .i64 n ∧ (∀ j (h : j < n) (hj : j < ks.length) (m : Nat), ks[j] = m → gs.getD m 0 ≠ 1000000)) (fun i => ks.length - (intOf i).toNat)
                  case atStart => exact ⟨0, by omega, rfl, fun j h => by omega⟩
                  case round =>
                    obtain ⟨n, hn2, rfl, hno⟩ := hrel
                    by_cases hlt : n < ks.length
                    · obtain ⟨ab, ao, rfl, hab, hcell⟩ := HA'.out.int_at hlt
                      have c0 := (HBel2.out.cell (p := ⟨ab, ao + n, none⟩) hab).trans hcell
                      obtain ⟨hz0, hz1⟩ := HI.out.keys n hlt
                      obtain ⟨m, hm⟩ := Int.eq_ofNat_of_zero_le hz0
                      rw [hm] at c0 hz1
                      have hml : m < gs.length := by omega
                      obtain ⟨gb, go, rfl, hgb, gcell⟩ := HA.out.int_at hml
                      have c1 := (HBel2.out.cell (p := ⟨gb, go + m, none⟩) hgb).trans gcell
                      have hgd : gs.getD m 0 = gs[m] := by rw [List.getD_eq_getElem?_getD, List.getElem?_eq_getElem hml]; rfl
                      have hyes : gs[m] = 1000000 → loadE gs ks = 1 := fun h => HI.out.full HD.out (HI.out.spent hlt hm (by rw [hgd]; exact h))
                      have hno2 : gs[m] ≠ 1000000 → ∀ j (h : j < n + 1) (hj : j < ks.length) (m : Nat), ks[j] = m → gs.getD m 0 ≠ 1000000 := by
                        intro hne j h hj m' hm'
                        by_cases e : j = n
                        · subst e
                          have : m = m' := by rw [hm] at hm'; omega
                          subst this
                          rw [hgd]; exact hne
                        · exact hno j (by omega) hj m' hm'
                      generalize gs[m] = x at *
                      have Hyes := Lib.hid hyes; have Hno2 := Lib.hid hno2
                      clear hyes hno2 hno hcell gcell hgd hm
                      by_cases hx : x = 1000000
                      · have H := Lib.hid (Hyes.out hx)
                        subst hx
                        go_wp2
                        refine bodyPost_ret (v := .tuple #[.pointer none, .int .i64 1]) (by unfold results; try go_simp) rfl ?_
                        exact ⟨HBel2.out, .inl ⟨by rw [H.out]; omega, by rw [H.out]⟩⟩
                      · have Hn := Lib.hid (Hno2.out hx)
                        have hx2 : decide (x = 1000000) = false := by simpa using hx
                        go_wp2
                        go_round
                        case rel => exact ⟨n + 1, by omega, by go_num, Hn.out⟩
                        case measure => simp [intOf]; omega
                    · obtain rfl : n = ks.length := by omega
                      have hany := HI.out.unspent (fun j hj m hm => hno j hj hj m hm)
                      have H := Lib.hid (HI.out.good HD.out hany)
                      have HO := Lib.hid (HI.out.ok hany)
                      clear hany hno hlt
                      go_wp2
                      refine bodyPost_ret (v := .tuple #[.pointer (some ⟨q, 0, none⟩), .int .i64 0]) (by unfold results; try go_simp) rfl ?_
                      exact ⟨HBel2.out, .inr ⟨H.out, q, G, rfl, HS2.out, HLow.out, HO.out⟩⟩
            all_goals exact undef
end Go.Proofs.Ytkcpmoinpdojjaa

/- Both sides' slots side by side, for the law SlotsLoads (SlotsDo bears its own copy of these lines). -/
namespace Go.Proofs.Ytkcpmoinpdojjaa
open Go Go.RowKit

theorem eqHandle_rows (l : List (Int × Int)) (v v' : Value) (w : World) (hl : l.length ≤ 60) (h : rowV 0 45 2 l.length (l.flatMap handleC) v w) (h' : rowV 0 45 2 l.length (l.flatMap handleC) v' w) :
    Calls Try.prog 30 #[v, v'] w fun e w' => e = .returned (.bool true) ∧ Below w.heap.size w w' := by
  obtain ⟨A, c, rfl, hc, hA⟩ := own_lies h
  obtain ⟨A', c', rfl, hc', hA'⟩ := own_lies h'
  have := eqHandle_any A c A' c' l l w (by omega) (by omega) hA hA'
  rw [eqB_self] at this
  exact this
theorem eqInt_rows (l : List Int) (v v' : Value) (w : World) (hl : l.length ≤ 60) (h : rowV 0 3 1 l.length (ints l) v w) (h' : rowV 0 3 1 l.length (ints l) v' w) :
    Calls Try.prog 29 #[v, v'] w fun e w' => e = .returned (.bool true) ∧ Below w.heap.size w w' := by
  obtain ⟨A, c, rfl, hc, hA⟩ := own_lies h
  obtain ⟨A', c', rfl, hc', hA'⟩ := own_lies h'
  have := eqInt_any A c A' c' l l _ _ w (by omega) (by omega) hA hA'
  rw [eqB_self] at this
  exact this.mono fun e w' ⟨h1, h2⟩ => ⟨h1, by rw [← h2]; exact Below.refl _ _⟩

/-- What holds of both slots between two rounds. -/
structure Both (W w : World) (p q : Nat) (sl : Sl) (F G : List Nat) : Prop where
  s : RepS w p sl F
  r : RepRS w q sl G
  ok : SlOk sl
  apart : ∀ k ∈ F, k ∉ G
  lowF : ∀ k ∈ F, W.heap.size ≤ k
  lowG : ∀ k ∈ G, W.heap.size ≤ k
  below : Below W.heap.size W w
theorem Both.size {W w : World} {p q : Nat} {sl : Sl} {F G : List Nat} (h : Both W w p q sl F G) : W.heap.size ≤ w.heap.size := h.below.size
theorem Both.grow {W w w' : World} {p q : Nat} {sl : Sl} {F G : List Nat} (h : Both W w p q sl F G) (hb : Below w.heap.size w w') : Both W w' p q sl F G :=
  ⟨h.s.mod (Mod.ofBelow hb) (by simp), h.r.mod (Mod.ofBelow hb) (by simp), h.ok, h.apart, h.lowF, h.lowG, h.below.trans (hb.mono h.size)⟩

theorem Both.step {W wz w3 w3' w4 : World} {p q : Nat} {sl sl' : Sl} {F G F3 G4 : List Nat} (h : Both W wz p q sl F G) (hs : RepS w3 p sl' F3) (ht : Turns wz F F3 w3) (hg : Below w3.heap.size w3 w3') (hr : RepRS w4 q sl' G4) (ht2 : Turns w3' G G4 w4) (hok : SlOk sl') :
    Both W w4 p q sl' F3 G4 := by
  have hGl := h.r.lt
  have hFG : ∀ k ∈ F3, k ∉ G := by
    intro k hk hkG
    rcases ht.new k hk with h1 | h1
    · exact h.apart k h1 hkG
    · have := hGl k hkG; omega
  have hs3 := hs.lt
  have hsz := h.size
  have hsz2 := ht.mod.size
  have hsz3 := hg.size
  refine ⟨(hs.mod (Mod.ofBelow hg) (by simp)).mod ht2.mod hFG, hr, hok, ?_, ?_, ?_, ?_⟩
  · intro k hk hkG
    rcases ht2.new k hkG with h1 | h1
    · exact hFG k hk h1
    · have := hs3 k hk; omega
  · intro k hk
    rcases ht.new k hk with h1 | h1
    · exact h.lowF k h1
    · omega
  · intro k hk
    rcases ht2.new k hk with h1 | h1
    · exact h.lowG k h1
    · omega
  · exact ((h.below.trans (ht.mod.toBelow h.lowF hsz)).trans (hg.mono (by omega))).trans (ht2.mod.toBelow h.lowG (by omega))
theorem Both.refR {W wz w3 w3' : World} {p q : Nat} {sl : Sl} {F G F3 : List Nat} (h : Both W wz p q sl F G) (ht : Turns wz F F3 w3) (hg : Below w3.heap.size w3 w3') : RepRS w3' q sl G :=
  (h.r.mod ht.mod (fun k hk hF => h.apart k hF hk)).mod (Mod.ofBelow hg) (by simp)
end Go.Proofs.Ytkcpmoinpdojjaa
