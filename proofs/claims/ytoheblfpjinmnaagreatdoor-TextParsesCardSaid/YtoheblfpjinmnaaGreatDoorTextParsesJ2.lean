import Derived.Test.YtoheblfpjinmnaaGreatDoorTextParsesJ1
import Derived.Lib.BitFns
import Derived.Lib.Slices
import Derived.Lib.Small
import Derived.Lib.Walk
import Derived.Maps.AppendAt
set_option linter.unusedVariables false
set_option linter.unusedSimpArgs false
/- A part of the proof that TextParses returns true. -/
namespace Go.Proofs.YtoheblfpjinmnaaGreatDoor
open Go.RowKit
theorem tmod_facts (n m : Int) (hm : 0 < m) : -m < n.tmod m ∧ n.tmod m < m ∧ (n.tmod m < 0 → n.tmod m + m = n % m) ∧ (0 ≤ n.tmod m → n.tmod m = n % m):=by
 by_cases hn : 0 ≤ n
 ·have h:=Int.tmod_eq_emod_of_nonneg (b:=m) hn
  have h1:=Int.emod_nonneg n (by omega : m ≠ 0)
  have h2:=Int.emod_lt_of_pos n hm
  rw [h]
  exact ⟨by omega,h2,by omega,fun _ => rfl⟩
 ·obtain ⟨k,rfl⟩ : ∃ k,n = -k:=⟨-n,by omega⟩
  have hk : 0 ≤ k:=by omega
  have h:=Int.tmod_eq_emod_of_nonneg (b:=m) hk
  have h1:=Int.emod_nonneg k (by omega : m ≠ 0)
  have h2:=Int.emod_lt_of_pos k hm
  rw [Int.neg_tmod,h]
  have h3 : (-k) % m = (-(k % m)) % m:=by
   have h4:=Int.emod_add_mul_ediv k m
   have h5 : -k = -(k % m) + m * (-(k / m)):=by rw [Int.mul_neg];omega
   rw [h5,Int.add_mul_emod_self_left]
  refine ⟨by omega,by omega,fun hlt => ?_,fun hge => ?_⟩
  ·rw [h3]
   have h6 : (-(k % m)) % m = (-(k % m) + m) % m:=by
    have:=Int.add_mul_emod_self_left (-(k % m)) m 1
    rw [Int.mul_one] at this
    exact this.symm
   rw [h6]
   exact (Int.emod_eq_of_lt (by omega) (by omega)).symm
  ·have h7 : k % m = 0:=by omega
   rw [h3,h7];simp
set_option maxHeartbeats 400000 in
theorem rest_any (n m : Int) (hm : 0 < m) (hm2 : m ≤ 4611686018427387904) (w : World) :
  Calls Tryz.prog 40 #[.int .i64 n,.int .i64 m] w fun e w' => e = .returned (.int .i64 (n % m)) ∧ w = w':=by
 obtain ⟨h1,h2,h3,h4⟩:=tmod_facts n m hm
 generalize hr : n % m = r at *
 obtain ⟨H3,H4⟩:=hid2 h3 h4
 clear h3 h4 hr
 have hm0 : ¬ m = 0:=by omega
 by_cases hlt : n.tmod m < 0
 ·have H:=Lib.hid (H3.out hlt)
  go_enter Tryz.func40,Tryz.ntmps40
  go_wp2
  go_ret
  exact ⟨by rw [← H.out];rfl,rfl⟩
 ·have H:=Lib.hid (H4.out (by omega))
  go_enter Tryz.func40,Tryz.ntmps40
  go_wp2
  go_ret
  exact ⟨by rw [← H.out];rfl,rfl⟩
def hasK (m : Int) (k : Nat) : Bool:=(m % 256).toNat.testBit k
theorem hasK_val (m : Int) (k : Nat) : (((m % 256) / pw k) % 2 == 1) = hasK m k:=by
 have h0:=Int.emod_nonneg m (by omega : (256 : Int) ≠ 0)
 unfold hasK
 obtain ⟨r,hr⟩:=Int.eq_ofNat_of_zero_le h0
 rw [hr,Nat.testBit_eq_decide_div_mod_eq]
 have e : ((r : Int) / pw k) = ((r / 2 ^ k : Nat) : Int):=by unfold pw;norm_cast
 rw [e,Bool.eq_iff_iff]
 simp only [beq_iff_eq,decide_eq_true_eq,Int.toNat_natCast]
 omega
set_option maxHeartbeats 400000 in
theorem hasKind_any (m : Int) (k : Nat) (hk : k < 62) (w : World) :
  Calls Tryz.prog 16 #[.int .i64 m,.int .i64 k] w fun e w' => e = .returned (.bool (hasK m k)) ∧ w = w':=by
 have hv:=hasK_val m k
 have hp0:=pw_pos k
 have hp1:=pw_lt hk
 have h0:=Int.emod_nonneg m (by omega : (256 : Int) ≠ 0)
 have h1:=Int.emod_lt_of_pos m (by omega : (0 : Int) < 256)
 have hq0 : 0 ≤ (m % 256) / pw k:=Int.ediv_nonneg h0 (by omega)
 have hq1 : (m % 256) / pw k ≤ m % 256:=Int.ediv_le_self _ h0
 have hr:=fun w => rest_any m 256 (by omega) (by omega) w
 have hpw:=fun w => power_any k hk w
 generalize m % 256 = c at *
 generalize pw k = p at *
 generalize hasK m k = r at *
 obtain ⟨Hr,Hp,Hv⟩:=hid3 hr hpw hv
 clear hr hpw hv
 have hz : ¬ p = 0:=by omega
 go_enter Tryz.func16,Tryz.ntmps16
 go_wp2_with (first | (go_at_call 40;refine (Hr.out _).mono ?_;rintro e w' ⟨rfl,rfl⟩) | (go_at_call 17;refine (Hp.out _).mono ?_;rintro e w' ⟨rfl,rfl⟩))
 go_ret
 exact ⟨by rw [← Hv.out];rfl,rfl⟩
def beastGo (K : Int) : Nat → List Int → Int
 | _,[] => 0
 | k,v :: vs => if hasK K k = false ∧ v ≠ 0 then 4 else if v < -1000000000 ∨ 1000000000 < v then 1 else beastGo K (k + 1) vs
def beastE (K : Int) (vs : List Int) : Int:=if isSetB K = true then beastGo K 0 vs else 1
theorem beastGo_drop (K : Int) (vs : List Int) (k : Nat) (h : k < vs.length) :
  beastGo K k (vs.drop k) = if hasK K k = false ∧ vs[k] ≠ 0 then 4 else if vs[k] < -1000000000 ∨ 1000000000 < vs[k] then 1 else beastGo K (k + 1) (vs.drop (k + 1)):=by
 rw [List.drop_eq_getElem_cons h,beastGo]
theorem beastGo_end (K : Int) (vs : List Int) (k : Nat) (h : vs.length ≤ k) : beastGo K k (vs.drop k) = 0:=by
 rw [List.drop_eq_nil_of_le h,beastGo]
theorem index8 (a0 a1 a2 a3 a4 a5 a6 a7 : Int) (k : Nat) (hk : k < [a0,a1,a2,a3,a4,a5,a6,a7].length) (w : World) :
  (Instr.index 47 (.agg #[.int .i64 a0,.int .i64 a1,.int .i64 a2,.int .i64 a3,.int .i64 a4,.int .i64 a5,.int .i64 a6,.int .i64 a7]) (.int .i64 k)).run Tryz.prog w = .ok (.int .i64 ([a0,a1,a2,a3,a4,a5,a6,a7][k])) w:=by
 match k,hk with
 | 0,_ => exact (by show _ = _;kernel_rfl)
 | 1,_ => exact (by show _ = _;kernel_rfl)
 | 2,_ => exact (by show _ = _;kernel_rfl)
 | 3,_ => exact (by show _ = _;kernel_rfl)
 | 4,_ => exact (by show _ = _;kernel_rfl)
 | 5,_ => exact (by show _ = _;kernel_rfl)
 | 6,_ => exact (by show _ = _;kernel_rfl)
 | 7,_ => exact (by show _ = _;kernel_rfl)
 | k + 8,h => exact absurd h (by simp)
theorem isSetB_nat {K : Int} (h : isSetB K = true) : ∃ m : Nat,K = m ∧ m < 256:=by
 simp only [isSetB,Bool.and_eq_true,decide_eq_true_eq] at h
 exact ⟨K.toNat,by omega,by omega⟩
theorem hasK_nat (m k : Nat) (h : m < 256) : hasK m k = m.testBit k:=by
 unfold hasK
 have : ((m : Int) % 256).toNat = m:=by omega
 rw [this]
theorem and_bit0 : ∀ m : Fin 256,∀ x : Fin 8,(bits .and .i64 ((m.val : Int) / 2 ^ x.val) 1 == 0) = !m.val.testBit x.val:=by decide +kernel
set_option maxHeartbeats 1000000 in
theorem checkBeast_any (K a0 a1 a2 a3 a4 a5 a6 a7 : Int) (w : World) :
  Calls Tryz.prog 71 #[.agg #[.int .i64 K,.int .i64 a0,.int .i64 a1,.int .i64 a2,.int .i64 a3,.int .i64 a4,.int .i64 a5,.int .i64 a6,.int .i64 a7]] w fun e w' => e = .returned (.int .i64 (beastE K [a0,a1,a2,a3,a4,a5,a6,a7])) ∧ Below w.heap.size w w':=by
 cases hK : isSetB K with
 | false =>
  have hf : beastE K [a0,a1,a2,a3,a4,a5,a6,a7] = 1:=by simp [beastE,hK]
  obtain ⟨HK,Hf⟩:=hid2 hK hf
  clear hK hf
  go_enter Tryz.func71,Tryz.ntmps71
  go_wp2_with (go_at_call 103;refine (isSet_any _ _).mono ?_;rintro e w' ⟨rfl,rfl⟩;simp only [HK.out])
  go_ret
  exact ⟨by rw [Hf.out];rfl,(Below.refl _ _).alloc (Nat.le_refl _) _⟩
 | true =>
  obtain ⟨m,rfl,hm⟩:=isSetB_nat hK
  have hf : beastE m [a0,a1,a2,a3,a4,a5,a6,a7] = beastGo m 0 ([a0,a1,a2,a3,a4,a5,a6,a7].drop 0):=by simp [beastE,hK]
  have hix:=index8 a0 a1 a2 a3 a4 a5 a6 a7
  have hstep:=beastGo_drop m [a0,a1,a2,a3,a4,a5,a6,a7]
  have hend:=beastGo_end m [a0,a1,a2,a3,a4,a5,a6,a7]
  have hlen : [a0,a1,a2,a3,a4,a5,a6,a7].length = 8:=rfl
  have hmem : ∀ (W : World),(∀ x,W.cell? x = (w.alloc (.cells #[.int .i64 m,.int .i64 a0,.int .i64 a1,.int .i64 a2,.int .i64 a3,.int .i64 a4,.int .i64 a5,.int .i64 a6,.int .i64 a7] 49)).cell? x) → True:=fun _ _ => trivial
  clear hmem
  obtain ⟨HK,Hf,Hix,Hstep,Hend⟩:=hid5 hK hf hix hstep hend
  clear hK hf hix hstep hend hlen
  go_enter Tryz.func71,Tryz.ntmps71
  go_wp2_with (go_at_call 103;refine (isSet_any _ _).mono ?_;rintro e w' ⟨rfl,rfl⟩;simp only [HK.out])
  go_loop [11] (fun i => ∃ k : Nat,k ≤ 8 ∧ i = .int .i64 k ∧ beastGo m k ([a0,a1,a2,a3,a4,a5,a6,a7].drop k) = beastGo m 0 ([a0,a1,a2,a3,a4,a5,a6,a7].drop 0)) (fun i => 8 - (Go.RowKit.intOf i).toNat)
  case atStart => exact ⟨0,by omega,rfl,rfl⟩
  case round =>
   obtain ⟨k,hk,rfl,hgo⟩:=hrel
   by_cases hlt : k < 8
   ·have hlt' : k < [a0,a1,a2,a3,a4,a5,a6,a7].length:=hlt
    have hix:=Hix.out k hlt'
    have hst:=Hstep.out k hlt'
    have hb:=and_bit0 ⟨m,hm⟩ ⟨k,hlt⟩
    simp only [] at hb
    rw [← hasK_nat m k hm] at hb
    rw [hgo] at hst
    generalize [a0,a1,a2,a3,a4,a5,a6,a7][k] = x at *
    obtain ⟨Hgo,Hst⟩:=hid2 hgo hst
    clear hgo hst hlt'
    generalize hb' : hasK m k = b at *
    clear hb'
    cases b with
    | false =>
     by_cases hx : x = 0
     ·subst hx
      have hz : ((0 : Int) != 0) = false:=rfl
      go_wp2
      go_round
      case rel => exact ⟨k + 1,by omega,by go_num,by rw [Hst.out];simp⟩
      case measure => simp [Go.RowKit.intOf];omega
     ·have hz : (x != 0) = true:=by simpa using hx
      have Hx:=Lib.hid hx
      clear hx
      go_wp2
      go_ret
      exact ⟨by rw [Hf.out,Hst.out,if_pos ⟨by simp,Hx.out⟩];rfl,(Below.refl _ _).alloc (Nat.le_refl _) _⟩
    | true =>
     have h1 : ¬ ((true : Bool) = false ∧ x ≠ 0):=by simp
     have H1:=Lib.hid h1
     clear h1
     by_cases hx : x < -1000000000 ∨ 1000000000 < x
     ·have Hx:=Lib.hid hx
      rcases hx with hx | hx
      all_goals
       go_wp2
       go_ret
       exact ⟨by rw [Hf.out,Hst.out,if_neg H1.out,if_pos Hx.out];rfl,(Below.refl _ _).alloc (Nat.le_refl _) _⟩
     ·have Hx:=Lib.hid hx
      have hx1 : -1000000000 ≤ x:=by omega
      have hx2 : x ≤ 1000000000:=by omega
      clear hx
      go_wp2
      go_round
      case rel => exact ⟨k + 1,by omega,by go_num,by rw [Hst.out,if_neg H1.out,if_neg Hx.out]⟩
      case measure => simp [Go.RowKit.intOf];omega
   ·obtain rfl : k = 8:=by omega
    have Hgo:=Lib.hid hgo
    clear hgo
    go_wp2
    go_ret
    exact ⟨by rw [Hf.out,← Hgo.out,Hend.out 8 (by simp)];rfl,(Below.refl _ _).alloc (Nat.le_refl _) _⟩
set_option maxHeartbeats 1000000 in
theorem beastCheck_any (K a0 a1 a2 a3 a4 a5 a6 a7 : Int) (w : World) :
  Calls Tryz.prog 85 #[.agg #[.int .i64 K,.int .i64 a0,.int .i64 a1,.int .i64 a2,.int .i64 a3,.int .i64 a4,.int .i64 a5,.int .i64 a6,.int .i64 a7]] w fun e w' => e = .returned (.int .i64 (beastE K [a0,a1,a2,a3,a4,a5,a6,a7])) ∧ Below w.heap.size w w':=by
 have ho:=outsideB_set K
 cases hK : isSetB K with
 | false =>
  have hf : beastE K [a0,a1,a2,a3,a4,a5,a6,a7] = 1:=by simp [beastE,hK]
  rw [hK] at ho
  obtain ⟨HK,Hf⟩:=hid2 ho hf
  clear ho hK hf
  go_enter Tryz.func85,Tryz.ntmps85
  go_wp2_with (go_at_call 15;refine (outside_any _ _ _ _).mono ?_;rintro e w' ⟨rfl,rfl⟩;simp only [HK.out,Bool.not_false])
  go_ret
  exact ⟨by rw [Hf.out];rfl,(Below.refl _ _).alloc (Nat.le_refl _) _⟩
 | true =>
  obtain ⟨m,rfl,hm⟩:=isSetB_nat hK
  have hf : beastE m [a0,a1,a2,a3,a4,a5,a6,a7] = beastGo m 0 ([a0,a1,a2,a3,a4,a5,a6,a7].drop 0):=by simp [beastE,hK]
  have hix:=index8 a0 a1 a2 a3 a4 a5 a6 a7
  have hstep:=beastGo_drop m [a0,a1,a2,a3,a4,a5,a6,a7]
  have hend:=beastGo_end m [a0,a1,a2,a3,a4,a5,a6,a7]
  rw [hK] at ho
  obtain ⟨HK,Hf,Hix,Hstep,Hend⟩:=hid5 ho hf hix hstep hend
  clear hK ho hf hix hstep hend
  go_enter Tryz.func85,Tryz.ntmps85
  go_wp2_with (go_at_call 15;refine (outside_any _ _ _ _).mono ?_;rintro e w' ⟨rfl,rfl⟩;simp only [HK.out,Bool.not_true])
  go_loop [10] (fun i => ∃ k : Nat,k ≤ 8 ∧ i = .int .i64 k ∧ beastGo m k ([a0,a1,a2,a3,a4,a5,a6,a7].drop k) = beastGo m 0 ([a0,a1,a2,a3,a4,a5,a6,a7].drop 0)) (fun i => 8 - (Go.RowKit.intOf i).toNat)
  case atStart => exact ⟨0,by omega,rfl,rfl⟩
  case round =>
   obtain ⟨k,hk,rfl,hgo⟩:=hrel
   by_cases hlt : k < 8
   ·have hlt' : k < [a0,a1,a2,a3,a4,a5,a6,a7].length:=hlt
    have hix:=Hix.out k hlt'
    have hst:=Hstep.out k hlt'
    have hkind:=fun w => hasKind_any m k (by omega) w
    rw [hgo] at hst
    generalize [a0,a1,a2,a3,a4,a5,a6,a7][k] = x at *
    obtain ⟨Hgo,Hst⟩:=hid2 hgo hst
    clear hgo hst hlt'
    generalize hb' : hasK m k = b at *
    have Hkind:=Lib.hid hkind
    clear hb' hkind
    have hox : outsideB x (-1000000000) 1000000000 = (decide (x < -1000000000) || decide (1000000000 < x)):=rfl
    cases b with
    | false =>
     by_cases hx : x = 0
     ·subst hx
      have hz : ((0 : Int) != 0) = false:=rfl
      have Hox:=Lib.hid hox
      clear hox
      go_wp2_with (first | (go_at_call 16;refine (Hkind.out _).mono ?_;rintro e w' ⟨rfl,rfl⟩) | (go_at_call 15;refine (outside_any _ _ _ _).mono ?_;rintro e w' ⟨rfl,rfl⟩;simp only [Hox.out]))
      go_round
      case rel => exact ⟨k + 1,by omega,by go_num,by rw [Hst.out];simp⟩
      case measure => simp [Go.RowKit.intOf];omega
     ·have hz : (x != 0) = true:=by simpa using hx
      have Hx:=Lib.hid hx
      clear hx hox
      go_wp2_with (go_at_call 16;refine (Hkind.out _).mono ?_;rintro e w' ⟨rfl,rfl⟩)
      go_ret
      exact ⟨by rw [Hf.out,Hst.out,if_pos ⟨by simp,Hx.out⟩];rfl,(Below.refl _ _).alloc (Nat.le_refl _) _⟩
    | true =>
     have h1 : ¬ ((true : Bool) = false ∧ x ≠ 0):=by simp
     have H1:=Lib.hid h1
     clear h1
     by_cases hx : x < -1000000000 ∨ 1000000000 < x
     ·have hox2 : outsideB x (-1000000000) 1000000000 = true:=by rw [hox];simpa using hx
      obtain ⟨Hx,Hox⟩:=hid2 hx hox2
      clear hx hox hox2
      go_wp2_with (first | (go_at_call 16;refine (Hkind.out _).mono ?_;rintro e w' ⟨rfl,rfl⟩) | (go_at_call 15;refine (outside_any _ _ _ _).mono ?_;rintro e w' ⟨rfl,rfl⟩;simp only [Hox.out]))
      go_ret
      exact ⟨by rw [Hf.out,Hst.out,if_neg H1.out,if_pos Hx.out];rfl,(Below.refl _ _).alloc (Nat.le_refl _) _⟩
     ·have hox2 : outsideB x (-1000000000) 1000000000 = false:=by rw [hox];simp;omega
      obtain ⟨Hx,Hox⟩:=hid2 hx hox2
      clear hx hox hox2
      go_wp2_with (first | (go_at_call 16;refine (Hkind.out _).mono ?_;rintro e w' ⟨rfl,rfl⟩) | (go_at_call 15;refine (outside_any _ _ _ _).mono ?_;rintro e w' ⟨rfl,rfl⟩;simp only [Hox.out]))
      go_round
      case rel => exact ⟨k + 1,by omega,by go_num,by rw [Hst.out,if_neg H1.out,if_neg Hx.out]⟩
      case measure => simp [Go.RowKit.intOf];omega
   ·obtain rfl : k = 8:=by omega
    have Hgo:=Lib.hid hgo
    clear hgo
    go_wp2
    go_ret
    exact ⟨by rw [Hf.out,← Hgo.out,Hend.out 8 (by simp)];rfl,(Below.refl _ _).alloc (Nat.le_refl _) _⟩
theorem ntz8_w (x : Nat) (h : x < 256) : wrap64 (Lib.ntz8 (x : Int)) = (Lib.trailingZeros8 x : Int):=by
 have e:=Lib.ntz8_eq ⟨x,h⟩
 have l:=Lib.trailingZeros8_le8 ⟨x,h⟩
 simp only at e l
 rw [e]
 exact IntWalk.wrap64_in _ ⟨by omega,by omega⟩
set_option maxRecDepth 100000 in
set_option maxHeartbeats 1000000 in
theorem ntz8_int (x : Int) (h0 : 0 ≤ x) (h1 : x ≤ 255) (w : World) :
  Calls Tryz.prog 54 #[.int .u8 x] w fun e w' => e = .returned (.int .i64 (wrap64 (Lib.ntz8 x))) ∧ w = w':=by
 go_enter Tryz.func54,Tryz.ntmps54
 go_wp2
 go_ret
 exact ⟨rfl,rfl⟩
theorem ntz8_any (x : Nat) (h : x < 256) (w : World) :
  Calls Tryz.prog 54 #[.int .u8 x] w fun e w' => e = .returned (.int .i64 (Lib.trailingZeros8 x)) ∧ w = w':=by
 rw [← ntz8_w x h]
 exact ntz8_int x (by omega) (by omega) w
theorem own_ge {w : World} {B e size n : Nat} {v : Value} {xs : List Value} (h : w.ownsRow B e size v n xs) : ∀ k,v.ownBlock = some k → B ≤ k:=by
 intro k hk
 rcases h.2 with ⟨rfl,_⟩ | ⟨g,cap,cur,rfl,hg,_⟩
 ·cases hk
 ·have : g = k:=by simpa [Value.ownBlock] using hk
  omega
def kindsTo (x n : Nat) : List Int:=((List.range n).filter fun k => x.testBit k).map fun (k : Nat) => (k : Int)
def kindsN (x : Nat) : List Int:=kindsTo x 8
theorem kindsN_step : ∀ x : Fin 256,x.val ≠ 0 → kindsN x.val = (Lib.trailingZeros8 x.val : Int) :: kindsN (x.val &&& (x.val - 1)):=by decide +kernel
theorem and_less : ∀ x : Fin 256,x.val ≠ 0 → (x.val &&& (x.val - 1)) < x.val:=by decide +kernel
theorem and_pred : ∀ x : Fin 256,x.val ≠ 0 → bits .and .u8 (x.val : Int) ((x.val : Int) - 1) = ((x.val &&& (x.val - 1) : Nat) : Int):=by decide +kernel
theorem kindsN_zero : kindsN 0 = []:=by decide
theorem kindsTo_len (x n : Nat) : (kindsTo x n).length ≤ n:=by
 simp only [kindsTo,List.length_map]
 exact Nat.le_trans (List.length_filter_le _ _) (by simp)
theorem kindsTo_succ (x n : Nat) : kindsTo x (n + 1) = kindsTo x n ++ (if x.testBit n = true then [(n : Int)] else []):=by
 simp only [kindsTo,List.range_succ,List.filter_append,List.map_append]
 congr 1
 cases h : x.testBit n <;> simp [h]
def low8 (m : Int) : Nat:=(m % 256).toNat
theorem low8_lt (m : Int) : low8 m < 256:=by unfold low8;omega
theorem wrap_u8_low8 (m : Int) : IntKind.u8.wrap m = (low8 m : Int):=by
 unfold low8
 simp only [IntKind.wrap,IntKind.bits,IntKind.signed,Bool.false_and]
 rw [if_neg (by decide)]
 omega
theorem info_int : (Tryz.prog.info? 3).map (fun i => (i.zero,i.size,i.bytes)) = some (some (.int .i64 0),1,8):=by kernel_rfl
theorem app_int {w : World} {ops : Array Oper} {rest : List Oper} {o : Oper} {a : Act} {Q : Exit → Act → World → Prop} (hgd : o.guard = none) (s x : Operand)
  (ho : o.op = .call { callee:=.builtin .append,args:=#[s,x],argTypes:=#[22,22] }) (base : Nat) (v : Value) (l : List Int) (y : Int) (ad : Addr) (c : Nat)
  (hs : a.eval s = v) (hown : w.ownsRow base 3 1 v l.length (ints l)) (hx : a.eval x = .slice (some ad) 1 c) (hc : w.cell? ad = some (.int .i64 y))
  (hlen : l.length < 8796093022208) (hbase : base ≤ w.heap.size)
  (h : ∀ v' w',w'.ownsRow base 3 1 v' (l ++ [y]).length (ints (l ++ [y])) → Below base w w' → wpList Tryz.prog ops Q rest (a.put o.dst v') w') : wpList Tryz.prog ops Q (o :: rest) a w:=by
 obtain ⟨i0,hi,hz0,hz1,hz2⟩:=info_parts info_int
 refine wpList_append_own w hgd s x 22 ho base 3 i0 (.int .i64 0) 1 8 Tryz.underlying22 hi hz0 hz1 hz2 rfl (by decide) v l.length (ints l) hs hown ad 1 c [.int .i64 y] hx rfl ?_ ?_ (by unfold maxLen;omega) (by omega) hbase ?_
 ·intro j u hu
  match j,hu with
  | 0,hu => simp at hu;subst hu;exact hc
  | j + 1,hu => simp at hu
 ·intro u hu;simp at hu;subst hu;rfl
 ·intro v' w' h1 h2 _
  refine h v' w' (by simpa [ints] using h1) ((Below.refl base w).grown h2 hbase (own_ge hown))
def MadeInts (B : Nat) (l : List Int) (w : World) (e : Ending) (w' : World) : Prop :=
 ∃ v,e = .returned v ∧ w'.ownsRow B 3 1 v l.length (ints l) ∧ Below B w w'
set_option maxHeartbeats 1000000 in
theorem list_any (m : Int) (w : World) : Calls Tryz.prog 32 #[.int .i64 m] w (MadeInts w.heap.size (kindsN (low8 m)) w):=by
 have hw:=wrap_u8_low8 m
 have hlt:=low8_lt m
 generalize low8 m = X at *
 go_enter Tryz.func32,Tryz.ntmps32
 go_wp2
 go_loopw [3,4] (fun v b wr => ∃ (l : List Int) (x : Nat),x < 256 ∧ b = .int .u8 x ∧ l ++ kindsN x = kindsN X ∧ wr.ownsRow w.heap.size 3 1 v l.length (ints l) ∧ Below w.heap.size w wr) (fun _ b _ => (Go.RowKit.intOf b).toNat)
 case atStart => exact ⟨[],X,hlt,rfl,rfl,⟨rfl,.inl ⟨rfl,rfl⟩⟩,Below.refl _ _⟩
 case round =>
  obtain ⟨l,x,hx,rfl,hl,hown,hbel⟩:=hrel
  have hlen : l.length ≤ 8:=by
   have h1:=congrArg List.length hl
   have h2:=kindsTo_len X 8
   rw [List.length_append] at h1
   unfold kindsN at *
   omega
  clear hw hlt
  by_cases hz : x = 0
  ·subst hz
   have hl2 : l = kindsN X:=by rw [← hl,kindsN_zero,List.append_nil]
   have Hl:=Lib.hid hl2
   clear hl hl2
   go_wp2
   go_ret
   exact ⟨_,rfl,by rw [← Hl.out];exact hown,hbel⟩
  ·have hst:=kindsN_step ⟨x,hx⟩ hz
   have hle:=and_less ⟨x,hx⟩ hz
   have hpr:=and_pred ⟨x,hx⟩ hz
   simp only [] at hst hle hpr
   rw [hst] at hl
   generalize hy : (Lib.trailingZeros8 x : Int) = y at *
   generalize x &&& (x - 1) = x2 at *
   have hnx:=ntz8_any x hx
   rw [hy] at hnx
   obtain ⟨Hl,Hnx⟩:=hid2 hl hnx
   clear hl hst hy hnx
   have hz' : ((x : Int) != 0) = true:=by simpa using hz
   have hxp : 1 ≤ (x : Int):=by omega
   clear hz
   have hsz:=hbel.size
   go_wp2_with (first | (go_at_call 54;refine (Hnx.out _).mono ?_;rintro e w' ⟨rfl,rfl⟩) | (at_builtin;refine app_int rfl _ _ rfl w.heap.size _ l y ⟨wr.heap.size,0,none⟩ 1 rfl (hown.alloc _) rfl (by simp) (by omega) (by simp;omega) ?_;intro v' w1 hown2 hb1))
   go_roundw
   case rel => exact ⟨l ++ [y],x2,by omega,rfl,by rw [← Hl.out];simp,hown2,(hbel.alloc hsz _).trans hb1⟩
   case measure => simp [Go.RowKit.intOf];omega
set_option maxHeartbeats 1000000 in
theorem kinds_any (m : Int) (w : World) : Calls Tryz.prog 42 #[.int .i64 m] w (MadeInts w.heap.size (kindsN (low8 m)) w):=by
 go_enter Tryz.func42,Tryz.ntmps42
 go_wp2
 go_loopw [3,5] (fun v i wr => ∃ k : Nat,k ≤ 8 ∧ i = .int .i64 k ∧ wr.ownsRow w.heap.size 3 1 v (kindsTo (low8 m) k).length (ints (kindsTo (low8 m) k)) ∧ Below w.heap.size w wr) (fun _ i _ => 8 - (Go.RowKit.intOf i).toNat)
 case atStart => exact ⟨0,by omega,rfl,⟨rfl,.inl ⟨rfl,rfl⟩⟩,Below.refl _ _⟩
 case round =>
  obtain ⟨k,hk,rfl,hown,hbel⟩:=hrel
  have hlen:=kindsTo_len (low8 m) k
  have hsz:=hbel.size
  by_cases hlt : k < 8
  ·have hs:=kindsTo_succ (low8 m) k
   have hkind:=fun w => hasKind_any m k (by omega) w
   have he : hasK m k = (low8 m).testBit k:=rfl
   rw [he] at hkind
   clear he
   generalize kindsTo (low8 m) k = l at *
   generalize (low8 m).testBit k = b at *
   obtain ⟨Hs,Hk⟩:=hid2 hs hkind
   clear hs hkind
   cases b with
   | false =>
    have hl2 : kindsTo (low8 m) (k + 1) = l:=by rw [Hs.out];simp
    have Hl2:=Lib.hid hl2
    clear hl2
    go_wp2_with (go_at_call 16;refine (Hk.out _).mono ?_;rintro e w' ⟨rfl,rfl⟩)
    go_roundw
    case rel => exact ⟨k + 1,by omega,by go_num,by rw [Hl2.out];exact hown,hbel⟩
    case measure => simp [Go.RowKit.intOf];omega
   | true =>
    have hl2 : kindsTo (low8 m) (k + 1) = l ++ [(k : Int)]:=by rw [Hs.out];simp
    have Hl2:=Lib.hid hl2
    clear hl2
    go_wp2_with (first | (go_at_call 16;refine (Hk.out _).mono ?_;rintro e w' ⟨rfl,rfl⟩) | (at_builtin;refine app_int rfl _ _ rfl w.heap.size _ l k ⟨wr.heap.size,0,none⟩ 1 rfl (hown.alloc _) rfl (by simp) (by omega) (by simp;omega) ?_;intro v' w1 hown2 hb1))
    go_roundw
    case rel => exact ⟨k + 1,by omega,by go_num,by rw [Hl2.out];exact hown2,(hbel.alloc hsz _).trans hb1⟩
    case measure => simp [Go.RowKit.intOf];omega
  ·obtain rfl : k = 8:=by omega
   go_wp2
   go_ret
   exact ⟨_,rfl,hown,hbel⟩
theorem own_lies {w : World} {B e size n : Nat} {v : Value} {xs : List Value} (h : w.ownsRow B e size v n xs) :
  ∃ A c,v = .slice A n c ∧ n ≤ c ∧ Lies w w.heap.size A xs:=by
 rcases h with ⟨hl,⟨rfl,rfl⟩ | ⟨g,cap,cur,rfl,hg,hh,hnc,hcap,hsz,rfl⟩⟩
 ·have : xs = []:=List.eq_nil_of_length_eq_zero (by omega)
  subst this
  exact ⟨none,0,rfl,by omega,Lies.nil _ _ _⟩
 ·refine ⟨some ⟨g,0,none⟩,cap,rfl,hnc,fun k u hu => ⟨_,rfl,?_,?_⟩⟩
  ·rcases Nat.lt_or_ge g w.heap.size with h | h
   ·exact h
   ·rw [Array.getElem?_eq_none h] at hh;cases hh
  ·rw [List.getElem?_take] at hu
   split at hu
   ·have e : (⟨g,0,none⟩ : Addr).add k = ⟨g,k,none⟩:=by unfold Addr.add;split <;> simp_all
    rw [e]
    simp only [World.cell?,hh]
    simpa using hu
   ·cases hu
def eqB {α : Type} [DecidableEq α] (x y : α) : Bool:=decide (x = y)
theorem eqB_self {α : Type} [DecidableEq α] (x : α) : eqB x x = true:=by simp [eqB]
theorem eqB_ne {α : Type} [DecidableEq α] {x y : α} (h : x ≠ y) : eqB x y = false:=by simp [eqB,h]
set_option maxHeartbeats 400000 in
theorem eqInt_any (A : Option Addr) (c : Nat) (A' : Option Addr) (c' : Nat) (l l' : List Int) (B B' : Nat) (w : World) (hl : l.length ≤ 9223372036854775807) (hl' : l'.length ≤ 9223372036854775807)
  (hA : Lies w B A (ints l)) (hA' : Lies w B' A' (ints l')) :
  Calls Tryz.prog 19 #[.slice A l.length c,.slice A' l'.length c'] w fun e w' => e = .returned (.bool (eqB l l')) ∧ w = w':=by
 by_cases hlen : l.length = l'.length
 ·have hb : ((l.length : Int) != (l'.length : Int)) = false:=by simp [hlen]
  have Hlen:=Lib.hid hlen
  clear hlen
  go_enter Tryz.func19,Tryz.ntmps19
  go_wp2
  go_loop [14] (fun i => ∃ k : Nat,k ≤ l.length ∧ i = .int .i64 k ∧ l.take k = l'.take k) (fun i => l.length - (Go.RowKit.intOf i).toNat)
  case atStart => exact ⟨0,by omega,rfl,rfl⟩
  case round =>
   obtain ⟨k,hk,rfl,heq⟩:=hrel
   have Heq:=Lib.hid heq
   clear heq hb
   by_cases hlt : k < l.length
   ·have hlt' : k < l'.length:=by rw [← Hlen.out];exact hlt
    obtain ⟨a,rfl,-,hc⟩:=hA.int hlt
    obtain ⟨a',rfl,-,hc'⟩:=hA'.int hlt'
    have hs:=take_succ_get l k hlt
    have hs':=take_succ_get l' k hlt'
    have hne : l[k] ≠ l'[k] → l ≠ l':=by
     intro h e;subst e;exact h rfl
    generalize l[k] = x at *
    generalize l'[k] = y at *
    obtain ⟨Hs,Hs',Hne⟩:=hid3 hs hs' hne
    clear hs hs' hne
    by_cases hxy : x = y
    ·subst hxy
     go_wp2
     go_round
     case rel => exact ⟨k + 1,by omega,by go_num,by rw [Hs.out,Hs'.out,Heq.out]⟩
     case measure => simp [Go.RowKit.intOf];omega
    ·have hb : (x != y) = true:=by simpa using hxy
     have Hf:=Lib.hid (eqB_ne (Hne.out hxy))
     clear hxy
     go_wp2
     go_ret
     exact ⟨by rw [Hf.out];rfl,rfl⟩
   ·have he : l = l':=by
     have:=Heq.out
     rwa [List.take_of_length_le (by omega),List.take_of_length_le (by have:=Hlen.out;omega)] at this
    have Hf : Hid (eqB l l' = true):=by rw [he];exact eqB_self _
    clear he
    go_wp2
    go_ret
    exact ⟨by rw [Hf.out];rfl,rfl⟩
 ·have hb : ((l.length : Int) != (l'.length : Int)) = true:=by simp;omega
  have Hf:=Lib.hid (eqB_ne (fun e : l = l' => hlen (congrArg List.length e)))
  clear hlen
  go_enter Tryz.func19,Tryz.ntmps19
  go_wp2
  go_ret
  exact ⟨by rw [Hf.out];rfl,rfl⟩
end Go.Proofs.YtoheblfpjinmnaaGreatDoor
namespace Go.Proofs.YtoheblfpjinmnaaGreatDoor
open Go Go.RowKit
structure Mod (F : List Nat) (w w' : World) : Prop where
 os : w'.os = w.os
 tape : w'.tape = w.tape
 output : w'.output = w.output
 size : w.heap.size ≤ w'.heap.size
 block : ∀ k,k < w.heap.size → k ∉ F → w'.heap[k]? = w.heap[k]?
namespace Mod
variable {F G : List Nat} {a b c w w' : World}
theorem refl (F : List Nat) (w : World) : Mod F w w:=⟨rfl,rfl,rfl,Nat.le_refl _,fun _ _ _ => rfl⟩
theorem trans (h : Mod F a b) (k : Mod G b c) (hG : ∀ x ∈ G,x ∈ F ∨ a.heap.size ≤ x) : Mod F a c :=
 ⟨k.os.trans h.os,k.tape.trans h.tape,k.output.trans h.output,Nat.le_trans h.size k.size,fun i hi hF =>
  (k.block i (Nat.lt_of_lt_of_le hi h.size) (fun hg => by
   rcases hG i hg with h' | h'
   ·exact hF h'
   ·omega)).trans (h.block i hi hF)⟩
theorem step (h : Mod F a b) (k : Mod F b c) : Mod F a c:=h.trans k fun _ hx => .inl hx
theorem mono (h : Mod F a b) (hG : ∀ x ∈ F,x ∈ G ∨ a.heap.size ≤ x) : Mod G a b:=(refl G a).trans h hG
theorem drew (h : Mod F a w) : Mod F a w.drew:=⟨h.os,h.tape,h.output,h.size,h.block⟩
theorem alloc (h : Mod F a w) (o : Obj) : Mod F a (w.alloc o) :=
 h.trans (G:=[]) ⟨rfl,rfl,rfl,by simp,fun k hk _ => Below.heap_alloc _ _ _ hk⟩ (by simp)
theorem setCell (h : Mod F a w) {p : Addr} (hp : p.block ∈ F ∨ a.heap.size ≤ p.block) (u : Value) : Mod F a (w.setCell p u) :=
 h.trans (G:=[p.block]) ⟨rfl,rfl,rfl,by simp [World.setCell],fun k _ hk => Below.heap_setCell _ _ _ _ (by simpa using hk)⟩ (by simpa using hp)
theorem ofBelow (h : Below w.heap.size w w') : Mod [] w w':=⟨h.os,h.tape,h.output,h.size,fun k hk _ => h.block k hk⟩
theorem andBelow (h : Mod F a w) (k : Below w.heap.size w w') : Mod F a w':=h.trans (ofBelow k) (by simp)
theorem toBelow {B : Nat} (h : Mod F w w') (hF : ∀ x ∈ F,B ≤ x) (hB : B ≤ w.heap.size) : Below B w w' :=
 ⟨h.os,h.tape,h.output,h.size,fun k hk => h.block k (by omega) (fun hm => by have:=hF k hm;omega)⟩
theorem below (h : Mod [] w w') : Below w.heap.size w w':=h.toBelow (by simp) (Nat.le_refl _)
theorem grown {row : Option Nat} (h : Mod F a w) (hg : w.grownBy w' row) (hr : ∀ k,row = some k → k ∈ F ∨ a.heap.size ≤ k) : Mod F a w' :=
 h.trans (G:=row.toList) ⟨hg.os,hg.tape,hg.output,hg.size,fun k hk hn => hg.block k hk (fun e => hn (by rw [← e];simp))⟩ (fun x hx => hr x (by simpa using hx))
theorem keep {k : Nat} {o : Obj} (h : Mod F w w') (hb : w.heap[k]? = some o) (hk : k ∉ F) : w'.heap[k]? = some o:=by
 have : k < w.heap.size:=by
  rcases Nat.lt_or_ge k w.heap.size with h | h
  ·exact h
  ·rw [Array.getElem?_eq_none h] at hb;cases hb
 exact (h.block k this hk).trans hb
end Mod
theorem blk_lt {w : World} {k : Nat} {o : Obj} (hb : w.heap[k]? = some o) : k < w.heap.size:=by
 rcases Nat.lt_or_ge k w.heap.size with h | h
 ·exact h
 ·rw [Array.getElem?_eq_none h] at hb;cases hb
theorem blk_cell {w : World} {b : Nat} {cs : Array Value} {e : TypeId} {f : Nat × Nat} (h : w.heap[b]? = some (.cells cs e f)) (i : Nat) : w.cell? ⟨b,i,none⟩ = cs[i]?:=by
 simp only [World.cell?,h]
 simp
theorem blk_free {w : World} {b : Nat} {cs : Array Value} {e : TypeId} (h : w.heap[b]? = some (.cells cs e (0,0))) (i : Nat) : w.frozen? ⟨b,i,none⟩ = false:=by
 simp only [World.frozen?,h]
 simp
theorem blk_set {w : World} {b : Nat} {cs : Array Value} {e : TypeId} {f : Nat × Nat} (h : w.heap[b]? = some (.cells cs e f)) (i : Nat) (u : Value) :
  (w.setCell ⟨b,i,none⟩ u).heap[b]? = some (.cells (cs.setIfInBounds i u) e f):=by
 simp [World.setCell,Array.getElem?_modify,h]
theorem blk_set_ne {w : World} {b : Nat} {a : Addr} (hne : b ≠ a.block) (u : Value) : (w.setCell a u).heap[b]? = w.heap[b]?:=Below.heap_setCell _ _ _ _ hne
theorem blk_alloc {w : World} {b : Nat} {x : Obj} (h : w.heap[b]? = some x) (o : Obj) : (w.alloc o).heap[b]? = some x:=by
 rw [Below.heap_alloc _ _ _ (blk_lt h)];exact h
theorem blk_drew {w : World} {b : Nat} {x : Obj} (h : w.heap[b]? = some x) : w.drew.heap[b]? = some x:=h
section
variable {w w' : World} {B e size n : Nat} {v : Value} {xs : List Value} {F : List Nat}
theorem row_mod (h : w.ownsRow B e size v n xs) (hm : Mod F w w') (hd : ∀ k,v.ownBlock = some k → k ∉ F) : w'.ownsRow B e size v n xs:=by
 obtain ⟨hl,h⟩:=h
 refine ⟨hl,?_⟩
 rcases h with h | ⟨g,cap,cur,rfl,hg,hh,hr⟩
 ·exact .inl h
 ·exact .inr ⟨g,cap,cur,rfl,hg,hm.keep hh (hd g rfl),hr⟩
theorem row_base (h : w.ownsRow B e size v n xs) {B' : Nat} (hB : ∀ k,v.ownBlock = some k → B' ≤ k) : w.ownsRow B' e size v n xs:=by
 obtain ⟨hl,h⟩:=h
 refine ⟨hl,?_⟩
 rcases h with h | ⟨g,cap,cur,rfl,hg,hh,hr⟩
 ·exact .inl h
 ·exact .inr ⟨g,cap,cur,rfl,hB g rfl,hh,hr⟩
theorem row_lt (h : w.ownsRow B e size v n xs) : ∀ k,v.ownBlock = some k → k < w.heap.size:=fun k hk => (h.lt k hk).2
theorem row_some (h : w.ownsRow B e size v n xs) (hn : 0 < n) : ∃ g cap cur,v = .slice (some ⟨g,0,none⟩) n cap ∧ B ≤ g ∧ w.heap[g]? = some (.cells cur e (0,0)) ∧ n ≤ cap ∧ cap ≤ maxLen ∧ cur.size = cap * size ∧ cur.toList.take (n * size) = xs:=by
 rcases h with ⟨hl,⟨rfl,rfl⟩ | h⟩
 ·omega
 ·exact h
theorem row_slice (h : w.ownsRow B e size v n xs) : ∃ A cap,v = .slice A n cap ∧ n ≤ cap ∧ cap ≤ maxLen:=by
 rcases h with ⟨hl,⟨rfl,rfl⟩ | ⟨g,cap,cur,rfl,_,_,hn,hc,_⟩⟩
 ·exact ⟨none,0,rfl,Nat.le_refl _,by unfold maxLen;omega⟩
 ·exact ⟨_,cap,rfl,hn,hc⟩
theorem row_set {g cap : Nat} (h : w.ownsRow B e size (.slice (some ⟨g,0,none⟩) n cap) n xs) (i : Nat) (u : Value) :
  (w.setCell ⟨g,i,none⟩ u).ownsRow B e size (.slice (some ⟨g,0,none⟩) n cap) n (xs.set i u):=by
 obtain ⟨hl,⟨h,_⟩ | ⟨g',cap',cur,he,hg,hh,hn,hc,hs,hx⟩⟩:=h
 ·cases h
 ·cases he
  refine ⟨by simpa using hl,.inr ⟨g,cap,_,rfl,hg,blk_set hh i u,hn,hc,by simpa using hs,?_⟩⟩
  rw [Array.toList_setIfInBounds,← hx,List.take_set]
theorem row_cell {g cap : Nat} (h : w.ownsRow B e size (.slice (some ⟨g,0,none⟩) n cap) n xs) {i : Nat} {u : Value} (hi : xs[i]? = some u) : w.cell? ⟨g,i,none⟩ = some u:=by
 obtain ⟨hl,⟨h,_⟩ | ⟨g',cap',cur,he,hg,hh,hn,hc,hs,hx⟩⟩:=h
 ·cases h
 ·cases he
  rw [blk_cell hh]
  rw [← hx,List.getElem?_take] at hi
  split at hi
  ·simpa using hi
  ·cases hi
theorem row_lies (h : w.ownsRow B e size v n xs) : ∃ A c,v = .slice A n c ∧ n ≤ c ∧ Lies w w.heap.size A xs:=own_lies h
end
section
variable {α : Type} {enc : α → List Value} {n : Nat}
theorem flatV_length (hf : ∀ x,(enc x).length = n) (l : List α) : (l.flatMap enc).length = l.length * n:=by
 induction l with
 | nil => simp
 | cons x l ih => simp [ih,hf x,Nat.succ_mul,Nat.add_comm]
theorem flatV_get (hf : ∀ x,(enc x).length = n) : ∀ (l : List α) (k : Nat) (hk : k < l.length) (j : Nat),j < n → (l.flatMap enc)[k * n + j]? = (enc l[k])[j]?
 | x :: l,0,_,j,hj => by
  simp only [List.flatMap_cons,Nat.zero_mul,Nat.zero_add,List.getElem_cons_zero]
  rw [List.getElem?_append_left (by rw [hf];exact hj)]
 | x :: l,k + 1,hk,j,hj => by
  simp only [List.flatMap_cons,List.getElem_cons_succ]
  rw [List.getElem?_append_right (by rw [hf,Nat.succ_mul];omega),hf,show (k + 1) * n + j - n = k * n + j by rw [Nat.succ_mul];omega]
  exact flatV_get hf l k (by simpa using hk) j hj
theorem flatV_set (hf : ∀ x,(enc x).length = n) : ∀ (l : List α) (k : Nat) (hk : k < l.length) (j : Nat) (u : Value) (y : α),j < n → (enc l[k]).set j u = enc y → (l.flatMap enc).set (k * n + j) u = (l.set k y).flatMap enc
 | x :: l,0,_,j,u,y,hj,he => by
  simp only [List.flatMap_cons,Nat.zero_mul,Nat.zero_add,List.set_cons_zero]
  simp only [List.getElem_cons_zero] at he
  rw [List.set_append_left _ _ (by rw [hf];exact hj),he]
 | x :: l,k + 1,hk,j,u,y,hj,he => by
  simp only [List.flatMap_cons,List.set_cons_succ]
  rw [List.set_append_right _ _ (by rw [hf,Nat.succ_mul];omega),hf,show (k + 1) * n + j - n = k * n + j by rw [Nat.succ_mul];omega]
  rw [flatV_set hf l k (by simpa using hk) j u y hj (by simpa using he)]
theorem Lies.rec_ {w : World} {B : Nat} {A : Option Addr} {l : List α} (h : Lies w B A (l.flatMap enc)) (hf : ∀ x,(enc x).length = n) (hn : 0 < n) {k : Nat} (hk : k < l.length) :
  ∃ a,A = some a ∧ a.block < B ∧ ∀ j u,(enc l[k])[j]? = some u → w.cell? ((a.add (k * n)).add j) = some u:=by
 have hget : ∀ j,j < n → (l.flatMap enc)[k * n + j]? = (enc l[k])[j]?:=flatV_get hf l k hk
 have h0 : (l.flatMap enc)[k * n + 0]? = some ((enc l[k])[0]'(by rw [hf];exact hn)):=by rw [hget 0 hn];exact List.getElem?_eq_getElem _
 obtain ⟨a,rfl,hb,_⟩:=h _ _ h0
 refine ⟨a,rfl,hb,fun j u hu => ?_⟩
 have hj : j < n:=by
  rcases Nat.lt_or_ge j n with h | h
  ·exact h
  ·rw [List.getElem?_eq_none (by rw [hf];exact h)] at hu;cases hu
 rw [← hget j hj] at hu
 obtain ⟨a',e,_,hc⟩:=h _ _ hu
 cases e
 rw [add_add_]
 exact hc
theorem row_rec {B e : Nat} {w : World} {v : Value} {l : List α} (hf : ∀ x,(enc x).length = n) (h : w.ownsRow B e n v l.length (l.flatMap enc)) {k : Nat} (hk : k < l.length) :
  ∃ g cap,v = .slice (some ⟨g,0,none⟩) l.length cap ∧ ∀ j u,(enc l[k])[j]? = some u → w.cell? ⟨g,k * n + j,none⟩ = some u:=by
 obtain ⟨g,cap,cur,rfl,_,hr⟩:=row_some h (by omega)
 refine ⟨g,cap,rfl,fun j u hu => row_cell h ?_⟩
 have hj : j < n:=by
  rcases Nat.lt_or_ge j n with h | h
  ·exact h
  ·rw [List.getElem?_eq_none (by rw [hf];exact h)] at hu;cases hu
 rw [flatV_get hf l k hk j hj];exact hu
theorem app_rec {P : Program} {w : World} {ops : Array Oper} {rest : List Oper} {o : Oper} {a : Act} {Q : Exit → Act → World → Prop} (hgd : o.guard = none) (s x : Operand) (T E : TypeId)
  (ho : o.op = .call { callee:=.builtin .append,args:=#[s,x],argTypes:=#[T,T] }) (ht : P.underlying T = some (.slice E)) {z : Value} {bytes : Nat}
  (hinf : (P.info? E).map (fun i => (i.zero,i.size,i.bytes)) = some (some z,n,bytes)) (hzs : z.cells.size = n) (hn : 0 < n) (hby : 0 < bytes) (hone : ∀ x,∀ u ∈ enc x,u.oneCell' = true) (hf : ∀ x,(enc x).length = n)
  (base : Nat) (v : Value) (l : List α) (y : α) (ad : Addr) (c : Nat) (hs : a.eval s = v) (hown : w.ownsRow base E n v l.length (l.flatMap enc)) (hx : a.eval x = .slice (some ad) 1 c)
  (hc : ∀ j u,(enc y)[j]? = some u → w.cell? (ad.add j) = some u) (hlen : (l.length + 1) * bytes ≤ 140737488355328) (hbase : base ≤ w.heap.size)
  (h : ∀ v' w',w'.ownsRow base E n v' (l ++ [y]).length ((l ++ [y]).flatMap enc) → w.grownBy w' v.ownBlock → (v'.ownBlock = v.ownBlock ∨ v'.ownBlock = some w.heap.size) → wpList P ops Q rest (a.put o.dst v') w') : wpList P ops Q (o :: rest) a w:=by
 obtain ⟨i0,hi,hz0,hz1,hz2⟩:=info_parts hinf
 have h1 : l.length + 1 ≤ (l.length + 1) * bytes:=Nat.le_mul_of_pos_right _ hby
 refine wpList_append_own_at w hgd s x T ho base E i0 z n bytes ht hi hz0 hz1 hz2 hzs hn v l.length _ hs hown ad 1 c (enc y) hx (by rw [hf,Nat.one_mul]) hc (hone y) (by unfold maxLen;omega) hlen hbase ?_
 intro v' w' h1 h2 _ h4
 refine h v' w' ?_ h2 h4
 rw [List.length_append,List.flatMap_append]
 simpa using h1
end
end Go.Proofs.YtoheblfpjinmnaaGreatDoor
