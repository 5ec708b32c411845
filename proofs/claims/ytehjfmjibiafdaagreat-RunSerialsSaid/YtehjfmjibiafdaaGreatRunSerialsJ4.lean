import Derived.Test.YtehjfmjibiafdaaGreatRunSerialsJ2
/- A part of the proof that RunSerials returns true. -/
namespace Go.Proofs.YtehjfmjibiafdaaGreat
open Go.RowKit
theorem bcell {W w1 : World} (hb : Below W.heap.size W w1) : (∀ b o,b < W.heap.size → w1.cell? ⟨b,o,none⟩ = W.cell? ⟨b,o,none⟩) ∧ (∀ b o,b < W.heap.size → w1.frozen? ⟨b,o,none⟩ = W.frozen? ⟨b,o,none⟩) :=
 ⟨fun b o h => hb.cell (p:=⟨b,o,none⟩) h,fun b o h => hb.frozen (p:=⟨b,o,none⟩) h⟩
set_option maxHeartbeats 400000 in
theorem sysIsSet_any (m : Int) (w : World) :
  Calls Tryz.prog 156 #[.int .i64 m] w fun e w' => e = .returned (.bool (isSetB m)) ∧ w = w':=by
 by_cases h0 : 0 ≤ m
 ·by_cases h1 : m ≤ 255
  ·have hs:=Lib.hid (isSetB_t m h0 h1)
   go_enter Tryz.func156,Tryz.ntmps156
   go_wp2
   go_ret
   exact ⟨by rw [hs.out];rfl,rfl⟩
  ·have hs:=Lib.hid (isSetB_f2 m (by omega))
   go_enter Tryz.func156,Tryz.ntmps156
   go_wp2
   go_ret
   exact ⟨by rw [hs.out];rfl,rfl⟩
 ·have hs:=Lib.hid (isSetB_f1 m (by omega))
  go_enter Tryz.func156,Tryz.ntmps156
  go_wp2
  go_ret
  exact ⟨by rw [hs.out];rfl,rfl⟩
def sysE (n t a r s d x : Int) : Int :=
 if qcheck n t a ≠ 0 then 1
 else if isSetB r = false ∨ isSetB s = false ∨ d < 1 ∨ 3 < d ∨ x < -1000000 ∨ 1000000 < x then 1
 else if (d = 3 ∧ x ≠ 0) ∨ (d ≠ 2 ∧ r ≠ 0) then 4 else 0
theorem qcheck_01 (n t a : Int) : qcheck n t a = 0 ∨ qcheck n t a = 1:=by unfold qcheck;split <;> simp
set_option maxHeartbeats 400000 in
theorem sysCheck_q1 (n t a r s d x : Int) (w : World) (hq : qcheck n t a = 1) :
  Calls Tryz.prog 118 #[.agg #[.int .i64 n,.int .i64 t,.int .i64 a,.int .i64 r,.int .i64 s,.int .i64 d,.int .i64 x]] w fun e w' => e = .returned (.int .i64 1) ∧ Below w.heap.size w w':=by
 have Hhq:=Lib.hid hq;clear hq
 go_enter Tryz.func118,Tryz.ntmps118
 go_wp2_with (first | (go_at_call 57;refine (checkQuery_any _ _ _ _).mono ?_;rintro e w1 ⟨rfl,hb⟩;simp only [Hhq.out];obtain ⟨hc,hf⟩:=bcell hb))
 go_ret
 exact ⟨rfl,((Below.refl _ _).alloc (Nat.le_refl _) _).trans (hb.mono (by simp))⟩
set_option maxHeartbeats 400000 in
theorem sysCheck_r0 (n t a r s d x : Int) (w : World) (hq : qcheck n t a = 0) (hr : isSetB r = false) :
  Calls Tryz.prog 118 #[.agg #[.int .i64 n,.int .i64 t,.int .i64 a,.int .i64 r,.int .i64 s,.int .i64 d,.int .i64 x]] w fun e w' => e = .returned (.int .i64 1) ∧ Below w.heap.size w w':=by
 have Hhq:=Lib.hid hq;clear hq
 have Hhr:=Lib.hid hr;clear hr
 go_enter Tryz.func118,Tryz.ntmps118
 go_wp2_with (first | (go_at_call 57;refine (checkQuery_any _ _ _ _).mono ?_;rintro e w1 ⟨rfl,hb⟩;simp only [Hhq.out];obtain ⟨hc,hf⟩:=bcell hb) | (go_at_call 156;refine (sysIsSet_any _ _).mono ?_;rintro e w' ⟨rfl,rfl⟩;first | rw [Hhr.out]))
 go_ret
 exact ⟨rfl,((Below.refl _ _).alloc (Nat.le_refl _) _).trans (hb.mono (by simp))⟩
set_option maxHeartbeats 400000 in
theorem sysCheck_s0 (n t a r s d x : Int) (w : World) (hq : qcheck n t a = 0) (hr : isSetB r = true) (hs : isSetB s = false) :
  Calls Tryz.prog 118 #[.agg #[.int .i64 n,.int .i64 t,.int .i64 a,.int .i64 r,.int .i64 s,.int .i64 d,.int .i64 x]] w fun e w' => e = .returned (.int .i64 1) ∧ Below w.heap.size w w':=by
 have Hhq:=Lib.hid hq;clear hq
 have Hhr:=Lib.hid hr;clear hr
 have Hhs:=Lib.hid hs;clear hs
 go_enter Tryz.func118,Tryz.ntmps118
 go_wp2_with (first | (go_at_call 57;refine (checkQuery_any _ _ _ _).mono ?_;rintro e w1 ⟨rfl,hb⟩;simp only [Hhq.out];obtain ⟨hc,hf⟩:=bcell hb) | (go_at_call 156;refine (sysIsSet_any _ _).mono ?_;rintro e w' ⟨rfl,rfl⟩;first | rw [Hhr.out] | rw [Hhs.out]))
 go_ret
 exact ⟨rfl,((Below.refl _ _).alloc (Nat.le_refl _) _).trans (hb.mono (by simp))⟩
set_option maxHeartbeats 400000 in
theorem sysCheck_d0 (n t a r s d x : Int) (w : World) (hq : qcheck n t a = 0) (hr : isSetB r = true) (hs : isSetB s = true) (hd : d < 1) :
  Calls Tryz.prog 118 #[.agg #[.int .i64 n,.int .i64 t,.int .i64 a,.int .i64 r,.int .i64 s,.int .i64 d,.int .i64 x]] w fun e w' => e = .returned (.int .i64 1) ∧ Below w.heap.size w w':=by
 have Hhq:=Lib.hid hq;clear hq
 have Hhr:=Lib.hid hr;clear hr
 have Hhs:=Lib.hid hs;clear hs
 go_enter Tryz.func118,Tryz.ntmps118
 go_wp2_with (first | (go_at_call 57;refine (checkQuery_any _ _ _ _).mono ?_;rintro e w1 ⟨rfl,hb⟩;simp only [Hhq.out];obtain ⟨hc,hf⟩:=bcell hb) | (go_at_call 156;refine (sysIsSet_any _ _).mono ?_;rintro e w' ⟨rfl,rfl⟩;first | rw [Hhr.out] | rw [Hhs.out]))
 go_ret
 exact ⟨rfl,((Below.refl _ _).alloc (Nat.le_refl _) _).trans (hb.mono (by simp))⟩
set_option maxHeartbeats 400000 in
theorem sysCheck_d4 (n t a r s d x : Int) (w : World) (hq : qcheck n t a = 0) (hr : isSetB r = true) (hs : isSetB s = true) (hd : 3 < d) :
  Calls Tryz.prog 118 #[.agg #[.int .i64 n,.int .i64 t,.int .i64 a,.int .i64 r,.int .i64 s,.int .i64 d,.int .i64 x]] w fun e w' => e = .returned (.int .i64 1) ∧ Below w.heap.size w w':=by
 have Hhq:=Lib.hid hq;clear hq
 have Hhr:=Lib.hid hr;clear hr
 have Hhs:=Lib.hid hs;clear hs
 go_enter Tryz.func118,Tryz.ntmps118
 go_wp2_with (first | (go_at_call 57;refine (checkQuery_any _ _ _ _).mono ?_;rintro e w1 ⟨rfl,hb⟩;simp only [Hhq.out];obtain ⟨hc,hf⟩:=bcell hb) | (go_at_call 156;refine (sysIsSet_any _ _).mono ?_;rintro e w' ⟨rfl,rfl⟩;first | rw [Hhr.out] | rw [Hhs.out]))
 go_ret
 exact ⟨rfl,((Below.refl _ _).alloc (Nat.le_refl _) _).trans (hb.mono (by simp))⟩
set_option maxHeartbeats 400000 in
theorem sysCheck_x0 (n t a r s d x : Int) (w : World) (hq : qcheck n t a = 0) (hr : isSetB r = true) (hs : isSetB s = true) (hd : 1 ≤ d) (hd2 : d ≤ 3) (hx : x < -1000000) :
  Calls Tryz.prog 118 #[.agg #[.int .i64 n,.int .i64 t,.int .i64 a,.int .i64 r,.int .i64 s,.int .i64 d,.int .i64 x]] w fun e w' => e = .returned (.int .i64 1) ∧ Below w.heap.size w w':=by
 have Hhq:=Lib.hid hq;clear hq
 have Hhr:=Lib.hid hr;clear hr
 have Hhs:=Lib.hid hs;clear hs
 go_enter Tryz.func118,Tryz.ntmps118
 go_wp2_with (first | (go_at_call 57;refine (checkQuery_any _ _ _ _).mono ?_;rintro e w1 ⟨rfl,hb⟩;simp only [Hhq.out];obtain ⟨hc,hf⟩:=bcell hb) | (go_at_call 156;refine (sysIsSet_any _ _).mono ?_;rintro e w' ⟨rfl,rfl⟩;first | rw [Hhr.out] | rw [Hhs.out]))
 go_ret
 exact ⟨rfl,((Below.refl _ _).alloc (Nat.le_refl _) _).trans (hb.mono (by simp))⟩
set_option maxHeartbeats 400000 in
theorem sysCheck_x1 (n t a r s d x : Int) (w : World) (hq : qcheck n t a = 0) (hr : isSetB r = true) (hs : isSetB s = true) (hd : 1 ≤ d) (hd2 : d ≤ 3) (hx : 1000000 < x) :
  Calls Tryz.prog 118 #[.agg #[.int .i64 n,.int .i64 t,.int .i64 a,.int .i64 r,.int .i64 s,.int .i64 d,.int .i64 x]] w fun e w' => e = .returned (.int .i64 1) ∧ Below w.heap.size w w':=by
 have Hhq:=Lib.hid hq;clear hq
 have Hhr:=Lib.hid hr;clear hr
 have Hhs:=Lib.hid hs;clear hs
 go_enter Tryz.func118,Tryz.ntmps118
 go_wp2_with (first | (go_at_call 57;refine (checkQuery_any _ _ _ _).mono ?_;rintro e w1 ⟨rfl,hb⟩;simp only [Hhq.out];obtain ⟨hc,hf⟩:=bcell hb) | (go_at_call 156;refine (sysIsSet_any _ _).mono ?_;rintro e w' ⟨rfl,rfl⟩;first | rw [Hhr.out] | rw [Hhs.out]))
 go_ret
 exact ⟨rfl,((Below.refl _ _).alloc (Nat.le_refl _) _).trans (hb.mono (by simp))⟩
set_option maxHeartbeats 400000 in
theorem sysCheck_e1a (n t a r s x : Int) (w : World) (hq : qcheck n t a = 0) (hr : isSetB r = true) (hs : isSetB s = true) (hx : -1000000 ≤ x) (hx2 : x ≤ 1000000) (hz : (r != 0) = true) :
  Calls Tryz.prog 118 #[.agg #[.int .i64 n,.int .i64 t,.int .i64 a,.int .i64 r,.int .i64 s,.int .i64 1,.int .i64 x]] w fun e w' => e = .returned (.int .i64 4) ∧ Below w.heap.size w w':=by
 have Hhq:=Lib.hid hq;clear hq
 have Hhr:=Lib.hid hr;clear hr
 have Hhs:=Lib.hid hs;clear hs
 go_enter Tryz.func118,Tryz.ntmps118
 go_wp2_with (first | (go_at_call 57;refine (checkQuery_any _ _ _ _).mono ?_;rintro e w1 ⟨rfl,hb⟩;simp only [Hhq.out];obtain ⟨hc,hf⟩:=bcell hb) | (go_at_call 156;refine (sysIsSet_any _ _).mono ?_;rintro e w' ⟨rfl,rfl⟩;first | rw [Hhr.out] | rw [Hhs.out]))
 go_ret
 exact ⟨rfl,((Below.refl _ _).alloc (Nat.le_refl _) _).trans (hb.mono (by simp))⟩
set_option maxHeartbeats 400000 in
theorem sysCheck_e1b (n t a r s x : Int) (w : World) (hq : qcheck n t a = 0) (hr : isSetB r = true) (hs : isSetB s = true) (hx : -1000000 ≤ x) (hx2 : x ≤ 1000000) (hz : (r != 0) = false) :
  Calls Tryz.prog 118 #[.agg #[.int .i64 n,.int .i64 t,.int .i64 a,.int .i64 r,.int .i64 s,.int .i64 1,.int .i64 x]] w fun e w' => e = .returned (.int .i64 0) ∧ Below w.heap.size w w':=by
 have Hhq:=Lib.hid hq;clear hq
 have Hhr:=Lib.hid hr;clear hr
 have Hhs:=Lib.hid hs;clear hs
 go_enter Tryz.func118,Tryz.ntmps118
 go_wp2_with (first | (go_at_call 57;refine (checkQuery_any _ _ _ _).mono ?_;rintro e w1 ⟨rfl,hb⟩;simp only [Hhq.out];obtain ⟨hc,hf⟩:=bcell hb) | (go_at_call 156;refine (sysIsSet_any _ _).mono ?_;rintro e w' ⟨rfl,rfl⟩;first | rw [Hhr.out] | rw [Hhs.out]))
 go_ret
 exact ⟨rfl,((Below.refl _ _).alloc (Nat.le_refl _) _).trans (hb.mono (by simp))⟩
set_option maxHeartbeats 400000 in
theorem sysCheck_e2 (n t a r s x : Int) (w : World) (hq : qcheck n t a = 0) (hr : isSetB r = true) (hs : isSetB s = true) (hx : -1000000 ≤ x) (hx2 : x ≤ 1000000) :
  Calls Tryz.prog 118 #[.agg #[.int .i64 n,.int .i64 t,.int .i64 a,.int .i64 r,.int .i64 s,.int .i64 2,.int .i64 x]] w fun e w' => e = .returned (.int .i64 0) ∧ Below w.heap.size w w':=by
 have Hhq:=Lib.hid hq;clear hq
 have Hhr:=Lib.hid hr;clear hr
 have Hhs:=Lib.hid hs;clear hs
 go_enter Tryz.func118,Tryz.ntmps118
 go_wp2_with (first | (go_at_call 57;refine (checkQuery_any _ _ _ _).mono ?_;rintro e w1 ⟨rfl,hb⟩;simp only [Hhq.out];obtain ⟨hc,hf⟩:=bcell hb) | (go_at_call 156;refine (sysIsSet_any _ _).mono ?_;rintro e w' ⟨rfl,rfl⟩;first | rw [Hhr.out] | rw [Hhs.out]))
 go_ret
 exact ⟨rfl,((Below.refl _ _).alloc (Nat.le_refl _) _).trans (hb.mono (by simp))⟩
set_option maxHeartbeats 400000 in
theorem sysCheck_e3a (n t a r s x : Int) (w : World) (hq : qcheck n t a = 0) (hr : isSetB r = true) (hs : isSetB s = true) (hx : -1000000 ≤ x) (hx2 : x ≤ 1000000) (hy : (x != 0) = true) :
  Calls Tryz.prog 118 #[.agg #[.int .i64 n,.int .i64 t,.int .i64 a,.int .i64 r,.int .i64 s,.int .i64 3,.int .i64 x]] w fun e w' => e = .returned (.int .i64 4) ∧ Below w.heap.size w w':=by
 have Hhq:=Lib.hid hq;clear hq
 have Hhr:=Lib.hid hr;clear hr
 have Hhs:=Lib.hid hs;clear hs
 go_enter Tryz.func118,Tryz.ntmps118
 go_wp2_with (first | (go_at_call 57;refine (checkQuery_any _ _ _ _).mono ?_;rintro e w1 ⟨rfl,hb⟩;simp only [Hhq.out];obtain ⟨hc,hf⟩:=bcell hb) | (go_at_call 156;refine (sysIsSet_any _ _).mono ?_;rintro e w' ⟨rfl,rfl⟩;first | rw [Hhr.out] | rw [Hhs.out]))
 go_ret
 exact ⟨rfl,((Below.refl _ _).alloc (Nat.le_refl _) _).trans (hb.mono (by simp))⟩
set_option maxHeartbeats 400000 in
theorem sysCheck_e3b (n t a r s x : Int) (w : World) (hq : qcheck n t a = 0) (hr : isSetB r = true) (hs : isSetB s = true) (hx : -1000000 ≤ x) (hx2 : x ≤ 1000000) (hy : (x != 0) = false) (hz : (r != 0) = true) :
  Calls Tryz.prog 118 #[.agg #[.int .i64 n,.int .i64 t,.int .i64 a,.int .i64 r,.int .i64 s,.int .i64 3,.int .i64 x]] w fun e w' => e = .returned (.int .i64 4) ∧ Below w.heap.size w w':=by
 have Hhq:=Lib.hid hq;clear hq
 have Hhr:=Lib.hid hr;clear hr
 have Hhs:=Lib.hid hs;clear hs
 go_enter Tryz.func118,Tryz.ntmps118
 go_wp2_with (first | (go_at_call 57;refine (checkQuery_any _ _ _ _).mono ?_;rintro e w1 ⟨rfl,hb⟩;simp only [Hhq.out];obtain ⟨hc,hf⟩:=bcell hb) | (go_at_call 156;refine (sysIsSet_any _ _).mono ?_;rintro e w' ⟨rfl,rfl⟩;first | rw [Hhr.out] | rw [Hhs.out]))
 go_ret
 exact ⟨rfl,((Below.refl _ _).alloc (Nat.le_refl _) _).trans (hb.mono (by simp))⟩
set_option maxHeartbeats 400000 in
theorem sysCheck_e3c (n t a r s x : Int) (w : World) (hq : qcheck n t a = 0) (hr : isSetB r = true) (hs : isSetB s = true) (hx : -1000000 ≤ x) (hx2 : x ≤ 1000000) (hy : (x != 0) = false) (hz : (r != 0) = false) :
  Calls Tryz.prog 118 #[.agg #[.int .i64 n,.int .i64 t,.int .i64 a,.int .i64 r,.int .i64 s,.int .i64 3,.int .i64 x]] w fun e w' => e = .returned (.int .i64 0) ∧ Below w.heap.size w w':=by
 have Hhq:=Lib.hid hq;clear hq
 have Hhr:=Lib.hid hr;clear hr
 have Hhs:=Lib.hid hs;clear hs
 go_enter Tryz.func118,Tryz.ntmps118
 go_wp2_with (first | (go_at_call 57;refine (checkQuery_any _ _ _ _).mono ?_;rintro e w1 ⟨rfl,hb⟩;simp only [Hhq.out];obtain ⟨hc,hf⟩:=bcell hb) | (go_at_call 156;refine (sysIsSet_any _ _).mono ?_;rintro e w' ⟨rfl,rfl⟩;first | rw [Hhr.out] | rw [Hhs.out]))
 go_ret
 exact ⟨rfl,((Below.refl _ _).alloc (Nat.le_refl _) _).trans (hb.mono (by simp))⟩
theorem sysCheck_any (n t a r s d x : Int) (w : World) :
  Calls Tryz.prog 118 #[.agg #[.int .i64 n,.int .i64 t,.int .i64 a,.int .i64 r,.int .i64 s,.int .i64 d,.int .i64 x]] w fun e w' => e = .returned (.int .i64 (sysE n t a r s d x)) ∧ Below w.heap.size w w':=by
 rcases qcheck_01 n t a with hq | hq
 ·cases hr : isSetB r with
  | false =>
   have e : sysE n t a r s d x = 1:=by simp [sysE,hq,hr]
   rw [e];exact sysCheck_r0 n t a r s d x w hq hr
  | true =>
   cases hs : isSetB s with
   | false =>
    have e : sysE n t a r s d x = 1:=by simp [sysE,hq,hr,hs]
    rw [e];exact sysCheck_s0 n t a r s d x w hq hr hs
   | true =>
    by_cases h1 : d < 1
    ·have e : sysE n t a r s d x = 1:=by simp [sysE,hq,hr,hs,h1]
     rw [e];exact sysCheck_d0 n t a r s d x w hq hr hs h1
    ·by_cases h2 : 3 < d
     ·have e : sysE n t a r s d x = 1:=by simp [sysE,hq,hr,hs,h2]
      rw [e];exact sysCheck_d4 n t a r s d x w hq hr hs h2
     ·by_cases h3 : x < -1000000
      ·have e : sysE n t a r s d x = 1:=by simp [sysE,hq,hr,hs,h3]
       rw [e];exact sysCheck_x0 n t a r s d x w hq hr hs (by omega) (by omega) h3
      ·by_cases h4 : 1000000 < x
       ·have e : sysE n t a r s d x = 1:=by simp [sysE,hq,hr,hs,h4]
        rw [e];exact sysCheck_x1 n t a r s d x w hq hr hs (by omega) (by omega) h4
       ·have hgo : sysE n t a r s d x = if (d = 3 ∧ x ≠ 0) ∨ (d ≠ 2 ∧ r ≠ 0) then 4 else 0:=by
         unfold sysE
         rw [if_neg (by simp [hq]),if_neg (by rw [hr,hs];simp;omega)]
        rw [hgo]
        have hd : d = 1 ∨ d = 2 ∨ d = 3:=by omega
        rcases hd with rfl | rfl | rfl
        ·by_cases hz : r = 0
         ·rw [if_neg (by simp [hz])];exact sysCheck_e1b n t a r s x w hq hr hs (by omega) (by omega) (by simpa using hz)
         ·rw [if_pos (by simp [hz])];exact sysCheck_e1a n t a r s x w hq hr hs (by omega) (by omega) (by simpa using hz)
        ·rw [if_neg (by simp)];exact sysCheck_e2 n t a r s x w hq hr hs (by omega) (by omega)
        ·by_cases hy : x = 0
         ·by_cases hz : r = 0
          ·rw [if_neg (by simp [hz,hy])];exact sysCheck_e3c n t a r s x w hq hr hs (by omega) (by omega) (by simpa using hy) (by simpa using hz)
          ·rw [if_pos (by simp [hz])];exact sysCheck_e3b n t a r s x w hq hr hs (by omega) (by omega) (by simpa using hy) (by simpa using hz)
         ·rw [if_pos (by simp [hy])];exact sysCheck_e3a n t a r s x w hq hr hs (by omega) (by omega) (by simpa using hy)
 ·have e : sysE n t a r s d x = 1:=by simp [sysE,hq]
  rw [e];exact sysCheck_q1 n t a r s d x w hq
set_option maxHeartbeats 400000 in
theorem sysRef_q1 (n t a r s d x : Int) (w : World) (hq : qcheck n t a = 1) :
  Calls Tryz.prog 122 #[.agg #[.int .i64 n,.int .i64 t,.int .i64 a,.int .i64 r,.int .i64 s,.int .i64 d,.int .i64 x]] w fun e w' => e = .returned (.int .i64 1) ∧ Below w.heap.size w w':=by
 have ho1:=outsideB_set r;have ho2:=outsideB_set s
 obtain ⟨Ho1,Ho2⟩:=hid2 ho1 ho2
 clear ho1 ho2
 have Hhq:=Lib.hid hq;clear hq
 go_enter Tryz.func122,Tryz.ntmps122
 go_wp2_with (first | (go_at_call 65;refine (queryCheck_any _ _ _ _).mono ?_;rintro e w1 ⟨rfl,hb⟩;simp only [Hhq.out];obtain ⟨hc,hf⟩:=bcell hb))
 go_ret
 exact ⟨rfl,((Below.refl _ _).alloc (Nat.le_refl _) _).trans (hb.mono (by simp))⟩
set_option maxHeartbeats 400000 in
theorem sysRef_r0 (n t a r s d x : Int) (w : World) (hq : qcheck n t a = 0) (hr : isSetB r = false) :
  Calls Tryz.prog 122 #[.agg #[.int .i64 n,.int .i64 t,.int .i64 a,.int .i64 r,.int .i64 s,.int .i64 d,.int .i64 x]] w fun e w' => e = .returned (.int .i64 1) ∧ Below w.heap.size w w':=by
 have ho1:=outsideB_set r;have ho2:=outsideB_set s
 rw [hr] at ho1
 simp only [Bool.not_false] at ho1
 obtain ⟨Ho1,Ho2⟩:=hid2 ho1 ho2
 clear ho1 ho2
 have Hhq:=Lib.hid hq;clear hq
 have Hhr:=Lib.hid hr;clear hr
 go_enter Tryz.func122,Tryz.ntmps122
 go_wp2_with (first | (go_at_call 65;refine (queryCheck_any _ _ _ _).mono ?_;rintro e w1 ⟨rfl,hb⟩;simp only [Hhq.out];obtain ⟨hc,hf⟩:=bcell hb) | (go_at_call 101;refine (outside_any _ _ _ _).mono ?_;rintro e w' ⟨rfl,rfl⟩;first | rw [Ho1.out] | rw [Ho2.out]))
 go_ret
 exact ⟨rfl,((Below.refl _ _).alloc (Nat.le_refl _) _).trans (hb.mono (by simp))⟩
set_option maxHeartbeats 400000 in
theorem sysRef_s0 (n t a r s d x : Int) (w : World) (hq : qcheck n t a = 0) (hr : isSetB r = true) (hs : isSetB s = false) :
  Calls Tryz.prog 122 #[.agg #[.int .i64 n,.int .i64 t,.int .i64 a,.int .i64 r,.int .i64 s,.int .i64 d,.int .i64 x]] w fun e w' => e = .returned (.int .i64 1) ∧ Below w.heap.size w w':=by
 have ho1:=outsideB_set r;have ho2:=outsideB_set s
 rw [hr] at ho1
 rw [hs] at ho2
 simp only [Bool.not_true] at ho1
 simp only [Bool.not_false] at ho2
 obtain ⟨Ho1,Ho2⟩:=hid2 ho1 ho2
 clear ho1 ho2
 have Hhq:=Lib.hid hq;clear hq
 have Hhr:=Lib.hid hr;clear hr
 have Hhs:=Lib.hid hs;clear hs
 go_enter Tryz.func122,Tryz.ntmps122
 go_wp2_with (first | (go_at_call 65;refine (queryCheck_any _ _ _ _).mono ?_;rintro e w1 ⟨rfl,hb⟩;simp only [Hhq.out];obtain ⟨hc,hf⟩:=bcell hb) | (go_at_call 101;refine (outside_any _ _ _ _).mono ?_;rintro e w' ⟨rfl,rfl⟩;first | rw [Ho1.out] | rw [Ho2.out]))
 go_ret
 exact ⟨rfl,((Below.refl _ _).alloc (Nat.le_refl _) _).trans (hb.mono (by simp))⟩
set_option maxHeartbeats 400000 in
theorem sysRef_d0 (n t a r s d x : Int) (w : World) (hq : qcheck n t a = 0) (hr : isSetB r = true) (hs : isSetB s = true) (hd : d < 1) :
  Calls Tryz.prog 122 #[.agg #[.int .i64 n,.int .i64 t,.int .i64 a,.int .i64 r,.int .i64 s,.int .i64 d,.int .i64 x]] w fun e w' => e = .returned (.int .i64 1) ∧ Below w.heap.size w w':=by
 have ho1:=outsideB_set r;have ho2:=outsideB_set s
 rw [hr] at ho1
 rw [hs] at ho2
 simp only [Bool.not_true] at ho1
 simp only [Bool.not_true] at ho2
 obtain ⟨Ho1,Ho2⟩:=hid2 ho1 ho2
 clear ho1 ho2
 have ho3 : outsideB d 1 3 = true:=by simp [outsideB];omega
 have Ho3:=Lib.hid ho3;clear ho3
 have Hhq:=Lib.hid hq;clear hq
 have Hhr:=Lib.hid hr;clear hr
 have Hhs:=Lib.hid hs;clear hs
 go_enter Tryz.func122,Tryz.ntmps122
 go_wp2_with (first | (go_at_call 65;refine (queryCheck_any _ _ _ _).mono ?_;rintro e w1 ⟨rfl,hb⟩;simp only [Hhq.out];obtain ⟨hc,hf⟩:=bcell hb) | (go_at_call 101;refine (outside_any _ _ _ _).mono ?_;rintro e w' ⟨rfl,rfl⟩;first | rw [Ho1.out] | rw [Ho2.out] | rw [Ho3.out]))
 go_ret
 exact ⟨rfl,((Below.refl _ _).alloc (Nat.le_refl _) _).trans (hb.mono (by simp))⟩
set_option maxHeartbeats 400000 in
theorem sysRef_d4 (n t a r s d x : Int) (w : World) (hq : qcheck n t a = 0) (hr : isSetB r = true) (hs : isSetB s = true) (hd : 3 < d) :
  Calls Tryz.prog 122 #[.agg #[.int .i64 n,.int .i64 t,.int .i64 a,.int .i64 r,.int .i64 s,.int .i64 d,.int .i64 x]] w fun e w' => e = .returned (.int .i64 1) ∧ Below w.heap.size w w':=by
 have ho1:=outsideB_set r;have ho2:=outsideB_set s
 rw [hr] at ho1
 rw [hs] at ho2
 simp only [Bool.not_true] at ho1
 simp only [Bool.not_true] at ho2
 obtain ⟨Ho1,Ho2⟩:=hid2 ho1 ho2
 clear ho1 ho2
 have ho3 : outsideB d 1 3 = true:=by simp [outsideB];omega
 have Ho3:=Lib.hid ho3;clear ho3
 have Hhq:=Lib.hid hq;clear hq
 have Hhr:=Lib.hid hr;clear hr
 have Hhs:=Lib.hid hs;clear hs
 go_enter Tryz.func122,Tryz.ntmps122
 go_wp2_with (first | (go_at_call 65;refine (queryCheck_any _ _ _ _).mono ?_;rintro e w1 ⟨rfl,hb⟩;simp only [Hhq.out];obtain ⟨hc,hf⟩:=bcell hb) | (go_at_call 101;refine (outside_any _ _ _ _).mono ?_;rintro e w' ⟨rfl,rfl⟩;first | rw [Ho1.out] | rw [Ho2.out] | rw [Ho3.out]))
 go_ret
 exact ⟨rfl,((Below.refl _ _).alloc (Nat.le_refl _) _).trans (hb.mono (by simp))⟩
set_option maxHeartbeats 400000 in
theorem sysRef_x0 (n t a r s d x : Int) (w : World) (hq : qcheck n t a = 0) (hr : isSetB r = true) (hs : isSetB s = true) (hd : 1 ≤ d) (hd2 : d ≤ 3) (hx : x < -1000000) :
  Calls Tryz.prog 122 #[.agg #[.int .i64 n,.int .i64 t,.int .i64 a,.int .i64 r,.int .i64 s,.int .i64 d,.int .i64 x]] w fun e w' => e = .returned (.int .i64 1) ∧ Below w.heap.size w w':=by
 have ho1:=outsideB_set r;have ho2:=outsideB_set s
 rw [hr] at ho1
 rw [hs] at ho2
 simp only [Bool.not_true] at ho1
 simp only [Bool.not_true] at ho2
 obtain ⟨Ho1,Ho2⟩:=hid2 ho1 ho2
 clear ho1 ho2
 have ho3 : outsideB d 1 3 = false:=by simp [outsideB];omega
 have Ho3:=Lib.hid ho3;clear ho3
 have ho4 : outsideB x (-1000000) 1000000 = true:=by simp [outsideB];omega
 have Ho4:=Lib.hid ho4;clear ho4
 have Hhq:=Lib.hid hq;clear hq
 have Hhr:=Lib.hid hr;clear hr
 have Hhs:=Lib.hid hs;clear hs
 go_enter Tryz.func122,Tryz.ntmps122
 go_wp2_with (first | (go_at_call 65;refine (queryCheck_any _ _ _ _).mono ?_;rintro e w1 ⟨rfl,hb⟩;simp only [Hhq.out];obtain ⟨hc,hf⟩:=bcell hb) | (go_at_call 101;refine (outside_any _ _ _ _).mono ?_;rintro e w' ⟨rfl,rfl⟩;first | rw [Ho1.out] | rw [Ho2.out] | rw [Ho3.out] | rw [Ho4.out]))
 go_ret
 exact ⟨rfl,((Below.refl _ _).alloc (Nat.le_refl _) _).trans (hb.mono (by simp))⟩
set_option maxHeartbeats 400000 in
theorem sysRef_x1 (n t a r s d x : Int) (w : World) (hq : qcheck n t a = 0) (hr : isSetB r = true) (hs : isSetB s = true) (hd : 1 ≤ d) (hd2 : d ≤ 3) (hx : 1000000 < x) :
  Calls Tryz.prog 122 #[.agg #[.int .i64 n,.int .i64 t,.int .i64 a,.int .i64 r,.int .i64 s,.int .i64 d,.int .i64 x]] w fun e w' => e = .returned (.int .i64 1) ∧ Below w.heap.size w w':=by
 have ho1:=outsideB_set r;have ho2:=outsideB_set s
 rw [hr] at ho1
 rw [hs] at ho2
 simp only [Bool.not_true] at ho1
 simp only [Bool.not_true] at ho2
 obtain ⟨Ho1,Ho2⟩:=hid2 ho1 ho2
 clear ho1 ho2
 have ho3 : outsideB d 1 3 = false:=by simp [outsideB];omega
 have Ho3:=Lib.hid ho3;clear ho3
 have ho4 : outsideB x (-1000000) 1000000 = true:=by simp [outsideB];omega
 have Ho4:=Lib.hid ho4;clear ho4
 have Hhq:=Lib.hid hq;clear hq
 have Hhr:=Lib.hid hr;clear hr
 have Hhs:=Lib.hid hs;clear hs
 go_enter Tryz.func122,Tryz.ntmps122
 go_wp2_with (first | (go_at_call 65;refine (queryCheck_any _ _ _ _).mono ?_;rintro e w1 ⟨rfl,hb⟩;simp only [Hhq.out];obtain ⟨hc,hf⟩:=bcell hb) | (go_at_call 101;refine (outside_any _ _ _ _).mono ?_;rintro e w' ⟨rfl,rfl⟩;first | rw [Ho1.out] | rw [Ho2.out] | rw [Ho3.out] | rw [Ho4.out]))
 go_ret
 exact ⟨rfl,((Below.refl _ _).alloc (Nat.le_refl _) _).trans (hb.mono (by simp))⟩
set_option maxHeartbeats 400000 in
theorem sysRef_e1a (n t a r s x : Int) (w : World) (hq : qcheck n t a = 0) (hr : isSetB r = true) (hs : isSetB s = true) (hx : -1000000 ≤ x) (hx2 : x ≤ 1000000) (hz : (r != 0) = true) :
  Calls Tryz.prog 122 #[.agg #[.int .i64 n,.int .i64 t,.int .i64 a,.int .i64 r,.int .i64 s,.int .i64 1,.int .i64 x]] w fun e w' => e = .returned (.int .i64 4) ∧ Below w.heap.size w w':=by
 have ho1:=outsideB_set r;have ho2:=outsideB_set s
 rw [hr] at ho1
 rw [hs] at ho2
 simp only [Bool.not_true] at ho1
 simp only [Bool.not_true] at ho2
 obtain ⟨Ho1,Ho2⟩:=hid2 ho1 ho2
 clear ho1 ho2
 have ho3 : outsideB 1 1 3 = false:=by simp [outsideB]
 have Ho3:=Lib.hid ho3;clear ho3
 have ho4 : outsideB x (-1000000) 1000000 = false:=by simp [outsideB];omega
 have Ho4:=Lib.hid ho4;clear ho4
 have Hhq:=Lib.hid hq;clear hq
 have Hhr:=Lib.hid hr;clear hr
 have Hhs:=Lib.hid hs;clear hs
 go_enter Tryz.func122,Tryz.ntmps122
 go_wp2_with (first | (go_at_call 65;refine (queryCheck_any _ _ _ _).mono ?_;rintro e w1 ⟨rfl,hb⟩;simp only [Hhq.out];obtain ⟨hc,hf⟩:=bcell hb) | (go_at_call 101;refine (outside_any _ _ _ _).mono ?_;rintro e w' ⟨rfl,rfl⟩;first | rw [Ho1.out] | rw [Ho2.out] | rw [Ho3.out] | rw [Ho4.out]))
 go_ret
 exact ⟨rfl,((Below.refl _ _).alloc (Nat.le_refl _) _).trans (hb.mono (by simp))⟩
set_option maxHeartbeats 400000 in
theorem sysRef_e1b (n t a r s x : Int) (w : World) (hq : qcheck n t a = 0) (hr : isSetB r = true) (hs : isSetB s = true) (hx : -1000000 ≤ x) (hx2 : x ≤ 1000000) (hz : (r != 0) = false) :
  Calls Tryz.prog 122 #[.agg #[.int .i64 n,.int .i64 t,.int .i64 a,.int .i64 r,.int .i64 s,.int .i64 1,.int .i64 x]] w fun e w' => e = .returned (.int .i64 0) ∧ Below w.heap.size w w':=by
 have ho1:=outsideB_set r;have ho2:=outsideB_set s
 rw [hr] at ho1
 rw [hs] at ho2
 simp only [Bool.not_true] at ho1
 simp only [Bool.not_true] at ho2
 obtain ⟨Ho1,Ho2⟩:=hid2 ho1 ho2
 clear ho1 ho2
 have ho3 : outsideB 1 1 3 = false:=by simp [outsideB]
 have Ho3:=Lib.hid ho3;clear ho3
 have ho4 : outsideB x (-1000000) 1000000 = false:=by simp [outsideB];omega
 have Ho4:=Lib.hid ho4;clear ho4
 have Hhq:=Lib.hid hq;clear hq
 have Hhr:=Lib.hid hr;clear hr
 have Hhs:=Lib.hid hs;clear hs
 go_enter Tryz.func122,Tryz.ntmps122
 go_wp2_with (first | (go_at_call 65;refine (queryCheck_any _ _ _ _).mono ?_;rintro e w1 ⟨rfl,hb⟩;simp only [Hhq.out];obtain ⟨hc,hf⟩:=bcell hb) | (go_at_call 101;refine (outside_any _ _ _ _).mono ?_;rintro e w' ⟨rfl,rfl⟩;first | rw [Ho1.out] | rw [Ho2.out] | rw [Ho3.out] | rw [Ho4.out]))
 go_ret
 exact ⟨rfl,((Below.refl _ _).alloc (Nat.le_refl _) _).trans (hb.mono (by simp))⟩
set_option maxHeartbeats 400000 in
theorem sysRef_e2 (n t a r s x : Int) (w : World) (hq : qcheck n t a = 0) (hr : isSetB r = true) (hs : isSetB s = true) (hx : -1000000 ≤ x) (hx2 : x ≤ 1000000) :
  Calls Tryz.prog 122 #[.agg #[.int .i64 n,.int .i64 t,.int .i64 a,.int .i64 r,.int .i64 s,.int .i64 2,.int .i64 x]] w fun e w' => e = .returned (.int .i64 0) ∧ Below w.heap.size w w':=by
 have ho1:=outsideB_set r;have ho2:=outsideB_set s
 rw [hr] at ho1
 rw [hs] at ho2
 simp only [Bool.not_true] at ho1
 simp only [Bool.not_true] at ho2
 obtain ⟨Ho1,Ho2⟩:=hid2 ho1 ho2
 clear ho1 ho2
 have ho3 : outsideB 2 1 3 = false:=by simp [outsideB]
 have Ho3:=Lib.hid ho3;clear ho3
 have ho4 : outsideB x (-1000000) 1000000 = false:=by simp [outsideB];omega
 have Ho4:=Lib.hid ho4;clear ho4
 have Hhq:=Lib.hid hq;clear hq
 have Hhr:=Lib.hid hr;clear hr
 have Hhs:=Lib.hid hs;clear hs
 go_enter Tryz.func122,Tryz.ntmps122
 go_wp2_with (first | (go_at_call 65;refine (queryCheck_any _ _ _ _).mono ?_;rintro e w1 ⟨rfl,hb⟩;simp only [Hhq.out];obtain ⟨hc,hf⟩:=bcell hb) | (go_at_call 101;refine (outside_any _ _ _ _).mono ?_;rintro e w' ⟨rfl,rfl⟩;first | rw [Ho1.out] | rw [Ho2.out] | rw [Ho3.out] | rw [Ho4.out]))
 go_ret
 exact ⟨rfl,((Below.refl _ _).alloc (Nat.le_refl _) _).trans (hb.mono (by simp))⟩
set_option maxHeartbeats 400000 in
theorem sysRef_e3a (n t a r s x : Int) (w : World) (hq : qcheck n t a = 0) (hr : isSetB r = true) (hs : isSetB s = true) (hx : -1000000 ≤ x) (hx2 : x ≤ 1000000) (hy : (x != 0) = true) :
  Calls Tryz.prog 122 #[.agg #[.int .i64 n,.int .i64 t,.int .i64 a,.int .i64 r,.int .i64 s,.int .i64 3,.int .i64 x]] w fun e w' => e = .returned (.int .i64 4) ∧ Below w.heap.size w w':=by
 have ho1:=outsideB_set r;have ho2:=outsideB_set s
 rw [hr] at ho1
 rw [hs] at ho2
 simp only [Bool.not_true] at ho1
 simp only [Bool.not_true] at ho2
 obtain ⟨Ho1,Ho2⟩:=hid2 ho1 ho2
 clear ho1 ho2
 have ho3 : outsideB 3 1 3 = false:=by simp [outsideB]
 have Ho3:=Lib.hid ho3;clear ho3
 have ho4 : outsideB x (-1000000) 1000000 = false:=by simp [outsideB];omega
 have Ho4:=Lib.hid ho4;clear ho4
 have Hhq:=Lib.hid hq;clear hq
 have Hhr:=Lib.hid hr;clear hr
 have Hhs:=Lib.hid hs;clear hs
 go_enter Tryz.func122,Tryz.ntmps122
 go_wp2_with (first | (go_at_call 65;refine (queryCheck_any _ _ _ _).mono ?_;rintro e w1 ⟨rfl,hb⟩;simp only [Hhq.out];obtain ⟨hc,hf⟩:=bcell hb) | (go_at_call 101;refine (outside_any _ _ _ _).mono ?_;rintro e w' ⟨rfl,rfl⟩;first | rw [Ho1.out] | rw [Ho2.out] | rw [Ho3.out] | rw [Ho4.out]))
 go_ret
 exact ⟨rfl,((Below.refl _ _).alloc (Nat.le_refl _) _).trans (hb.mono (by simp))⟩
set_option maxHeartbeats 400000 in
theorem sysRef_e3b (n t a r s x : Int) (w : World) (hq : qcheck n t a = 0) (hr : isSetB r = true) (hs : isSetB s = true) (hx : -1000000 ≤ x) (hx2 : x ≤ 1000000) (hy : (x != 0) = false) (hz : (r != 0) = true) :
  Calls Tryz.prog 122 #[.agg #[.int .i64 n,.int .i64 t,.int .i64 a,.int .i64 r,.int .i64 s,.int .i64 3,.int .i64 x]] w fun e w' => e = .returned (.int .i64 4) ∧ Below w.heap.size w w':=by
 have ho1:=outsideB_set r;have ho2:=outsideB_set s
 rw [hr] at ho1
 rw [hs] at ho2
 simp only [Bool.not_true] at ho1
 simp only [Bool.not_true] at ho2
 obtain ⟨Ho1,Ho2⟩:=hid2 ho1 ho2
 clear ho1 ho2
 have ho3 : outsideB 3 1 3 = false:=by simp [outsideB]
 have Ho3:=Lib.hid ho3;clear ho3
 have ho4 : outsideB x (-1000000) 1000000 = false:=by simp [outsideB];omega
 have Ho4:=Lib.hid ho4;clear ho4
 have Hhq:=Lib.hid hq;clear hq
 have Hhr:=Lib.hid hr;clear hr
 have Hhs:=Lib.hid hs;clear hs
 go_enter Tryz.func122,Tryz.ntmps122
 go_wp2_with (first | (go_at_call 65;refine (queryCheck_any _ _ _ _).mono ?_;rintro e w1 ⟨rfl,hb⟩;simp only [Hhq.out];obtain ⟨hc,hf⟩:=bcell hb) | (go_at_call 101;refine (outside_any _ _ _ _).mono ?_;rintro e w' ⟨rfl,rfl⟩;first | rw [Ho1.out] | rw [Ho2.out] | rw [Ho3.out] | rw [Ho4.out]))
 go_ret
 exact ⟨rfl,((Below.refl _ _).alloc (Nat.le_refl _) _).trans (hb.mono (by simp))⟩
set_option maxHeartbeats 400000 in
theorem sysRef_e3c (n t a r s x : Int) (w : World) (hq : qcheck n t a = 0) (hr : isSetB r = true) (hs : isSetB s = true) (hx : -1000000 ≤ x) (hx2 : x ≤ 1000000) (hy : (x != 0) = false) (hz : (r != 0) = false) :
  Calls Tryz.prog 122 #[.agg #[.int .i64 n,.int .i64 t,.int .i64 a,.int .i64 r,.int .i64 s,.int .i64 3,.int .i64 x]] w fun e w' => e = .returned (.int .i64 0) ∧ Below w.heap.size w w':=by
 have ho1:=outsideB_set r;have ho2:=outsideB_set s
 rw [hr] at ho1
 rw [hs] at ho2
 simp only [Bool.not_true] at ho1
 simp only [Bool.not_true] at ho2
 obtain ⟨Ho1,Ho2⟩:=hid2 ho1 ho2
 clear ho1 ho2
 have ho3 : outsideB 3 1 3 = false:=by simp [outsideB]
 have Ho3:=Lib.hid ho3;clear ho3
 have ho4 : outsideB x (-1000000) 1000000 = false:=by simp [outsideB];omega
 have Ho4:=Lib.hid ho4;clear ho4
 have Hhq:=Lib.hid hq;clear hq
 have Hhr:=Lib.hid hr;clear hr
 have Hhs:=Lib.hid hs;clear hs
 go_enter Tryz.func122,Tryz.ntmps122
 go_wp2_with (first | (go_at_call 65;refine (queryCheck_any _ _ _ _).mono ?_;rintro e w1 ⟨rfl,hb⟩;simp only [Hhq.out];obtain ⟨hc,hf⟩:=bcell hb) | (go_at_call 101;refine (outside_any _ _ _ _).mono ?_;rintro e w' ⟨rfl,rfl⟩;first | rw [Ho1.out] | rw [Ho2.out] | rw [Ho3.out] | rw [Ho4.out]))
 go_ret
 exact ⟨rfl,((Below.refl _ _).alloc (Nat.le_refl _) _).trans (hb.mono (by simp))⟩
theorem sysRef_any (n t a r s d x : Int) (w : World) :
  Calls Tryz.prog 122 #[.agg #[.int .i64 n,.int .i64 t,.int .i64 a,.int .i64 r,.int .i64 s,.int .i64 d,.int .i64 x]] w fun e w' => e = .returned (.int .i64 (sysE n t a r s d x)) ∧ Below w.heap.size w w':=by
 rcases qcheck_01 n t a with hq | hq
 ·cases hr : isSetB r with
  | false =>
   have e : sysE n t a r s d x = 1:=by simp [sysE,hq,hr]
   rw [e];exact sysRef_r0 n t a r s d x w hq hr
  | true =>
   cases hs : isSetB s with
   | false =>
    have e : sysE n t a r s d x = 1:=by simp [sysE,hq,hr,hs]
    rw [e];exact sysRef_s0 n t a r s d x w hq hr hs
   | true =>
    by_cases h1 : d < 1
    ·have e : sysE n t a r s d x = 1:=by simp [sysE,hq,hr,hs,h1]
     rw [e];exact sysRef_d0 n t a r s d x w hq hr hs h1
    ·by_cases h2 : 3 < d
     ·have e : sysE n t a r s d x = 1:=by simp [sysE,hq,hr,hs,h2]
      rw [e];exact sysRef_d4 n t a r s d x w hq hr hs h2
     ·by_cases h3 : x < -1000000
      ·have e : sysE n t a r s d x = 1:=by simp [sysE,hq,hr,hs,h3]
       rw [e];exact sysRef_x0 n t a r s d x w hq hr hs (by omega) (by omega) h3
      ·by_cases h4 : 1000000 < x
       ·have e : sysE n t a r s d x = 1:=by simp [sysE,hq,hr,hs,h4]
        rw [e];exact sysRef_x1 n t a r s d x w hq hr hs (by omega) (by omega) h4
       ·have hgo : sysE n t a r s d x = if (d = 3 ∧ x ≠ 0) ∨ (d ≠ 2 ∧ r ≠ 0) then 4 else 0:=by
         unfold sysE
         rw [if_neg (by simp [hq]),if_neg (by rw [hr,hs];simp;omega)]
        rw [hgo]
        have hd : d = 1 ∨ d = 2 ∨ d = 3:=by omega
        rcases hd with rfl | rfl | rfl
        ·by_cases hz : r = 0
         ·rw [if_neg (by simp [hz])];exact sysRef_e1b n t a r s x w hq hr hs (by omega) (by omega) (by simpa using hz)
         ·rw [if_pos (by simp [hz])];exact sysRef_e1a n t a r s x w hq hr hs (by omega) (by omega) (by simpa using hz)
        ·rw [if_neg (by simp)];exact sysRef_e2 n t a r s x w hq hr hs (by omega) (by omega)
        ·by_cases hy : x = 0
         ·by_cases hz : r = 0
          ·rw [if_neg (by simp [hz,hy])];exact sysRef_e3c n t a r s x w hq hr hs (by omega) (by omega) (by simpa using hy) (by simpa using hz)
          ·rw [if_pos (by simp [hz])];exact sysRef_e3b n t a r s x w hq hr hs (by omega) (by omega) (by simpa using hy) (by simpa using hz)
         ·rw [if_pos (by simp [hy])];exact sysRef_e3a n t a r s x w hq hr hs (by omega) (by omega) (by simpa using hy)
 ·have e : sysE n t a r s d x = 1:=by simp [sysE,hq]
  rw [e];exact sysRef_q1 n t a r s d x w hq
end Go.Proofs.YtehjfmjibiafdaaGreat
