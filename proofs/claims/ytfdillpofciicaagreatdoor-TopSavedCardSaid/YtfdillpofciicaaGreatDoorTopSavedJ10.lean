import Derived.Test.YtfdillpofciicaaGreatDoorTopSavedJ9
set_option linter.unusedVariables false
set_option linter.unusedSimpArgs false
/- A part of the proof that TopSaved returns true. -/
namespace Go.Proofs.YtfdillpofciicaaGreatDoor
open Go.RowKit
theorem bcell {W w1 : World} (hb : Below W.heap.size W w1) : (∀ b o,b < W.heap.size → w1.cell? ⟨b,o,none⟩ = W.cell? ⟨b,o,none⟩) ∧ (∀ b o,b < W.heap.size → w1.frozen? ⟨b,o,none⟩ = W.frozen? ⟨b,o,none⟩) :=
 ⟨fun b o h => hb.cell (p:=⟨b,o,none⟩) h,fun b o h => hb.frozen (p:=⟨b,o,none⟩) h⟩
set_option maxHeartbeats 400000 in
theorem sysIsSet_any (m : Int) (w : World) :
  Calls Tryz.prog 155 #[.int .i64 m] w fun e w' => e = .returned (.bool (isSetB m)) ∧ w = w':=by
 by_cases h0 : 0 ≤ m
 ·by_cases h1 : m ≤ 255
  ·have hs:=Lib.hid (isSetB_t m h0 h1)
   go_enter Tryz.func155,Tryz.ntmps155
   go_wp2
   go_ret
   exact ⟨by rw [hs.out];rfl,rfl⟩
  ·have hs:=Lib.hid (isSetB_f2 m (by omega))
   go_enter Tryz.func155,Tryz.ntmps155
   go_wp2
   go_ret
   exact ⟨by rw [hs.out];rfl,rfl⟩
 ·have hs:=Lib.hid (isSetB_f1 m (by omega))
  go_enter Tryz.func155,Tryz.ntmps155
  go_wp2
  go_ret
  exact ⟨by rw [hs.out];rfl,rfl⟩
def sysE (n t a r s d x : Int) : Int :=
 if qcheck n t a ≠ 0 then 1
 else if isSetB r = false ∨ isSetB s = false ∨ d < 1 ∨ 3 < d ∨ x < -1000000 ∨ 1000000 < x then 1
 else if (d = 3 ∧ x ≠ 0) ∨ (d ≠ 2 ∧ r ≠ 0) then 4 else 0
theorem qcheck_01 (n t a : Int) : qcheck n t a = 0 ∨ qcheck n t a = 1:=by unfold qcheck;split <;> simp
set_option maxHeartbeats 400000 in
theorem sysCheck_q1 (n t a r s d x : Int) (w : World) (hq : qcheck n t a = 1) :
  Calls Tryz.prog 104 #[.agg #[.int .i64 n,.int .i64 t,.int .i64 a,.int .i64 r,.int .i64 s,.int .i64 d,.int .i64 x]] w fun e w' => e = .returned (.int .i64 1) ∧ Below w.heap.size w w':=by
 have Hhq:=Lib.hid hq;clear hq
 go_enter Tryz.func104,Tryz.ntmps104
 go_wp2_with (first | (go_at_call 80;refine (checkQuery_any _ _ _ _).mono ?_;rintro e w1 ⟨rfl,hb⟩;simp only [Hhq.out];obtain ⟨hc,hf⟩:=bcell hb))
 go_ret
 exact ⟨rfl,((Below.refl _ _).alloc (Nat.le_refl _) _).trans (hb.mono (by simp))⟩
set_option maxHeartbeats 400000 in
theorem sysCheck_r0 (n t a r s d x : Int) (w : World) (hq : qcheck n t a = 0) (hr : isSetB r = false) :
  Calls Tryz.prog 104 #[.agg #[.int .i64 n,.int .i64 t,.int .i64 a,.int .i64 r,.int .i64 s,.int .i64 d,.int .i64 x]] w fun e w' => e = .returned (.int .i64 1) ∧ Below w.heap.size w w':=by
 have Hhq:=Lib.hid hq;clear hq
 have Hhr:=Lib.hid hr;clear hr
 go_enter Tryz.func104,Tryz.ntmps104
 go_wp2_with (first | (go_at_call 80;refine (checkQuery_any _ _ _ _).mono ?_;rintro e w1 ⟨rfl,hb⟩;simp only [Hhq.out];obtain ⟨hc,hf⟩:=bcell hb) | (go_at_call 155;refine (sysIsSet_any _ _).mono ?_;rintro e w' ⟨rfl,rfl⟩;first | rw [Hhr.out]))
 go_ret
 exact ⟨rfl,((Below.refl _ _).alloc (Nat.le_refl _) _).trans (hb.mono (by simp))⟩
set_option maxHeartbeats 400000 in
theorem sysCheck_s0 (n t a r s d x : Int) (w : World) (hq : qcheck n t a = 0) (hr : isSetB r = true) (hs : isSetB s = false) :
  Calls Tryz.prog 104 #[.agg #[.int .i64 n,.int .i64 t,.int .i64 a,.int .i64 r,.int .i64 s,.int .i64 d,.int .i64 x]] w fun e w' => e = .returned (.int .i64 1) ∧ Below w.heap.size w w':=by
 have Hhq:=Lib.hid hq;clear hq
 have Hhr:=Lib.hid hr;clear hr
 have Hhs:=Lib.hid hs;clear hs
 go_enter Tryz.func104,Tryz.ntmps104
 go_wp2_with (first | (go_at_call 80;refine (checkQuery_any _ _ _ _).mono ?_;rintro e w1 ⟨rfl,hb⟩;simp only [Hhq.out];obtain ⟨hc,hf⟩:=bcell hb) | (go_at_call 155;refine (sysIsSet_any _ _).mono ?_;rintro e w' ⟨rfl,rfl⟩;first | rw [Hhr.out] | rw [Hhs.out]))
 go_ret
 exact ⟨rfl,((Below.refl _ _).alloc (Nat.le_refl _) _).trans (hb.mono (by simp))⟩
set_option maxHeartbeats 400000 in
theorem sysCheck_d0 (n t a r s d x : Int) (w : World) (hq : qcheck n t a = 0) (hr : isSetB r = true) (hs : isSetB s = true) (hd : d < 1) :
  Calls Tryz.prog 104 #[.agg #[.int .i64 n,.int .i64 t,.int .i64 a,.int .i64 r,.int .i64 s,.int .i64 d,.int .i64 x]] w fun e w' => e = .returned (.int .i64 1) ∧ Below w.heap.size w w':=by
 have Hhq:=Lib.hid hq;clear hq
 have Hhr:=Lib.hid hr;clear hr
 have Hhs:=Lib.hid hs;clear hs
 go_enter Tryz.func104,Tryz.ntmps104
 go_wp2_with (first | (go_at_call 80;refine (checkQuery_any _ _ _ _).mono ?_;rintro e w1 ⟨rfl,hb⟩;simp only [Hhq.out];obtain ⟨hc,hf⟩:=bcell hb) | (go_at_call 155;refine (sysIsSet_any _ _).mono ?_;rintro e w' ⟨rfl,rfl⟩;first | rw [Hhr.out] | rw [Hhs.out]))
 go_ret
 exact ⟨rfl,((Below.refl _ _).alloc (Nat.le_refl _) _).trans (hb.mono (by simp))⟩
set_option maxHeartbeats 400000 in
theorem sysCheck_d4 (n t a r s d x : Int) (w : World) (hq : qcheck n t a = 0) (hr : isSetB r = true) (hs : isSetB s = true) (hd : 3 < d) :
  Calls Tryz.prog 104 #[.agg #[.int .i64 n,.int .i64 t,.int .i64 a,.int .i64 r,.int .i64 s,.int .i64 d,.int .i64 x]] w fun e w' => e = .returned (.int .i64 1) ∧ Below w.heap.size w w':=by
 have Hhq:=Lib.hid hq;clear hq
 have Hhr:=Lib.hid hr;clear hr
 have Hhs:=Lib.hid hs;clear hs
 go_enter Tryz.func104,Tryz.ntmps104
 go_wp2_with (first | (go_at_call 80;refine (checkQuery_any _ _ _ _).mono ?_;rintro e w1 ⟨rfl,hb⟩;simp only [Hhq.out];obtain ⟨hc,hf⟩:=bcell hb) | (go_at_call 155;refine (sysIsSet_any _ _).mono ?_;rintro e w' ⟨rfl,rfl⟩;first | rw [Hhr.out] | rw [Hhs.out]))
 go_ret
 exact ⟨rfl,((Below.refl _ _).alloc (Nat.le_refl _) _).trans (hb.mono (by simp))⟩
set_option maxHeartbeats 400000 in
theorem sysCheck_x0 (n t a r s d x : Int) (w : World) (hq : qcheck n t a = 0) (hr : isSetB r = true) (hs : isSetB s = true) (hd : 1 ≤ d) (hd2 : d ≤ 3) (hx : x < -1000000) :
  Calls Tryz.prog 104 #[.agg #[.int .i64 n,.int .i64 t,.int .i64 a,.int .i64 r,.int .i64 s,.int .i64 d,.int .i64 x]] w fun e w' => e = .returned (.int .i64 1) ∧ Below w.heap.size w w':=by
 have Hhq:=Lib.hid hq;clear hq
 have Hhr:=Lib.hid hr;clear hr
 have Hhs:=Lib.hid hs;clear hs
 go_enter Tryz.func104,Tryz.ntmps104
 go_wp2_with (first | (go_at_call 80;refine (checkQuery_any _ _ _ _).mono ?_;rintro e w1 ⟨rfl,hb⟩;simp only [Hhq.out];obtain ⟨hc,hf⟩:=bcell hb) | (go_at_call 155;refine (sysIsSet_any _ _).mono ?_;rintro e w' ⟨rfl,rfl⟩;first | rw [Hhr.out] | rw [Hhs.out]))
 go_ret
 exact ⟨rfl,((Below.refl _ _).alloc (Nat.le_refl _) _).trans (hb.mono (by simp))⟩
set_option maxHeartbeats 400000 in
theorem sysCheck_x1 (n t a r s d x : Int) (w : World) (hq : qcheck n t a = 0) (hr : isSetB r = true) (hs : isSetB s = true) (hd : 1 ≤ d) (hd2 : d ≤ 3) (hx : 1000000 < x) :
  Calls Tryz.prog 104 #[.agg #[.int .i64 n,.int .i64 t,.int .i64 a,.int .i64 r,.int .i64 s,.int .i64 d,.int .i64 x]] w fun e w' => e = .returned (.int .i64 1) ∧ Below w.heap.size w w':=by
 have Hhq:=Lib.hid hq;clear hq
 have Hhr:=Lib.hid hr;clear hr
 have Hhs:=Lib.hid hs;clear hs
 go_enter Tryz.func104,Tryz.ntmps104
 go_wp2_with (first | (go_at_call 80;refine (checkQuery_any _ _ _ _).mono ?_;rintro e w1 ⟨rfl,hb⟩;simp only [Hhq.out];obtain ⟨hc,hf⟩:=bcell hb) | (go_at_call 155;refine (sysIsSet_any _ _).mono ?_;rintro e w' ⟨rfl,rfl⟩;first | rw [Hhr.out] | rw [Hhs.out]))
 go_ret
 exact ⟨rfl,((Below.refl _ _).alloc (Nat.le_refl _) _).trans (hb.mono (by simp))⟩
set_option maxHeartbeats 400000 in
theorem sysCheck_e1a (n t a r s x : Int) (w : World) (hq : qcheck n t a = 0) (hr : isSetB r = true) (hs : isSetB s = true) (hx : -1000000 ≤ x) (hx2 : x ≤ 1000000) (hz : (r != 0) = true) :
  Calls Tryz.prog 104 #[.agg #[.int .i64 n,.int .i64 t,.int .i64 a,.int .i64 r,.int .i64 s,.int .i64 1,.int .i64 x]] w fun e w' => e = .returned (.int .i64 4) ∧ Below w.heap.size w w':=by
 have Hhq:=Lib.hid hq;clear hq
 have Hhr:=Lib.hid hr;clear hr
 have Hhs:=Lib.hid hs;clear hs
 go_enter Tryz.func104,Tryz.ntmps104
 go_wp2_with (first | (go_at_call 80;refine (checkQuery_any _ _ _ _).mono ?_;rintro e w1 ⟨rfl,hb⟩;simp only [Hhq.out];obtain ⟨hc,hf⟩:=bcell hb) | (go_at_call 155;refine (sysIsSet_any _ _).mono ?_;rintro e w' ⟨rfl,rfl⟩;first | rw [Hhr.out] | rw [Hhs.out]))
 go_ret
 exact ⟨rfl,((Below.refl _ _).alloc (Nat.le_refl _) _).trans (hb.mono (by simp))⟩
set_option maxHeartbeats 400000 in
theorem sysCheck_e1b (n t a r s x : Int) (w : World) (hq : qcheck n t a = 0) (hr : isSetB r = true) (hs : isSetB s = true) (hx : -1000000 ≤ x) (hx2 : x ≤ 1000000) (hz : (r != 0) = false) :
  Calls Tryz.prog 104 #[.agg #[.int .i64 n,.int .i64 t,.int .i64 a,.int .i64 r,.int .i64 s,.int .i64 1,.int .i64 x]] w fun e w' => e = .returned (.int .i64 0) ∧ Below w.heap.size w w':=by
 have Hhq:=Lib.hid hq;clear hq
 have Hhr:=Lib.hid hr;clear hr
 have Hhs:=Lib.hid hs;clear hs
 go_enter Tryz.func104,Tryz.ntmps104
 go_wp2_with (first | (go_at_call 80;refine (checkQuery_any _ _ _ _).mono ?_;rintro e w1 ⟨rfl,hb⟩;simp only [Hhq.out];obtain ⟨hc,hf⟩:=bcell hb) | (go_at_call 155;refine (sysIsSet_any _ _).mono ?_;rintro e w' ⟨rfl,rfl⟩;first | rw [Hhr.out] | rw [Hhs.out]))
 go_ret
 exact ⟨rfl,((Below.refl _ _).alloc (Nat.le_refl _) _).trans (hb.mono (by simp))⟩
set_option maxHeartbeats 400000 in
theorem sysCheck_e2 (n t a r s x : Int) (w : World) (hq : qcheck n t a = 0) (hr : isSetB r = true) (hs : isSetB s = true) (hx : -1000000 ≤ x) (hx2 : x ≤ 1000000) :
  Calls Tryz.prog 104 #[.agg #[.int .i64 n,.int .i64 t,.int .i64 a,.int .i64 r,.int .i64 s,.int .i64 2,.int .i64 x]] w fun e w' => e = .returned (.int .i64 0) ∧ Below w.heap.size w w':=by
 have Hhq:=Lib.hid hq;clear hq
 have Hhr:=Lib.hid hr;clear hr
 have Hhs:=Lib.hid hs;clear hs
 go_enter Tryz.func104,Tryz.ntmps104
 go_wp2_with (first | (go_at_call 80;refine (checkQuery_any _ _ _ _).mono ?_;rintro e w1 ⟨rfl,hb⟩;simp only [Hhq.out];obtain ⟨hc,hf⟩:=bcell hb) | (go_at_call 155;refine (sysIsSet_any _ _).mono ?_;rintro e w' ⟨rfl,rfl⟩;first | rw [Hhr.out] | rw [Hhs.out]))
 go_ret
 exact ⟨rfl,((Below.refl _ _).alloc (Nat.le_refl _) _).trans (hb.mono (by simp))⟩
set_option maxHeartbeats 400000 in
theorem sysCheck_e3a (n t a r s x : Int) (w : World) (hq : qcheck n t a = 0) (hr : isSetB r = true) (hs : isSetB s = true) (hx : -1000000 ≤ x) (hx2 : x ≤ 1000000) (hy : (x != 0) = true) :
  Calls Tryz.prog 104 #[.agg #[.int .i64 n,.int .i64 t,.int .i64 a,.int .i64 r,.int .i64 s,.int .i64 3,.int .i64 x]] w fun e w' => e = .returned (.int .i64 4) ∧ Below w.heap.size w w':=by
 have Hhq:=Lib.hid hq;clear hq
 have Hhr:=Lib.hid hr;clear hr
 have Hhs:=Lib.hid hs;clear hs
 go_enter Tryz.func104,Tryz.ntmps104
 go_wp2_with (first | (go_at_call 80;refine (checkQuery_any _ _ _ _).mono ?_;rintro e w1 ⟨rfl,hb⟩;simp only [Hhq.out];obtain ⟨hc,hf⟩:=bcell hb) | (go_at_call 155;refine (sysIsSet_any _ _).mono ?_;rintro e w' ⟨rfl,rfl⟩;first | rw [Hhr.out] | rw [Hhs.out]))
 go_ret
 exact ⟨rfl,((Below.refl _ _).alloc (Nat.le_refl _) _).trans (hb.mono (by simp))⟩
set_option maxHeartbeats 400000 in
theorem sysCheck_e3b (n t a r s x : Int) (w : World) (hq : qcheck n t a = 0) (hr : isSetB r = true) (hs : isSetB s = true) (hx : -1000000 ≤ x) (hx2 : x ≤ 1000000) (hy : (x != 0) = false) (hz : (r != 0) = true) :
  Calls Tryz.prog 104 #[.agg #[.int .i64 n,.int .i64 t,.int .i64 a,.int .i64 r,.int .i64 s,.int .i64 3,.int .i64 x]] w fun e w' => e = .returned (.int .i64 4) ∧ Below w.heap.size w w':=by
 have Hhq:=Lib.hid hq;clear hq
 have Hhr:=Lib.hid hr;clear hr
 have Hhs:=Lib.hid hs;clear hs
 go_enter Tryz.func104,Tryz.ntmps104
 go_wp2_with (first | (go_at_call 80;refine (checkQuery_any _ _ _ _).mono ?_;rintro e w1 ⟨rfl,hb⟩;simp only [Hhq.out];obtain ⟨hc,hf⟩:=bcell hb) | (go_at_call 155;refine (sysIsSet_any _ _).mono ?_;rintro e w' ⟨rfl,rfl⟩;first | rw [Hhr.out] | rw [Hhs.out]))
 go_ret
 exact ⟨rfl,((Below.refl _ _).alloc (Nat.le_refl _) _).trans (hb.mono (by simp))⟩
set_option maxHeartbeats 400000 in
theorem sysCheck_e3c (n t a r s x : Int) (w : World) (hq : qcheck n t a = 0) (hr : isSetB r = true) (hs : isSetB s = true) (hx : -1000000 ≤ x) (hx2 : x ≤ 1000000) (hy : (x != 0) = false) (hz : (r != 0) = false) :
  Calls Tryz.prog 104 #[.agg #[.int .i64 n,.int .i64 t,.int .i64 a,.int .i64 r,.int .i64 s,.int .i64 3,.int .i64 x]] w fun e w' => e = .returned (.int .i64 0) ∧ Below w.heap.size w w':=by
 have Hhq:=Lib.hid hq;clear hq
 have Hhr:=Lib.hid hr;clear hr
 have Hhs:=Lib.hid hs;clear hs
 go_enter Tryz.func104,Tryz.ntmps104
 go_wp2_with (first | (go_at_call 80;refine (checkQuery_any _ _ _ _).mono ?_;rintro e w1 ⟨rfl,hb⟩;simp only [Hhq.out];obtain ⟨hc,hf⟩:=bcell hb) | (go_at_call 155;refine (sysIsSet_any _ _).mono ?_;rintro e w' ⟨rfl,rfl⟩;first | rw [Hhr.out] | rw [Hhs.out]))
 go_ret
 exact ⟨rfl,((Below.refl _ _).alloc (Nat.le_refl _) _).trans (hb.mono (by simp))⟩
theorem sysCheck_any (n t a r s d x : Int) (w : World) :
  Calls Tryz.prog 104 #[.agg #[.int .i64 n,.int .i64 t,.int .i64 a,.int .i64 r,.int .i64 s,.int .i64 d,.int .i64 x]] w fun e w' => e = .returned (.int .i64 (sysE n t a r s d x)) ∧ Below w.heap.size w w':=by
 rcases qcheck_01 n t a with hq | hq
 ·cases hr : isSetB r with
  | false =>
   have e : sysE n t a r s d x = 1:=by simp [sysE,hq,hr]
   rw [e];exact sysCheck_r0 n t a r s d x w hq hr
  | true =>
   cases hs : isSetB s with
   | false =>
    have e : sysE n t a r s d x = 1:=by simp [sysE,hq,hr,hs]
    rw [e];exact sysCheck_s0 n t a r s d x w hq hr hs
   | true =>
    by_cases h1 : d < 1
    ·have e : sysE n t a r s d x = 1:=by simp [sysE,hq,hr,hs,h1]
     rw [e];exact sysCheck_d0 n t a r s d x w hq hr hs h1
    ·by_cases h2 : 3 < d
     ·have e : sysE n t a r s d x = 1:=by simp [sysE,hq,hr,hs,h2]
      rw [e];exact sysCheck_d4 n t a r s d x w hq hr hs h2
     ·by_cases h3 : x < -1000000
      ·have e : sysE n t a r s d x = 1:=by simp [sysE,hq,hr,hs,h3]
       rw [e];exact sysCheck_x0 n t a r s d x w hq hr hs (by omega) (by omega) h3
      ·by_cases h4 : 1000000 < x
       ·have e : sysE n t a r s d x = 1:=by simp [sysE,hq,hr,hs,h4]
        rw [e];exact sysCheck_x1 n t a r s d x w hq hr hs (by omega) (by omega) h4
       ·have hgo : sysE n t a r s d x = if (d = 3 ∧ x ≠ 0) ∨ (d ≠ 2 ∧ r ≠ 0) then 4 else 0:=by
         unfold sysE
         rw [if_neg (by simp [hq]),if_neg (by rw [hr,hs];simp;omega)]
        rw [hgo]
        have hd : d = 1 ∨ d = 2 ∨ d = 3:=by omega
        rcases hd with rfl | rfl | rfl
        ·by_cases hz : r = 0
         ·rw [if_neg (by simp [hz])];exact sysCheck_e1b n t a r s x w hq hr hs (by omega) (by omega) (by simpa using hz)
         ·rw [if_pos (by simp [hz])];exact sysCheck_e1a n t a r s x w hq hr hs (by omega) (by omega) (by simpa using hz)
        ·rw [if_neg (by simp)];exact sysCheck_e2 n t a r s x w hq hr hs (by omega) (by omega)
        ·by_cases hy : x = 0
         ·by_cases hz : r = 0
          ·rw [if_neg (by simp [hz,hy])];exact sysCheck_e3c n t a r s x w hq hr hs (by omega) (by omega) (by simpa using hy) (by simpa using hz)
          ·rw [if_pos (by simp [hz])];exact sysCheck_e3b n t a r s x w hq hr hs (by omega) (by omega) (by simpa using hy) (by simpa using hz)
         ·rw [if_pos (by simp [hy])];exact sysCheck_e3a n t a r s x w hq hr hs (by omega) (by omega) (by simpa using hy)
 ·have e : sysE n t a r s d x = 1:=by simp [sysE,hq]
  rw [e];exact sysCheck_q1 n t a r s d x w hq
end Go.Proofs.YtfdillpofciicaaGreatDoor
namespace Go.Proofs.YtfdillpofciicaaGreatDoor
open Go Go.RowKit
theorem cutI_mm (z : Int) : cutI z = min (max z (-1000000000)) 1000000000:=by
 unfold cutI
 split
 ·omega
 ·split <;> omega
theorem cut_any (z : Int) (w : World) : Calls Tryz.prog 106 #[.int .i64 z] w fun e w' => e = .returned (.int .i64 (cutI z)) ∧ w = w':=by
 have H:=Lib.hid (cutI_mm z)
 go_enter Tryz.func106,Tryz.ntmps106
 go_wp2
 go_ret
 exact ⟨by rw [H.out];rfl,rfl⟩
def RepBt (w : World) (b : Nat) (K : Int) (l : List Int) : Prop:=w.heap[b]? = some (.cells (Value.int .i64 K :: ints l).toArray 45 (0,0))
theorem RepBt.v {w : World} {b : Nat} {K : Int} {l : List Int} (h : RepBt w b K l) {k : Nat} (hk : k < l.length) : w.cell? ⟨b,1 + k,none⟩ = some (.int .i64 l[k]):=by
 rw [blk_cell h,Nat.add_comm]
 simp [ints,hk]
theorem RepBt.free {w : World} {b : Nat} {K : Int} {l : List Int} (h : RepBt w b K l) (i : Nat) : w.frozen? ⟨b,i,none⟩ = false:=blk_free h i
theorem RepBt.lt {w : World} {b : Nat} {K : Int} {l : List Int} (h : RepBt w b K l) : b < w.heap.size:=blk_lt h
theorem RepBt.set {w : World} {b : Nat} {K : Int} {l : List Int} (h : RepBt w b K l) (k : Nat) (y : Int) : RepBt (w.setCell ⟨b,1 + k,none⟩ (.int .i64 y)) b K (l.set k y):=by
 unfold RepBt
 rw [blk_set h,Nat.add_comm]
 simp [ints,List.map_set]
theorem RepBt.mod {w w' : World} {b : Nat} {K : Int} {l : List Int} {F : List Nat} (h : RepBt w b K l) (hm : Mod F w w') (hd : b ∉ F) : RepBt w' b K l:=hm.keep h hd
end Go.Proofs.YtfdillpofciicaaGreatDoor
namespace Go.Proofs.YtfdillpofciicaaGreatDoor
open Go Go.RowKit
attribute [local go_sem] AllFrom.cons_eq AllFrom.nil_eq putF_nil putF_cons wantedL_none wantedL_some OpGoalT OpGoalV OpGoalQ YieldsR preF_nil preF_cons
section
variable {w : World} {p kn m : Nat} {hs : List Hd} {ls : Nat → List Int} {vh : Value} {cs : List (Nat × Nat)} {Fs : Nat → List Nat}
def AddOk (w : World) (p kn m : Nat) (hs : List Hd) (ls : Nat → List Int) (vh : Value) (cs : List (Nat × Nat)) (Fs : Nat → List Nat) (h : Hd) (x : Nat → Int) (e : Ending) (w' : World) : Prop :=
 e = .returned (.tuple #[.int .i64 (hs.length : Int),.int .i64 0]) ∧ ∃ vh' Fs',TabAt w' p kn (hs ++ [h]) (fun k => ls k ++ [x k]) vh' m cs Fs' ∧ (∀ y ∈ tabF p m vh' cs Fs',y ∈ tabF p m vh cs Fs ∨ w.heap.size ≤ y) ∧ Mod (tabF p m vh cs Fs) w w'
theorem TabAt.head {w' : World} (h : TabAt w p kn hs ls vh m cs Fs) {hs' : List Hd} (hp : FieldPost handleC 47 2 w p 1 (tabCs kn vh m) 219 vh hs' w') :
  ∃ vh',TabAt w' p kn hs' ls vh' m cs Fs ∧ (∀ k,vh'.ownBlock = some k → vh.ownBlock = some k ∨ w.heap.size ≤ k) ∧ Mod (p :: vh.ownBlock.toList) w w':=by
 obtain ⟨⟨vh',hf,hl⟩,hm⟩:=hp
 have hnm : m ∉ p :: vh.ownBlock.toList:=by
  intro hx
  rcases List.mem_cons.1 hx with e | hx
  ·exact h.mp e
  ·exact h.mh m (by simpa using hx) rfl
 refine ⟨vh',⟨hf,h.map.mod hm hnm,h.kinds,⟨(h.cols.mod hm (fun kc hk x hx hy => h.cols.off kc hk x hx (by rcases List.mem_cons.1 hy with e | hy <;> simp [*]))).col,h.cols.apart,?_⟩,h.mp,?_⟩,hl,hm⟩
 ·intro kc hk x hx hy
  have hlt:=(h.cols.col kc hk).lt x hx
  rcases List.mem_cons.1 hy with e | hy
  ·exact h.cols.off kc hk x hx (by simp [e])
  ·rcases List.mem_cons.1 hy with e | hy
   ·exact h.cols.off kc hk x hx (by simp [e])
   ·rcases hl x (by simpa using hy) with h1 | h1
    ·exact h.cols.off kc hk x hx (by simp [h1])
    ·omega
 ·intro k hk
  rcases hl k hk with h1 | h1
  ·exact h.mh k h1
  ·have:=h.map.lt;omega
theorem TabAt.base (h : TabAt w p kn hs ls vh m cs Fs) : ∀ x ∈ p :: m :: vh.ownBlock.toList,x < w.heap.size:=fun x hx => h.lt x (by
 simp only [tabF,List.mem_cons,List.mem_append] at hx ⊢
 rcases hx with h | h | h
 ·exact .inl h
 ·exact .inr (.inl h)
 ·exact .inr (.inr (.inl h)))
set_option maxRecDepth 20000 in
set_option maxHeartbeats 8000000 in
theorem add_ok (h : TabAt w p kn hs ls vh m cs Fs) (s g a0 a1 a2 a3 a4 a5 a6 a7 : Int) (hb : beastE (kn : Int) [a0,a1,a2,a3,a4,a5,a6,a7] = 0) (hl : ∀ kc ∈ cs,(ls kc.1).length = hs.length) (hmx : hs.length < 1200000000000) :
  Calls Tryz.prog 145 #[.pointer (some ⟨p,0,none⟩),.agg #[.int .i64 s,.int .i64 g],.agg #[.int .i64 (kn : Int),.int .i64 a0,.int .i64 a1,.int .i64 a2,.int .i64 a3,.int .i64 a4,.int .i64 a5,.int .i64 a6,.int .i64 a7]] w (AddOk w p kn m hs ls vh cs Fs (s,g) (fun k => valK k ((kn : Int),a0,a1,a2,a3,a4,a5,a6,a7))):=by
 have h1:=fun w => checkBeast_any (kn : Int) a0 a1 a2 a3 a4 a5 a6 a7 w
 rw [hb] at h1
 have H1:=Lib.hid h1
 have H:=Lib.hid h;have HL:=Lib.hid hl;have HLT:=Lib.hid h.lt
 clear h1 hb h hl
 go_enter Tryz.func145,Tryz.ntmps145
 go_wp2_with fail
 refine (H1.out _).mono ?_
 rintro e w1 ⟨rfl,hb1⟩
 have k2:=(Mod.ofBelow hb1).keep (blk_alloc (heap_alloc_new w _) _) (by simp)
 have k3:=(Mod.ofBelow hb1).keep (heap_alloc_new (w.alloc _) _) (by simp)
 have hz1:=hb1.size
 have hB:=(((Below.refl w.heap.size w).alloc (Nat.le_refl _) _).alloc (by simp) _).trans (hb1.mono (by simp;omega))
 simp only [World.size_alloc] at k3 hz1
 have ht:=H.out.mod (Mod.mono (Mod.ofBelow (hB.mono (Nat.le_refl _))) (by simp)) (fun k hk => List.not_mem_nil)
 have d0 : w1.cell? ⟨p,0,none⟩ = some (.int .i64 (kn : Int)):=by rw [blk_cell ht.hd.blk];rfl
 obtain ⟨HB,HT,K3⟩:=hid3 hB ht k3
 have c0:=blk_cell k3 0
 simp only [eA,eZ,eS] at c0
 have lc:=blk_lt k3
 have b0:=blk_cell k2 0
 have b1:=blk_cell k2 1
 simp only [eA,eZ,eS] at b0 b1
 have lb:=blk_lt k2
 clear k2 k3 hb1 H1 hB ht
 go_wp2
 refine wp_planR 7 [2] [some 16,some 17,some 18,some 19,some 20,some 21,some 22] [[],[0],[],[2],[2,3],[2,3,4],[0,1,2,3,4,5]] [0,1,2,3,4,5,6] mixed rfl (by kernel_rfl) (by decide) (by decide) rfl ?_
 iterate 7 apply Exists.intro
 refine ⟨rfl,?_,?_⟩
 ·simp only [tS,List.take_zero,AllFrom.cons_eq,AllFrom.nil_eq,OpGoalQ]
  refine ⟨?_,?_,?_,?_,?_,?_,?_,trivial⟩
  all_goals (intro σ hp;(try simp only [gZ,gS,mC,mN,preF_cons,preF_nil,isV,and_true] at hp);(first | (have hq : True:=hp;clear hq hp) | skip))
  all_goals (go_simp;exact ⟨rfl,rfl⟩)
 intro σ hp
 simp only [gZ,gS,mC,mN,preF_cons,preF_nil,isV,and_true] at hp
 simp only [dS,List.drop_zero]
 go_simp
 clear hp
 refine ⟨rfl,?_⟩
 go_wp2
 refine wp_planR 4 [0] [some 23,some 24,some 25,some 26,some 27] [[],[0],[0,1],[],[0,1,2,3]] [0,1,2,3] mixed rfl (by kernel_rfl) (by decide) (by decide) rfl ?_
 iterate 4 apply Exists.intro
 refine ⟨rfl,?_,?_⟩
 ·simp only [tS,List.take_zero,AllFrom.cons_eq,AllFrom.nil_eq,OpGoalQ]
  refine ⟨?_,?_,?_,?_,trivial⟩
  all_goals (intro σ hp;(try simp only [gZ,gS,mC,mN,preF_cons,preF_nil,isV,and_true] at hp);(first | (have hq : True:=hp;clear hq hp) | skip))
  all_goals (go_simp;exact ⟨rfl,rfl⟩)
 intro σ hp
 simp only [gZ,gS,mC,mN,preF_cons,preF_nil,isV,and_true] at hp
 simp only [dS,List.drop_zero]
 go_simp
 clear hp
 go_wp2_with fail
 have ht2 : TabAt w1.drew.drew p kn hs ls vh m cs Fs:=HT.out.mod (G:=[]) ((Mod.refl _ w1).drew.drew) (by simp)
 refine (hdlAdd_any p 1 _ _ vh hs s g _ ht2.hd (by omega)).mono ?_
 rintro e w3 ⟨rfl,hpost⟩
 obtain ⟨vh',ht3,hloc,hm3⟩:=ht2.head hpost
 have hs3 : w1.heap.size ≤ w3.heap.size:=hm3.size
 have c2 : w3.cell? ⟨p,2,none⟩ = some (.map (some m)):=by rw [blk_cell ht3.hd.blk];rfl
 obtain ⟨o,hrun,hR⟩:=ht3.map.range Tryz.underlying217
 have hbb : (#[.int .i64 (kn : Int),.int .i64 a0,.int .i64 a1,.int .i64 a2,.int .i64 a3,.int .i64 a4,.int .i64 a5,.int .i64 a6,.int .i64 a7] : Array Value) = ((Value.int .i64 (kn : Int) :: ints [a0,a1,a2,a3,a4,a5,a6,a7]).toArray):=rfl
 have hBt : RepBt w3 (w.heap.size + 1) (kn : Int) [a0,a1,a2,a3,a4,a5,a6,a7]:=hm3.keep K3.out (by
  intro hx
  have hx' : w.heap.size + 1 ∈ tabF p m vh cs Fs:=by
   simp only [tabF,List.mem_cons,List.mem_append]
   rcases List.mem_cons.1 hx with e | hx
   ·exact .inl e
   ·exact .inr (.inr (.inl hx))
  have:=HLT.out _ hx';omega)
 obtain ⟨HR,HBt,HT3,HLoc,HM3⟩:=hid5 hR hBt ht3 hloc hm3
 have hpl:=HT3.out.hd.lt
 clear hR hBt hbb ht3 hloc hm3 ht2 hpost d0 c0 lc b0 b1 lb
 go_wp2
 refine ⟨rfl,?_⟩
 go_wp2
 have hW3 : ∃ W3,W3 = w3.alloc o:=⟨_,rfl⟩
 obtain ⟨W3,hW3⟩:=hW3
 rw [← hW3]
 have hsW : W3.heap.size = w3.heap.size + 1:=by rw [hW3];simp
 have hmW : Mod [] w3 W3:=by rw [hW3];exact (Mod.refl _ _).alloc _
 have HR3:=Lib.hid (show RangeAt Tryz.prog 3 W3 m w3.heap.size (cs.map colPr) (cs.map colPr) by rw [hW3];exact HR.out)
 have HTW:=Lib.hid (HT3.out.mod hmW (by simp));have HBW:=Lib.hid (RepBt.mod HBt.out hmW (by simp))
 obtain ⟨HSW,HMW⟩:=hid2 hsW hmW
 have hnew0 : ∀ kd ∈ cs,∀ x ∈ Fs kd.1,x ∈ Fs kd.1 ∨ W3.heap.size ≤ x:=fun _ _ _ h => .inl h
 have HN0:=Lib.hid hnew0
 have HFlt:=Lib.hid (show ∀ kd ∈ cs,∀ x ∈ Fs kd.1,x < w.heap.size from fun kd hd x hx => (H.out.cols.col kd hd).lt x hx)
 have hrlt : w3.heap.size < W3.heap.size:=by omega
 clear hW3 hsW hmW hrun c2 HR hnew0
 generalize hrw : w3.heap.size = r at *
 have HRw:=Lib.hid hrw
 clear hrw
 go_loopw [9] (fun _ wr => ∃ (ts : List (Nat × Nat)) (Fs' : Nat → List Nat),RangeAt Tryz.prog 3 wr m r (cs.map colPr) (ts.map colPr) ∧ (∀ kc ∈ ts,kc ∈ cs) ∧ (ts.map (·.1)).Nodup ∧ ColsAt wr cs (fun k => if k ∈ ts.map (·.1) then ls k else ls k ++ [valK k ((kn : Int),a0,a1,a2,a3,a4,a5,a6,a7)]) Fs' (p :: m :: vh'.ownBlock.toList) ∧
  (∀ kd ∈ cs,∀ x ∈ Fs' kd.1,x ∈ Fs kd.1 ∨ W3.heap.size ≤ x) ∧ Mod (r :: cs.flatMap (fun kc => Fs kc.1)) W3 wr) (fun _ wr => wr.rangeLeft m r)
 case atStart => exact ⟨cs,Fs,HR3.out,fun _ h => h,H.out.nodup,HTW.out.cols.congr (fun kc hk => by rw [if_pos (List.mem_map.2 ⟨kc,hk,rfl⟩)]),HN0.out,Mod.refl _ _⟩
 case round =>
  obtain ⟨ts,Fs',hR,hsub,hnd,hcols,hnew,hmod⟩:=hrel
  have hwr:=hmod.size
  have hbF : ∀ x,w.heap.size ≤ x → x < r → x ∉ r :: cs.flatMap (fun kc => Fs kc.1):=by
   intro x h1 h2 hx
   rcases List.mem_cons.1 hx with e | hx
   ·omega
   ·obtain ⟨kd,hd,hx⟩:=List.mem_flatMap.1 hx
    have:=HFlt.out kd hd x hx;omega
  have hbase:=HTW.out.base
  have hrw:=HRw.out
  have hsz1 : W3.heap.size = r + 1:=HSW.out
  by_cases hts : ts = []
  ·subst hts
   have hov:=fun ty => RangeAt.over (P:=Tryz.prog) (by simpa using hR) ty
   have hpF : p ∉ r :: cs.flatMap (fun kc => Fs kc.1):=by
    intro hx
    rcases List.mem_cons.1 hx with e | hx
    ·have:=hbase p (by simp);omega
    ·obtain ⟨kd,hd,hx⟩:=List.mem_flatMap.1 hx
     exact H.out.cols.off kd hd p hx (by simp)
   have hbaseF : ∀ x ∈ p :: m :: vh'.ownBlock.toList,x ∉ r :: cs.flatMap (fun kc => Fs kc.1):=by
    intro x hxb hx
    rcases List.mem_cons.1 hx with e | hx
    ·subst e
     have:=HT3.out.base x hxb;omega
    ·obtain ⟨kd,hd,hx⟩:=List.mem_flatMap.1 hx
     exact HTW.out.cols.off kd hd x hx hxb
   have hhd:=HTW.out.hd.mod hmod (hbaseF p (by simp)) (fun k hk => hbaseF k (by simp [hk]))
   have hfin : TabAt wr p kn (hs ++ [(s,g)]) (fun k => ls k ++ [valK k ((kn : Int),a0,a1,a2,a3,a4,a5,a6,a7)]) vh' m cs Fs' :=
    ⟨hhd,HTW.out.map.mod hmod (hbaseF m (by simp)),H.out.kinds,hcols.congr (fun kc _ => by simp),HTW.out.mp,HTW.out.mh⟩
   have hturn : ∀ y ∈ tabF p m vh' cs Fs',y ∈ tabF p m vh cs Fs ∨ w.heap.size ≤ y:=by
    intro y hy
    simp only [tabF,List.mem_cons,List.mem_append,List.mem_flatMap] at hy ⊢
    rcases hy with h1 | h1 | h1 | ⟨kd,hd,h1⟩
    ·exact .inl (.inl h1)
    ·exact .inl (.inr (.inl h1))
    ·rcases HLoc.out y (by simpa using h1) with h2 | h2
     ·exact .inl (.inr (.inr (.inl (by simp [h2]))))
     ·right;have : w1.drew.drew.heap.size = w1.heap.size:=rfl;omega
    ·rcases hnew kd hd y h1 with h2 | h2
     ·exact .inl (.inr (.inr (.inr ⟨kd,hd,h2⟩)))
     ·right;omega
   have hmall : Mod (tabF p m vh cs Fs) w wr:=by
    have ha : Mod (tabF p m vh cs Fs) w w1.drew.drew:=((Mod.ofBelow HB.out).mono (by simp)).drew.drew
    have hb : Mod (tabF p m vh cs Fs) w w3:=ha.trans HM3.out (fun x hx => .inl (by
     simp only [tabF,List.mem_cons,List.mem_append] at hx ⊢
     rcases hx with h1 | h1
     ·exact .inl h1
     ·exact .inr (.inr (.inl h1))))
    have hc : Mod (tabF p m vh cs Fs) w W3:=hb.trans HMW.out (by simp)
    refine hc.trans hmod (fun x hx => ?_)
    rcases List.mem_cons.1 hx with e | hx
    ·right;omega
    ·left
     simp only [tabF,List.mem_cons,List.mem_append]
     exact .inr (.inr (.inr hx))
   have hpc:=hhd.cell
   have hrow:=hhd.row
   obtain ⟨A2,cap2,he,-,-⟩:=row_slice hrow
   rw [he] at hpc
   have hll : (hs ++ [(s,g)]).length = hs.length + 1:=by simp
   rw [hll] at hpc
   obtain ⟨HFin,HTurn,HMall⟩:=hid3 hfin hturn hmall
   have hle : hs.length ≤ 1200000000000:=by omega
   clear hrw hsz1 hfin hturn hmall hhd hrow he hll hpF hbaseF hbF hbase hR hsub hnd hcols hnew hmod
   go_wp2
   go_ret2
   exact ⟨rfl,vh',Fs',HFin.out,HTurn.out,HMall.out⟩
  ·obtain ⟨t1,kc,t2,w5,rfl,hnx,hen,hR2,hm5,hs5⟩:=hR.nextC hts
   have hkc : kc ∈ cs:=hsub kc (by simp)
   have hk8 : kc.1 < 8:=by
    have h2 : kc.1 ∈ natKinds kn 8:=by rw [← H.out.kinds];exact List.mem_map.2 ⟨kc,hkc,rfl⟩
    exact natKinds_lt h2
   have hbt5 : RepBt w5 (w.heap.size + 1) (kn : Int) [a0,a1,a2,a3,a4,a5,a6,a7]:=(RepBt.mod HBW.out hmod (hbF _ (by omega) (by omega))).mod hm5 (by simp;omega)
   have hrF : ∀ kd ∈ cs,∀ x ∈ Fs' kd.1,x ≠ r:=by
    intro kd hd x hx
    rcases hnew kd hd x hx with h1 | h1
    ·have:=HFlt.out kd hd x h1;omega
    ·omega
   have hcols5:=hcols.mod hm5 (fun kd hd x hx => by simpa using hrF kd hd x hx)
   obtain ⟨v,hf,hF⟩:=hcols5.col kc hkc
   have hlen:=HL.out kc hkc
   have hin : kc.1 ∈ (t1 ++ kc :: t2).map (·.1):=by simp
   rw [if_pos hin] at hf
   have cv:=RepBt.v hbt5 (k:=kc.1) (by simpa using hk8)
   have hxv : valK kc.1 ((kn : Int),a0,a1,a2,a3,a4,a5,a6,a7) = [a0,a1,a2,a3,a4,a5,a6,a7][kc.1]'(by simpa using hk8):=by
    unfold valK btI
    rw [List.getD_cons_succ,List.getD_eq_getElem?_getD,List.getElem?_eq_getElem (by simpa using hk8)];rfl
   rw [← hxv] at cv
   have hcall:=colAdd_any kc.2 0 #[v] 222 v (ls kc.1) (valK kc.1 ((kn : Int),a0,a1,a2,a3,a4,a5,a6,a7)) w5 hf (by omega)
   have hk8i : (kc.1 : Int) < 8:=by omega
   have hfin : ∀ w6,FieldPost intC 3 1 w5 kc.2 0 #[v] 222 v (ls kc.1 ++ [valK kc.1 ((kn : Int),a0,a1,a2,a3,a4,a5,a6,a7)]) w6 →
     (∃ (ts : List (Nat × Nat)) (Fs' : Nat → List Nat),RangeAt Tryz.prog 3 w6 m r (cs.map colPr) (ts.map colPr) ∧ (∀ kc ∈ ts,kc ∈ cs) ∧ (ts.map (·.1)).Nodup ∧ ColsAt w6 cs (fun k => if k ∈ ts.map (·.1) then ls k else ls k ++ [valK k ((kn : Int),a0,a1,a2,a3,a4,a5,a6,a7)]) Fs' (p :: m :: vh'.ownBlock.toList) ∧
      (∀ kd ∈ cs,∀ x ∈ Fs' kd.1,x ∈ Fs kd.1 ∨ W3.heap.size ≤ x) ∧ Mod (r :: cs.flatMap (fun kc => Fs kc.1)) W3 w6) ∧ w6.rangeLeft m r < wr.rangeLeft m r:=by
    intro w6 hp6
    obtain ⟨Fs2,hc6,hn6,hm6⟩:=hcols5.step H.out.nodup (fun x hx => by have:=hbase x hx;omega) hkc hF hp6
    have hR6:=hR2.mod hm6 (fun hx => hcols.off kc hkc m hx (by simp)) (fun hx => hrF kc hkc r hx rfl)
    refine ⟨⟨t1 ++ t2,Fs2,hR6,fun kd hd => hsub kd (by rcases List.mem_append.1 hd with h | h <;> simp [h]),List.Nodup.sublist (List.Sublist.map _ (List.Sublist.append_left (List.sublist_cons_self _ _) _)) hnd,hc6.congr ?_,?_,?_⟩,by rw [hR6.left_eq,hR.left_eq];simp⟩
    ·intro kd hd
     rw [List.map_append,List.map_cons] at hnd
     have hnd2:=List.nodup_append.1 hnd
     by_cases e : kd.1 = kc.1
     ·rw [e,updL_same,if_neg]
      rw [List.map_append,List.mem_append]
      rintro (hm | hm)
      ·exact hnd2.2.2 _ hm _ (by simp) rfl
      ·exact (List.nodup_cons.1 hnd2.2.1).1 hm
     ·rw [updL_ne _ _ e]
      have : kd.1 ∈ (t1 ++ kc :: t2).map (·.1) ↔ kd.1 ∈ (t1 ++ t2).map (·.1):=by
       simp only [List.map_append,mC,List.mem_append,List.mem_cons]
       constructor
       ·rintro (hm | hm | hm)
        ·exact .inl hm
        ·exact absurd hm e
        ·exact .inr hm
       ·rintro (hm | hm)
        ·exact .inl hm
        ·exact .inr (.inr hm)
      simp only [this]
    ·intro kd hd x hx
     rcases hn6 kd hd x hx with h1 | h1
     ·exact hnew kd hd x h1
     ·right;omega
    ·refine (hmod.trans hm5 (fun x hx => .inl (by simp at hx;simp [hx]))).trans hm6 (fun x hx => ?_)
     rcases hnew kc hkc x hx with h1 | h1
     ·exact .inl (List.mem_cons_of_mem _ (List.mem_flatMap.2 ⟨kc,hkc,h1⟩))
     ·exact .inr h1
   obtain ⟨HCall,HFin⟩:=hid2 hcall hfin
   have hbl5:=RepBt.lt hbt5
   obtain ⟨k,c⟩:=kc
   clear hrw hsz1 hfin hcall hxv hin hlen hf hF hcols5 hrF hbt5 hR2 hm5 hs5 hts hmod hnew hcols hnd hsub hR hk8 hkc hbF hbase
   simp only at hnx hen cv hk8i
   go_wp2_with fail
   refine HCall.out.mono ?_
   rintro e w6 ⟨rfl,hp6⟩
   have HF6:=Lib.hid (HFin.out w6 hp6)
   clear hp6 HFin
   go_wp2
   exact HF6.out
end
end Go.Proofs.YtfdillpofciicaaGreatDoor
