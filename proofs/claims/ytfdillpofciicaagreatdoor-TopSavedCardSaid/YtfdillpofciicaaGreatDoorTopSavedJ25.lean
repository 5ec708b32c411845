import Derived.Test.YtfdillpofciicaaGreatDoorTopSavedJ24
set_option linter.unusedVariables false
set_option linter.unusedSimpArgs false
/- A part of the proof that TopSaved returns true. -/
namespace Go.Proofs.YtfdillpofciicaaGreatDoor
open Go Go.RowKit
attribute [local go_sem] AllFrom.cons_eq AllFrom.nil_eq putF_nil putF_cons wantedL_none wantedL_some OpGoalT OpGoalV OpGoalQ OpGoalA OpGoalK YieldsR preF_nil preF_cons
section
variable {q : Nat} {sl sl' : Sl} {L L' : List Rw} {B B' : List Bd} {w w' : World} {F G : List Nat}
end
section
variable {m1 m2 m3 : Nat} {w0 V V' : World} {l : List Hd} {x : Hd} {L : Nat → Bool} {σ : Nat → Value}
end
section
variable {q : Nat} {sl sl' : Sl} {L L' : List Rw} {B B' : List Bd} {w w' : World} {F G : List Nat}
end
end Go.Proofs.YtfdillpofciicaaGreatDoor
namespace Go.Proofs.YtfdillpofciicaaGreatDoor
open Go Go.RowKit
def GoneS (sl : Sl) (x : Hd) : Prop:=∃ k : Nat,x.1 = (k : Int) ∧ ∃ y,sl[k]? = some y ∧ x.2 < y.1
def Told (sl : Sl) (x : Hd) : Prop:=x ∈ allS sl ∨ GoneS sl x
structure DoPl (sl : Sl) (d : Int) (sl' : Sl) (r0 r1 e : Int) : Prop where
 hr : HdR (r0,r1)
 told : ∀ x,Told sl x → Told sl' x
 gone : ∀ x,GoneS sl x → GoneS sl' x
 sub : ∀ x ∈ allS sl',x ∈ allS sl ∨ (d = 1 ∧ e = 0 ∧ x = (r0,r1))
 new : d = 1 → e = 0 → (r0,r1) ∈ allS sl' ∧ ¬ Told sl (r0,r1)
theorem inR_small {z : Int} (h : 0 ≤ z) (h2 : z ≤ 1000000) : InR z:=by unfold InR;omega
theorem hdR_zero : HdR (0,0):=⟨inR_small (by omega) (by omega),inR_small (by omega) (by omega)⟩
theorem doPl_same {sl : Sl} {d e : Int} (h : d = 1 → e ≠ 0) : DoPl sl d sl 0 0 e:=⟨hdR_zero,fun _ h => h,fun _ h => h,fun _ h => .inl h,fun h1 h2 => absurd h2 (h h1)⟩
theorem gone_free {sl : Sl} {x : Hd} (h : GoneS sl x) (s g : Int) : GoneS (freeL sl s g) x:=by
 obtain ⟨k,hk,y,hy,hlt⟩:=h
 have e : (freeL sl s g)[k]? = some (if (s = (k : Int) ∧ y.2 = true ∧ y.1 = g) then (g + 1,false) else y):=by rw [free_get,hy];rfl
 refine ⟨k,hk,_,e,?_⟩
 split
 ·next hc => simp only;omega
 ·exact hlt
theorem told_free {sl : Sl} {x : Hd} (h : Told sl x) (s g : Int) : Told (freeL sl s g) x:=by
 rcases h with h | h
 ·by_cases he : x = (s,g)
  ·subst he
   right
   obtain ⟨j,h1,hj,h2,h3⟩:=(mem_allFrom sl 0 s g).1 h
   have e : (freeL sl s g)[j]? = some (g + 1,false):=by
    rw [free_get,List.getElem?_eq_getElem hj,Option.map_some,if_pos ⟨by omega,h2,h3⟩]
   exact ⟨j,by simp only;omega,_,e,by simp only;omega⟩
  ·exact .inl (mem_free.2 ⟨h,he⟩)
 ·exact .inr (gone_free h s g)
theorem doPl_kills : ∀ {sl : Sl} {L : List Rw} {B : List Bd} (l : List Hd) {d e : Int},d ≠ 1 → DoPl sl d (killsZ (sl,L,B) l).1 0 0 e
 | _,_,_,[],_,_,h => doPl_same (fun h1 => absurd h1 h)
 | sl,L,B,x :: l,d,e,h => by
  have ih : DoPl (freeL sl x.1 x.2) d (killsZ (freeL sl x.1 x.2,killL L x,goneB B x) l).1 0 0 e:=doPl_kills l h
  exact ⟨hdR_zero,fun y hy => ih.told y (told_free hy _ _),fun y hy => ih.gone y (gone_free hy _ _),fun y hy => (ih.sub y hy).imp (fun h => (mem_free.1 h).1) id,fun h1 => absurd h1 h⟩
theorem mem_insH {l : List Hd} {x y : Hd} : y ∈ insH l x ↔ y ∈ l ∨ y = x:=by
 have h0:=List.takeWhile_append_dropWhile (p:=fun y : Hd => decide (y.1 < x.1)) (l:=l)
 unfold insH
 rw [List.mem_append,List.mem_cons]
 conv => rhs;rw [← h0,List.mem_append]
 constructor
 ·rintro (h | h | h)
  ·exact .inl (.inl h)
  ·exact .inr h
  ·exact .inl (.inr h)
 ·rintro ((h | h) | h)
  ·exact .inl h
  ·exact .inr (.inr h)
  ·exact .inr (.inl h)
theorem take_get {sl : Sl} {k : Nat} {y : Int × Bool} (h : sl[k]? = some y) : ∃ b,(takeL sl)[k]? = some (y.1,b):=by
 unfold takeL
 cases hf : sl.findIdx? freeB with
 | some j =>
  simp only
  rw [List.getElem?_set]
  split
  ·next e =>
   subst e
   rw [List.getD_eq_getElem?_getD,h]
   obtain ⟨hl,-⟩:=List.getElem?_eq_some_iff.1 h
   rw [if_pos hl]
   exact ⟨true,rfl⟩
  ·exact ⟨y.2,h⟩
 | none =>
  simp only
  split
  ·exact ⟨y.2,h⟩
  ·obtain ⟨hl,-⟩:=List.getElem?_eq_some_iff.1 h
   rw [List.getElem?_append_left hl]
   exact ⟨y.2,h⟩
theorem gone_take {sl : Sl} {x : Hd} (h : GoneS sl x) : GoneS (takeL sl) x:=by
 obtain ⟨k,hk,y,hy,hlt⟩:=h
 obtain ⟨b,hb⟩:=take_get hy
 exact ⟨k,hk,_,hb,hlt⟩
theorem take_not_gone {sl : Sl} (he : takeE sl = 0) : ¬ GoneS sl (takeK sl,takeG sl):=by
 rintro ⟨k,hk,y,hy,hlt⟩
 simp only at hk hlt
 unfold takeE at he
 unfold takeK at hk
 unfold takeG at hlt
 cases hf : sl.findIdx? freeB with
 | some j =>
  rw [hf] at hk hlt
  simp only at hk hlt
  have : j = k:=by omega
  subst this
  rw [List.getD_eq_getElem?_getD,hy] at hlt
  simp at hlt
 | none =>
  rw [hf] at hk hlt he
  simp only at hk hlt he
  by_cases h60 : sl.length = 60
  ·rw [if_pos h60] at he;omega
  ·rw [if_neg h60] at hk
   obtain ⟨hl,-⟩:=List.getElem?_eq_some_iff.1 hy
   omega
theorem take_sat {sl : Sl} (he : takeE sl ≠ 0) : takeL sl = sl ∧ takeK sl = 0 ∧ takeG sl = 0:=by
 unfold takeE at he
 unfold takeL takeK takeG
 cases hf : sl.findIdx? freeB with
 | some k => rw [hf] at he;exact absurd rfl he
 | none =>
  rw [hf] at he
  simp only at he ⊢
  by_cases h60 : sl.length = 60
  ·simp [h60]
  ·rw [if_neg h60] at he;exact absurd rfl he
theorem doPl_spawn {sl : Sl} (hok : SlOk sl) (b : Bt) : DoPl sl 1 (spawnS sl b) (spawnH sl b).1 (spawnH sl b).2 (spawnE sl b):=by
 unfold spawnS spawnH spawnE
 by_cases hb : beastZ b ≠ 0
 ·rw [if_pos hb,if_pos hb,if_pos hb]
  exact doPl_same (fun _ => hb)
 ·rw [if_neg hb,if_neg hb,if_neg hb]
  by_cases he : takeE sl = 0
  ·obtain ⟨k,hk,hK,hne,ha⟩:=take_spec hok he
   have hmem : (takeK sl,takeG sl) ∈ allS (takeL sl):=by rw [ha,hK];exact mem_insH.2 (.inr rfl)
   have hg : 0 ≤ takeG sl ∧ takeG sl ≤ 1000000:=by
    unfold takeG
    cases hf : sl.findIdx? freeB with
    | some j =>
     obtain ⟨hj,-⟩:=fi_lt hf
     simp only
     rw [List.getD_eq_getElem?_getD,List.getElem?_eq_getElem hj]
     have:=hok.at_ hj
     exact ⟨this.1,this.2.1⟩
    | none => simp
   refine ⟨⟨inR_small (by simp only;omega) (by simp only;omega),inR_small hg.1 hg.2⟩,fun x hx => ?_,fun x hx => gone_take hx,fun x hx => ?_,fun _ _ => ⟨hmem,fun h => ?_⟩⟩
   ·rcases hx with hx | hx
    ·exact .inl (by rw [ha];exact mem_insH.2 (.inl hx))
    ·exact .inr (gone_take hx)
   ·rw [ha] at hx
    rcases mem_insH.1 hx with h | h
    ·exact .inl h
    ·exact .inr ⟨rfl,he,by rw [h,hK]⟩
   ·rcases h with h | h
    ·exact hne _ h (by simp only;omega)
    ·exact take_not_gone he h
  ·have e2:=take_sat he
   rw [e2.1,e2.2.1,e2.2.2]
   exact doPl_same (fun _ => he)
section
variable {sl : Sl} {L : List Rw} {B : List Bd}
theorem not_putBad {k n : Int} (h : ¬ putBad k n) : (0 ≤ k ∧ k ≤ 7) ∧ ¬ (n < -1000000000 ∨ 1000000000 < n):=by
 unfold putBad at h
 exact ⟨by omega,fun h2 => h (.inr h2)⟩
theorem WOk.putA (h : WOk sl L) (x : Hd) (k n : Int) : WOk sl (putW L x k n):=by
 unfold putW
 cases hi : idxL L x with
 | none => exact h
 | some i =>
  simp only
  by_cases hb : putBad k n
  ·rw [if_pos hb];exact h
  ·rw [if_neg hb]
   obtain ⟨hl,-⟩:=idx_some hi
   obtain ⟨h1,h2⟩:=not_putBad hb
   rw [modify_set hl]
   exact h.set hl rfl (putR_ok (h.be _ (List.getElem_mem hl)) (by omega) h2)
theorem WOk.dropA (h : WOk sl L) (x : Hd) (k : Int) : WOk sl (dropL L x k):=by
 unfold dropL
 cases hi : idxL L x with
 | none => exact h
 | some i =>
  simp only
  by_cases hb : dropE L x k = 0
  ·rw [if_pos hb]
   obtain ⟨hl,-⟩:=idx_some hi
   unfold dropE at hb
   rw [hi] at hb
   simp only at hb
   by_cases hk : k < 0 ∨ 7 < k
   ·rw [if_pos hk] at hb;cases hb
   ·rw [if_neg hk] at hb
    by_cases hh : hasK (L.getD i zeroR).2.1 k.toNat = true
    ·rw [modify_set hl]
     rw [List.getD_eq_getElem?_getD,List.getElem?_eq_getElem hl] at hh
     exact h.set hl rfl (dropR_ok (h.be _ (List.getElem_mem hl)) (by omega) hh)
    ·rw [if_neg hh] at hb;cases hb
  ·rw [if_neg hb];exact h
theorem WOk.spawnA (h : WOk sl L) (b : Bt) : WOk (spawnS sl b) (spawnL sl L b):=by
 unfold spawnS spawnL spawnE
 by_cases hb : beastZ b ≠ 0
 ·rw [if_pos hb,if_pos hb,if_neg hb];exact h
 ·rw [if_neg hb,if_neg hb]
  by_cases he : takeE sl = 0
  ·rw [if_pos he];exact h.spawn he (Classical.not_not.1 hb)
  ·rw [if_neg he,(take_sat he).1];exact h
end
end Go.Proofs.YtfdillpofciicaaGreatDoor
namespace Go.Proofs.YtfdillpofciicaaGreatDoor
open Go.RowKit
def badN (x : Int) : Bool:=decide (x < 0) || decide (1000000 < x)
def badK (n : Nat) (x : Int) : Bool:=decide (x < 0) || decide ((n : Int) ≤ x)
def anyP (p : Int → Bool) (l : List Int) : Bool:=(l.findIdx? p).isSome
theorem badN_lo {x : Int} (h : x < 0) : badN x = true:=by simp [badN,h]
theorem badN_hi {x : Int} (h : 1000000 < x) : badN x = true:=by simp [badN,h]
theorem badN_in {x : Int} (h : 0 ≤ x) (h' : x ≤ 1000000) : badN x = false:=by simp [badN];omega
theorem badK_lo {n : Nat} {x : Int} (h : x < 0) : badK n x = true:=by simp [badK,h]
theorem badK_hi {n : Nat} {x : Int} (h : (n : Int) ≤ x) : badK n x = true:=by simp [badK,h]
theorem badK_in {n : Nat} {x : Int} (h : 0 ≤ x) (h' : x < n) : badK n x = false:=by simp [badK];omega
theorem load1_any (x : Int) (w : World) : Calls Tryz.prog 141 #[.int .i64 x] w fun e w' => e = .returned (.bool (badN x)) ∧ w = w':=by
 by_cases h0 : x < 0
 ·have H:=Lib.hid (badN_lo h0)
  go_enter Tryz.func141,Tryz.ntmps141
  go_wp2
  go_ret
  exact ⟨by rw [H.out];rfl,rfl⟩
 ·by_cases h1 : 1000000 < x
  ·have H:=Lib.hid (badN_hi h1)
   go_enter Tryz.func141,Tryz.ntmps141
   go_wp2
   go_ret
   exact ⟨by rw [H.out];rfl,rfl⟩
  ·have H:=Lib.hid (badN_in (x:=x) (by omega) (by omega))
   go_enter Tryz.func141,Tryz.ntmps141
   go_wp2
   go_ret
   exact ⟨by rw [H.out];rfl,rfl⟩
theorem load2_any (x : Int) (b : Nat) (A : Option Addr) (n c : Nat) (w : World) (hb : w.cell? ⟨b,0,none⟩ = some (.slice A n c)) (hn : n ≤ 9223372036854775807) :
  Calls Tryz.prog 142 #[.int .i64 x,.pointer (some ⟨b,0,none⟩)] w fun e w' => e = .returned (.bool (badK n x)) ∧ w = w':=by
 by_cases h0 : x < 0
 ·have H:=Lib.hid (badK_lo (n:=n) h0)
  go_enter Tryz.func142,Tryz.ntmps142
  go_wp2
  go_ret
  exact ⟨by rw [H.out];rfl,rfl⟩
 ·by_cases h1 : (n : Int) ≤ x
  ·have H:=Lib.hid (badK_hi h1)
   go_enter Tryz.func142,Tryz.ntmps142
   go_wp2
   go_ret
   exact ⟨by rw [H.out];rfl,rfl⟩
  ·have H:=Lib.hid (badK_in (n:=n) (x:=x) (by omega) (by omega))
   go_enter Tryz.func142,Tryz.ntmps142
   go_wp2
   go_ret
   exact ⟨by rw [H.out];rfl,rfl⟩
theorem anyP_cases (p : Int → Bool) (l : List Int) : (anyP p l = true ∧ ∃ k : Nat,firstI p l = k) ∨ (anyP p l = false ∧ firstI p l = -1):=by
 unfold anyP firstI
 cases h : l.findIdx? p with
 | some k => exact .inl ⟨rfl,k,rfl⟩
 | none => exact .inr ⟨rfl,rfl⟩
theorem anyP_false {p : Int → Bool} {l : List Int} (h : anyP p l = false) {k : Nat} (hk : k < l.length) : p l[k] = false:=by
 unfold anyP at h
 rw [Option.isSome_eq_false_iff,Option.isNone_iff_eq_none,List.findIdx?_eq_none_iff] at h
 exact h _ (List.getElem_mem hk)
theorem anyP_none {p : Int → Bool} {l : List Int} (h : ∀ k (hk : k < l.length),p l[k] = false) : anyP p l = false:=by
 unfold anyP
 rw [fi_none h];rfl
set_option maxHeartbeats 1000000 in
theorem indexN_any (A : Option Addr) (c : Nat) (l : List Int) (B : Nat) (w : World) (hl : l.length ≤ 9223372036854775807) (hA : Lies w B A (ints l)) :
  Calls Tryz.prog 193 #[.slice A l.length c,.func (.func 141) #[] #[]] w fun e w' => e = .returned (.int .i64 (firstI badN l)) ∧ w = w':=by
 go_enter Tryz.func193,Tryz.ntmps193
 go_wp2
 go_loop [8] (fun i => ∃ k : Nat,k ≤ l.length ∧ i = .int .i64 k ∧ (∀ j (h : j < k) (h' : j < l.length),badN l[j] = false)) (fun i => l.length - (Go.RowKit.intOf i).toNat)
 case atStart => exact ⟨0,by omega,rfl,fun j h => by omega⟩
 case round =>
  obtain ⟨k,hk,rfl,hno⟩:=hrel
  by_cases hlt : k < l.length
  ·obtain ⟨a,rfl,hb,hc⟩:=hA.int hlt
   have hyes : badN l[k] = true → firstI badN l = k:=fun h => firstI_some (fi_some hlt h fun j hj => hno j hj (by omega))
   have hno2 : badN l[k] = false → ∀ j (h : j < k + 1) (h' : j < l.length),badN l[j] = false:=by
    intro hf j h h'
    by_cases e : j = k
    ·subst e;exact hf
    ·exact hno j (by omega) h'
   have ht:=load1_any l[k] w
   generalize hf : badN l[k] = r at *
   generalize l[k] = x at *
   obtain ⟨Hno2,Hyes,Ht⟩:=hid3 hno2 hyes ht
   clear hno hno2 hyes ht hf hA
   cases r with
   | true =>
    have H:=Lib.hid (Hyes.out rfl)
    go_wp2_with (go_at_call 141;refine (Ht.out).mono ?_;rintro e w1 ⟨rfl,rfl⟩)
    go_ret
    exact ⟨by rw [H.out];rfl,rfl⟩
   | false =>
    go_wp2_with (go_at_call 141;refine (Ht.out).mono ?_;rintro e w1 ⟨rfl,rfl⟩)
    go_round
    case rel => exact ⟨k + 1,by omega,by go_num,Hno2.out trivial⟩
    case measure => simp [Go.RowKit.intOf];omega
  ·have hf : firstI badN l = -1:=firstI_none (fi_none fun j hj => hno j (by omega) hj)
   have H:=Lib.hid hf
   clear hf hno
   go_wp2
   go_ret
   exact ⟨by rw [H.out];rfl,rfl⟩
theorem containsN_any (A : Option Addr) (c : Nat) (l : List Int) (B : Nat) (w : World) (hl : l.length ≤ 9223372036854775807) (hA : Lies w B A (ints l)) :
  Calls Tryz.prog 140 #[.slice A l.length c,.func (.func 141) #[] #[]] w fun e w' => e = .returned (.bool (anyP badN l)) ∧ w = w':=by
 have hi:=indexN_any A c l B w hl hA
 rcases anyP_cases badN l with ⟨h1,k,h2⟩ | ⟨h1,h2⟩
 ·rw [h2] at hi
  obtain ⟨Hi,H⟩:=hid2 hi h1
  have hp : decide ((0 : Int) ≤ (k : Int)) = true:=by simp
  clear hi hA h1 h2
  go_enter Tryz.func140,Tryz.ntmps140
  go_wp2_with fail
  refine (Hi.out).mono ?_
  rintro e w1 ⟨rfl,rfl⟩
  go_wp2
  go_ret
  exact ⟨by rw [H.out];rfl,rfl⟩
 ·rw [h2] at hi
  obtain ⟨Hi,H⟩:=hid2 hi h1
  clear hi hA h1 h2
  go_enter Tryz.func140,Tryz.ntmps140
  go_wp2_with fail
  refine (Hi.out).mono ?_
  rintro e w1 ⟨rfl,rfl⟩
  go_wp2
  go_ret
  exact ⟨by rw [H.out];rfl,rfl⟩
set_option maxHeartbeats 1000000 in
theorem indexK_any (b : Nat) (A1 : Option Addr) (n c1 : Nat) (A : Option Addr) (c : Nat) (l : List Int) (B : Nat) (w : World) (hl : l.length ≤ 9223372036854775807) (hA : Lies w B A (ints l)) (hbx : w.cell? ⟨b,0,none⟩ = some (.slice A1 n c1)) (hn : n ≤ 9223372036854775807) :
  Calls Tryz.prog 193 #[.slice A l.length c,.func (.func 142) #[] #[.pointer (some ⟨b,0,none⟩)]] w fun e w' => e = .returned (.int .i64 (firstI (badK n) l)) ∧ w = w':=by
 go_enter Tryz.func193,Tryz.ntmps193
 go_wp2
 go_loop [8] (fun i => ∃ k : Nat,k ≤ l.length ∧ i = .int .i64 k ∧ (∀ j (h : j < k) (h' : j < l.length),(badK n) l[j] = false)) (fun i => l.length - (Go.RowKit.intOf i).toNat)
 case atStart => exact ⟨0,by omega,rfl,fun j h => by omega⟩
 case round =>
  obtain ⟨k,hk,rfl,hno⟩:=hrel
  by_cases hlt : k < l.length
  ·obtain ⟨a,rfl,hb,hc⟩:=hA.int hlt
   have hyes : (badK n) l[k] = true → firstI (badK n) l = k:=fun h => firstI_some (fi_some hlt h fun j hj => hno j hj (by omega))
   have hno2 : (badK n) l[k] = false → ∀ j (h : j < k + 1) (h' : j < l.length),(badK n) l[j] = false:=by
    intro hf j h h'
    by_cases e : j = k
    ·subst e;exact hf
    ·exact hno j (by omega) h'
   have ht:=load2_any l[k] b A1 n c1 w hbx hn
   generalize hf : (badK n) l[k] = r at *
   generalize l[k] = x at *
   obtain ⟨Hno2,Hyes,Ht⟩:=hid3 hno2 hyes ht
   clear hno hno2 hyes ht hf hA
   cases r with
   | true =>
    have H:=Lib.hid (Hyes.out rfl)
    go_wp2_with (go_at_call 142;refine (Ht.out).mono ?_;rintro e w1 ⟨rfl,rfl⟩)
    go_ret
    exact ⟨by rw [H.out];rfl,rfl⟩
   | false =>
    go_wp2_with (go_at_call 142;refine (Ht.out).mono ?_;rintro e w1 ⟨rfl,rfl⟩)
    go_round
    case rel => exact ⟨k + 1,by omega,by go_num,Hno2.out trivial⟩
    case measure => simp [Go.RowKit.intOf];omega
  ·have hf : firstI (badK n) l = -1:=firstI_none (fi_none fun j hj => hno j (by omega) hj)
   have H:=Lib.hid hf
   clear hf hno
   go_wp2
   go_ret
   exact ⟨by rw [H.out];rfl,rfl⟩
theorem containsK_any (b : Nat) (A1 : Option Addr) (n c1 : Nat) (A : Option Addr) (c : Nat) (l : List Int) (B : Nat) (w : World) (hl : l.length ≤ 9223372036854775807) (hA : Lies w B A (ints l)) (hbx : w.cell? ⟨b,0,none⟩ = some (.slice A1 n c1)) (hn : n ≤ 9223372036854775807) :
  Calls Tryz.prog 140 #[.slice A l.length c,.func (.func 142) #[] #[.pointer (some ⟨b,0,none⟩)]] w fun e w' => e = .returned (.bool (anyP (badK n) l)) ∧ w = w':=by
 have hi:=indexK_any b A1 n c1 A c l B w hl hA hbx hn
 rcases anyP_cases (badK n) l with ⟨h1,k,h2⟩ | ⟨h1,h2⟩
 ·rw [h2] at hi
  obtain ⟨Hi,H⟩:=hid2 hi h1
  have hp : decide ((0 : Int) ≤ (k : Int)) = true:=by simp
  clear hi hA h1 h2
  go_enter Tryz.func140,Tryz.ntmps140
  go_wp2_with fail
  refine (Hi.out).mono ?_
  rintro e w1 ⟨rfl,rfl⟩
  go_wp2
  go_ret
  exact ⟨by rw [H.out];rfl,rfl⟩
 ·rw [h2] at hi
  obtain ⟨Hi,H⟩:=hid2 hi h1
  clear hi hA h1 h2
  go_enter Tryz.func140,Tryz.ntmps140
  go_wp2_with fail
  refine (Hi.out).mono ?_
  rintro e w1 ⟨rfl,rfl⟩
  go_wp2
  go_ret
  exact ⟨by rw [H.out];rfl,rfl⟩
end Go.Proofs.YtfdillpofciicaaGreatDoor
namespace Go.Proofs.YtfdillpofciicaaGreatDoor
open Go.RowKit
attribute [local go_sem] AllFrom.cons_eq AllFrom.nil_eq putF_nil putF_cons wantedL_none wantedL_some OpGoalT OpGoalS OpGoalP YieldsR preF_nil preF_cons
set_option maxHeartbeats 1000000 in
theorem indexSlot_any (v : Value) (l : Sl) (s : Int) (t : Bool) (w : World) (hrow : w.ownsRow 0 166 2 v l.length (l.flatMap slotC)) (hl : l.length ≤ 60) :
  Calls Tryz.prog 194 #[v,.agg #[.int .i64 s,.bool t]] w fun e w' => e = .returned (.int .i64 (firstI (eqB (s,t)) l)) ∧ Below w.heap.size w w':=by
 obtain ⟨A,cap,rfl,hc1,hc2⟩:=row_slice hrow
 clear hc2
 go_enter Tryz.func194,Tryz.ntmps194
 go_wp2
 go_loopw [8] (fun i wr => ∃ k : Nat,k ≤ l.length ∧ i = .int .i64 k ∧ (∀ j (h : j < k) (h' : j < l.length),eqB (s,t) l[j] = false) ∧ Below (w.heap.size + 1) (w.alloc (.cells #[.int .i64 s,.bool t] 166)) wr) (fun i _ => l.length - (Go.RowKit.intOf i).toNat)
 case atStart => exact ⟨0,by omega,rfl,fun j h => by omega,Below.refl _ _⟩
 case round =>
  obtain ⟨k,hk,rfl,hno,hbel⟩:=hrel
  have hsz:=hbel.size
  simp only [World.size_alloc] at hsz
  have hsz2 : w.heap.size < wr.heap.size:=hsz
  have hb0 : Below w.heap.size w wr:=((Below.refl w.heap.size w).alloc (Nat.le_refl _) _).trans (hbel.mono (by omega))
  have d0 : wr.cell? ⟨w.heap.size,0,none⟩ = some (.int .i64 s):=(hbel.cell (p:=⟨w.heap.size,0,none⟩) (by simp)).trans (by simp)
  have d1 : wr.cell? ⟨w.heap.size,1,none⟩ = some (.bool t):=(hbel.cell (p:=⟨w.heap.size,1,none⟩) (by simp)).trans (by simp)
  by_cases hlt : k < l.length
  ·obtain ⟨g0,cap',he,hcell⟩:=row_rec slotC_len hrow hlt
   cases he
   have hgl:=row_lt hrow g0 rfl
   have c0:=(hb0.cell (p:=⟨g0,k * 2,none⟩) hgl).trans (hcell 0 _ rfl)
   have c1:=(hb0.cell (p:=⟨g0,k * 2 + 1,none⟩) hgl).trans (hcell 1 _ rfl)
   have hgl2 : g0 < wr.heap.size:=by omega
   have hin : (k : Int) < (l.length : Int):=by omega
   have hyes : eqB (s,t) l[k] = true → firstI (eqB (s,t)) l = k:=fun h => firstI_some (fi_some hlt h fun j hj => hno j hj (by omega))
   have hno2 : eqB (s,t) l[k] = false → ∀ j (h : j < k + 1) (h' : j < l.length),eqB (s,t) l[j] = false:=by
    intro hf j h h'
    by_cases e : j = k
    ·subst e;exact hf
    ·exact hno j (by omega) h'
   clear hcell hrow
   generalize l[k] = x at *
   obtain ⟨a,b⟩:=x
   simp only at c0 c1
   have he:=fun w => eqlSlot w s a t b
   have hg:=guardSlot
   generalize hf : eqB (s,t) (a,b) = r at *
   obtain ⟨Hno,Hno2,Hyes,Hbel,Hb0⟩:=hid5 hno hno2 hyes hbel hb0
   clear hno hno2 hyes hf hbel hb0
   go_wp2
   go_quiet (fail)
   cases r with
   | true =>
    have H:=Lib.hid (Hyes.out rfl)
    go_wp2
    go_ret
    exact ⟨by rw [H.out];rfl,below_drewN Hb0.out _⟩
   | false =>
    go_wp2
    go_roundw
    case rel => exact ⟨k + 1,by omega,by go_num,Hno2.out rfl,below_drewN Hbel.out _⟩
    case measure => simp [Go.RowKit.intOf];omega
  ·have hf : firstI (eqB (s,t)) l = -1:=firstI_none (fi_none fun j hj => hno j (by omega) hj)
   have H:=Lib.hid hf
   clear hf hno hrow
   go_wp2
   go_ret
   exact ⟨by rw [H.out];rfl,hb0⟩
def anyS (x : Int × Bool) (l : Sl) : Bool:=(l.findIdx? (eqB x)).isSome
theorem anyS_cases (x : Int × Bool) (l : Sl) : (anyS x l = true ∧ ∃ k : Nat,firstI (eqB x) l = k) ∨ (anyS x l = false ∧ firstI (eqB x) l = -1):=by
 unfold anyS firstI
 cases h : l.findIdx? (eqB x) with
 | some k => exact .inl ⟨rfl,k,rfl⟩
 | none => exact .inr ⟨rfl,rfl⟩
theorem anyS_iff (x : Int × Bool) (l : Sl) : anyS x l = true ↔ x ∈ l:=by
 unfold anyS
 cases h : l.findIdx? (eqB x) with
 | some k =>
  obtain ⟨hk,hp⟩:=fi_lt h
  have e : x = l[k]:=by simpa [eqB] using hp
  exact ⟨fun _ => by rw [e];exact List.getElem_mem hk,fun _ => rfl⟩
 | none =>
  rw [List.findIdx?_eq_none_iff] at h
  refine ⟨fun h => (nomatch h),fun hx => ?_⟩
  have:=h x hx
  simp [eqB] at this
set_option maxHeartbeats 1000000 in
theorem containsSlot_any (v : Value) (l : Sl) (s : Int) (t : Bool) (w : World) (hrow : w.ownsRow 0 166 2 v l.length (l.flatMap slotC)) (hl : l.length ≤ 60) :
  Calls Tryz.prog 143 #[v,.agg #[.int .i64 s,.bool t]] w fun e w' => e = .returned (.bool (anyS (s,t) l)) ∧ Below w.heap.size w w':=by
 have hi:=indexSlot_any v l s t _ (row_mod hrow ((Mod.refl [] w).alloc (.cells #[.int .i64 s,.bool t] 166)) (by simp)) hl
 rcases anyS_cases (s,t) l with ⟨h1,k,h2⟩ | ⟨h1,h2⟩
 ·rw [h2] at hi
  obtain ⟨Hi,H⟩:=hid2 hi h1
  have hp : decide ((0 : Int) ≤ (k : Int)) = true:=by simp
  clear hi h1 h2
  go_enter Tryz.func143,Tryz.ntmps143
  go_wp2_with fail
  refine (Hi.out).mono ?_
  rintro e w1 ⟨rfl,hb⟩
  simp only [World.size_alloc] at hb
  go_wp2
  go_ret
  exact ⟨by rw [H.out];rfl,((Below.refl w.heap.size w).alloc (Nat.le_refl _) _).trans (hb.mono (by omega))⟩
 ·rw [h2] at hi
  obtain ⟨Hi,H⟩:=hid2 hi h1
  clear hi h1 h2
  go_enter Tryz.func143,Tryz.ntmps143
  go_wp2_with fail
  refine (Hi.out).mono ?_
  rintro e w1 ⟨rfl,hb⟩
  simp only [World.size_alloc] at hb
  go_wp2
  go_ret
  exact ⟨by rw [H.out];rfl,((Below.refl w.heap.size w).alloc (Nat.le_refl _) _).trans (hb.mono (by omega))⟩
def loadL (gs ks : List Int) : Sl:=(List.range gs.length).map fun i => (gs.getD i 0,hasB ks (i : Int))
def dupB (ks : List Int) : Bool:=(List.range ks.length).any fun j => hasB (ks.take j) (ks.getD j 0)
def loadE (gs ks : List Int) : Int:=if 60 < gs.length then 2 else if anyP badN gs = true then 1 else if anyP (badK gs.length) ks = true then 5 else if dupB ks = true then 6 else if anyS (1000000,true) (loadL gs ks) = true then 1 else 0
theorem loadL_len (gs ks : List Int) : (loadL gs ks).length = gs.length:=by simp [loadL]
theorem loadL_get (gs ks : List Int) {n : Nat} (h : n < (loadL gs ks).length) : (loadL gs ks)[n] = (gs[n]'(by simpa [loadL] using h),hasB ks (n : Int)):=by
 have h' : n < gs.length:=by simpa [loadL] using h
 simp [loadL,List.getD_eq_getElem?_getD,List.getElem?_eq_getElem h']
theorem loadL_nil (gs : List Int) : loadL gs [] = gs.map (·,false):=by
 apply List.ext_getElem
 ·simp [loadL]
 ·intro n h1 h2
  rw [loadL_get,hasB_nil];simp
theorem loadL_set (gs ks : List Int) {n : Nat} (h : n < (loadL gs ks).length) : (loadL gs ks).set n ((loadL gs ks)[n].1,true) = loadL gs (ks ++ [(n : Int)]):=by
 apply List.ext_getElem
 ·simp [loadL]
 ·intro j h1 h2
  rw [List.getElem_set,loadL_get gs (ks ++ [(n : Int)]),hasB_snoc]
  split
  ·next e => subst e;rw [loadL_get];simp
  ·next e =>
   rw [loadL_get]
   have : ¬ ((j : Int) = n):=by omega
   simp [this]
theorem dupB_of {ks : List Int} {j : Nat} (hj : j < ks.length) (h : hasB (ks.take j) ks[j] = true) : dupB ks = true:=by
 unfold dupB
 rw [List.any_eq_true]
 exact ⟨j,by simpa using hj,by simpa [List.getD_eq_getElem?_getD,List.getElem?_eq_getElem hj] using h⟩
theorem dupB_none {ks : List Int} (h : ∀ j (hj : j < ks.length),hasB (ks.take j) ks[j] = false) : dupB ks = false:=by
 cases e : dupB ks with
 | false => rfl
 | true =>
  unfold dupB at e
  rw [List.any_eq_true] at e
  obtain ⟨j,hj,h2⟩:=e
  have hj' : j < ks.length:=by simpa using hj
  have:=h j hj'
  simp [List.getD_eq_getElem?_getD,List.getElem?_eq_getElem hj'] at h2
  rw [h2] at this;cases this
structure LoadIn (gs ks : List Int) : Prop where
 len : gs.length ≤ 60
 gens : ∀ k (h : k < gs.length),0 ≤ gs[k] ∧ gs[k] ≤ 1000000
 keys : ∀ k (h : k < ks.length),0 ≤ ks[k] ∧ ks[k] < gs.length
theorem loadE_long {gs ks : List Int} (h : 60 < gs.length) : loadE gs ks = 2:=by unfold loadE;rw [if_pos h]
theorem loadE_gen {gs ks : List Int} (h : gs.length ≤ 60) (h1 : anyP badN gs = true) : loadE gs ks = 1:=by unfold loadE;rw [if_neg (by omega),if_pos h1]
theorem loadE_key {gs ks : List Int} (h : gs.length ≤ 60) (h1 : anyP badN gs = false) (h2 : anyP (badK gs.length) ks = true) : loadE gs ks = 5:=by unfold loadE;rw [if_neg (by omega),if_neg (by simp [h1]),if_pos h2]
theorem loadIn_of {gs ks : List Int} (h : gs.length ≤ 60) (h1 : anyP badN gs = false) (h2 : anyP (badK gs.length) ks = false) : LoadIn gs ks:=by
 refine ⟨h,fun k hk => ?_,fun k hk => ?_⟩
 ·have:=anyP_false h1 hk
  simp [badN] at this;omega
 ·have:=anyP_false h2 hk
  simp [badK] at this;omega
theorem LoadIn.bad {gs ks : List Int} (h : LoadIn gs ks) : anyP badN gs = false ∧ anyP (badK gs.length) ks = false:=by
 refine ⟨anyP_none fun k hk => badN_in (h.gens k hk).1 (h.gens k hk).2,anyP_none fun k hk => badK_in (h.keys k hk).1 (h.keys k hk).2⟩
theorem LoadIn.dup {gs ks : List Int} (h : LoadIn gs ks) (h1 : dupB ks = true) : loadE gs ks = 6:=by
 unfold loadE;rw [if_neg (by have:=h.len;omega),if_neg (by simp [h.bad.1]),if_neg (by simp [h.bad.2]),if_pos h1]
theorem LoadIn.full {gs ks : List Int} (h : LoadIn gs ks) (h1 : dupB ks = false) (h2 : anyS (1000000,true) (loadL gs ks) = true) : loadE gs ks = 1:=by
 unfold loadE;rw [if_neg (by have:=h.len;omega),if_neg (by simp [h.bad.1]),if_neg (by simp [h.bad.2]),if_neg (by simp [h1]),if_pos h2]
theorem LoadIn.good {gs ks : List Int} (h : LoadIn gs ks) (h1 : dupB ks = false) (h2 : anyS (1000000,true) (loadL gs ks) = false) : loadE gs ks = 0:=by
 unfold loadE;rw [if_neg (by have:=h.len;omega),if_neg (by simp [h.bad.1]),if_neg (by simp [h.bad.2]),if_neg (by simp [h1]),if_neg (by simp [h2])]
theorem LoadIn.ok {gs ks : List Int} (h : LoadIn gs ks) (h2 : anyS (1000000,true) (loadL gs ks) = false) : SlOk (loadL gs ks):=by
 refine ⟨by rw [loadL_len];exact h.len,fun x hx => ?_⟩
 obtain ⟨n,hn,rfl⟩:=List.mem_iff_getElem.1 hx
 have hg:=loadL_get gs ks hn
 have hb:=h.gens n (by simpa [loadL] using hn)
 refine ⟨by rw [hg];exact hb.1,by rw [hg];exact hb.2,fun ht => ?_⟩
 have hne : ¬ ((loadL gs ks)[n].1 = 1000000):=by
  intro e
  have hm : ((1000000 : Int),true) ∈ loadL gs ks:=by
   have e2 : (loadL gs ks)[n] = (1000000,true):=Prod.ext e ht
   rw [← e2];exact List.getElem_mem hn
  rw [← anyS_iff,h2] at hm
  cases hm
 have : (loadL gs ks)[n].1 ≤ 1000000:=by rw [hg];exact hb.2
 omega
end Go.Proofs.YtfdillpofciicaaGreatDoor
