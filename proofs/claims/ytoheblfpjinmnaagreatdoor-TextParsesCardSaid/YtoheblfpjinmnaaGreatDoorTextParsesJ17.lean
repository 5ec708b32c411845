import Derived.Test.YtoheblfpjinmnaaGreatDoorTextParsesJ16
set_option linter.unusedVariables false
set_option linter.unusedSimpArgs false
/- A part of the proof that TextParses returns true. -/
namespace Go.Proofs.YtoheblfpjinmnaaGreatDoor
open Go Go.RowKit
attribute [local go_sem] AllFrom.cons_eq AllFrom.nil_eq putF_nil putF_cons wantedL_none wantedL_some OpGoalT OpGoalV OpGoalQ OpGoalA OpGoalK YieldsR preF_nil preF_cons
structure ITurn (a : Nat) (w0 : World) (F : List Nat) (A' : World → List Nat → Prop) (L : Nat → Bool) (σ : Nat → Value) (V : World) : Prop where
 s0 : L a = false → Below w0.heap.size w0 V
 s1 : L a = true → OwnPost A' F w0 V
section
variable {a : Nat} {w0 V V' : World} {F : List Nat} {A' : World → List Nat → Prop} {L : Nat → Bool} {σ : Nat → Value}
theorem ITurn.start (h : Below w0.heap.size w0 V) : ITurn a w0 F A' (fun _ => false) σ V:=⟨fun _ => h,fun e => (by cases e)⟩
theorem ITurn.read (h : ITurn a w0 F A' L σ V) {i : Nat} (hi : a ≠ i) (v : Value) : ITurn a w0 F A' (upd L i) (updv σ i v) V:=by
 have e : upd L i a = L a:=by unfold upd;simp [hi]
 exact ⟨fun h1 => h.s0 (e ▸ h1),fun h1 => h.s1 (e ▸ h1)⟩
theorem ITurn.turn (h : ITurn a w0 F A' L σ V) (ha : L a = false) (hp : OwnPost A' F V V') (v : Value) : ITurn a w0 F A' (upd L a) (updv σ a v) V' :=
 ⟨fun e => by simp [upd] at e,fun _ => OwnPost.after (h.s0 ha) hp⟩
theorem ITurn.k (h : ITurn a w0 F A' L σ V) : Mod F w0 V:=by
 cases e : L a with
 | false => exact (Mod.ofBelow (h.s0 e)).mono (by simp)
 | true => exact (h.s1 e).mod
end
section
variable {m : Nat} {w0 V V' : World} {E n k : Nat} {xs : List Value} {L : Nat → Bool} {σ : Nat → Value}
end
section
variable {z p f : Nat} {sl sl' : Sl} {L L' : List Rw} {B B' : List Bd} {w w' : World} {F G : List Nat}
theorem v_liveA (h : RepV z p f sl L B w F) : ∃ ps,∀ V,Below w.heap.size w V → V.cell? ⟨z,0,none⟩ = some (.pointer (some ⟨p,0,none⟩)) ∧ V.cell? ⟨z,1,none⟩ = some (.pointer (some ⟨f,0,none⟩)) ∧ z < V.heap.size ∧ V.cell? ⟨p,0,none⟩ = some (.pointer (some ⟨ps,0,none⟩)) ∧ p < V.heap.size ∧ ∀ s g,Calls Tryz.prog 70 #[.pointer (some ⟨ps,0,none⟩),.agg #[.int .i64 s,.int .i64 g]] V fun e w' => e = .returned (.bool (liveB sl s g)) ∧ Below V.heap.size V w':=by
 obtain ⟨ps,FS,h1,h2,h3⟩:=h.slots
 refine ⟨ps,fun V hV => ?_⟩
 have hc:=(h.below hV).cells
 exact ⟨hc.1,hc.2.1,hc.2.2,(hV.cell (p:=⟨p,0,none⟩) h2).trans h1,Nat.lt_of_lt_of_le h2 hV.size,fun s g => live_any ps sl FS s g V (h3.mod (Mod.ofBelow hV) (by simp))⟩
def liveZ (sl : Sl) (hs : List Hd) : Bool:=hs.all (fun h => liveB sl h.1 h.2)
def liveE (sl : Sl) (hs : List Hd) : Int:=if liveZ sl hs = true then 0 else 7
theorem liveE_ok {sl : Sl} {hs : List Hd} (h : liveZ sl hs = true) : liveE sl hs = 0:=by unfold liveE;rw [if_pos h]
theorem liveE_no {sl : Sl} {hs : List Hd} (h : liveZ sl hs = false) : liveE sl hs = 7:=by unfold liveE;rw [if_neg (by rw [h];simp)]
set_option maxRecDepth 20000 in
set_option maxHeartbeats 4000000 in
theorem vlive_any (h : RepV z p f sl L B w F) (A : Option Addr) (c : Nat) (hs : List Hd) (hl : hs.length ≤ 60) (hA : Lies w w.heap.size A (hs.flatMap handleC)) :
  Calls Tryz.prog 49 #[.pointer (some ⟨z,0,none⟩),.slice A hs.length c] w fun e w' => e = .returned (.int .i64 (liveE sl hs)) ∧ Below w.heap.size w w':=by
 obtain ⟨ps,hV⟩:=v_liveA h
 obtain ⟨HV,HA⟩:=hid2 hV hA
 clear hV hA
 clear h
 go_enter Tryz.func49,Tryz.ntmps49
 go_wp2_with fail
 go_loopw [9] (fun i wr => ∃ k : Nat,k ≤ hs.length ∧ i = .int .i64 k ∧ liveZ sl (hs.take k) = true ∧ Below w.heap.size w wr) (fun i _ => hs.length - (Go.RowKit.intOf i).toNat)
 case atStart => exact ⟨0,by omega,rfl,rfl,Below.refl _ _⟩
 case round =>
  obtain ⟨k,hk,rfl,hno,hbel⟩:=hrel
  have hsz:=hbel.size
  by_cases hlt : k < hs.length
  ·obtain ⟨ab,ao,rfl,hal,hc⟩:=HA.out.rec_at handleC_len (by omega) hlt
   have hki : (k : Int) < (hs.length : Int):=by omega
   have hq : ∀ j u,(handleC hs[k])[j]? = some u → wr.cell? ((⟨ab,ao + k * 2,none⟩ : Addr).add j) = some u:=fun j u hu => (hbel.cell (p:=(⟨ab,ao + k * 2,none⟩ : Addr).add j) (by rw [add_block];exact hal)).trans (by first | exact hc j u hu | (have:=hc j u hu;rw [Addr.add_mid];exact this))
   have hst : liveZ sl (hs.take (k + 1)) = liveB sl hs[k].1 hs[k].2:=by
    have h1:=hno
    unfold liveZ at h1 ⊢
    rw [take_succ_get hs k hlt,List.all_append,h1];simp
   have hall : liveB sl hs[k].1 hs[k].2 = false → liveZ sl hs = false:=fun e => by
    unfold liveZ
    rw [List.all_eq_false]
    exact ⟨hs[k],List.getElem_mem hlt,by rw [e];simp⟩
   generalize hs[k] = x at *
   obtain ⟨s,g⟩:=x
   obtain ⟨w3,hw3,hb3,hz3,hs3⟩:=box1 wr (.cells #[.int .i64 s,.int .i64 g] 46)
   have hb03:=hbel.trans (hb3.mono hsz)
   have hL:=fun V (hb : Below w3.heap.size w3 V) => HV.out V (hb03.trans (hb.mono hb03.size))
   simp only at hst hall
   obtain ⟨HQ,Hst,Hall,Hb03,HL,Hz3,Hs3,Hw3⟩:=hid8 hq hst hall hb03 hL hz3 hs3 hw3
   clear hq hst hall hb03 hL hz3 hs3 hw3
   clear hc hb3 hno hbel
   go_wp2_with (first | (refine wpList_load_flat rfl 46 (.tmp 11) rfl _ rfl [.int .i64 s,.int .i64 g] _ Tryz.underlying46 rfl (by kernel_rfl) HQ.out ?_) | fail)
   rw [Hw3.out]
   refine wp_planK [] 10 [0] [some 13,some 14,some 15,some 16,some 17,some 18,some 19,some 20,some 21,some 22] [[],[0],[0,1],[0,1,2],[0,1,2,3],[0,1,2,3,4],[0,1,2,3,4,5],[],[0,1,2,3,4,5,6,7],[0,1,2,3,4,5,6,7,8]] [0,1,2,3,4,5,6,7,8,9] (fun Lf σ V => Below w3.heap.size w3 V) mixed rfl (by kernel_rfl) (by decide) (by decide) (by decide) below_drew rfl ?_
   iterate 10 apply Exists.intro
   refine ⟨rfl,?_,?_⟩
   ·simp only [tS,List.take_zero,AllFrom.cons_eq,AllFrom.nil_eq,OpGoalK]
    refine ⟨?_,?_,?_,?_,?_,?_,?_,?_,?_,?_,trivial⟩
    all_goals (intro L' σ V h1 h2 h3 hI hp;have HA1:=Lib.hid h1;have HA2:=Lib.hid h2;have HA3:=Lib.hid h3;clear h1 h2 h3;(try simp only [gZ,gS,preK_cons,preK_nil] at hp);(try simp only [List.not_mem_nil,false_or,and_true] at hp);(first | (have hq : True:=hp;clear hq hp) | skip);have HI:=Lib.hid hI;clear hI)
    all_goals (
     have hA:=HL.out V HI.out
     have hc0:=hA.1;have hzl:=hA.2.2.1;have hp0:=hA.2.2.2.1;have hpl:=hA.2.2.2.2.1
     have HLv:=Lib.hid hA.2.2.2.2.2
     have hzV:=(Mod.ofBelow HI.out).keep Hz3.out (by simp)
     have q0:=blk_cell hzV 0
     have q1:=blk_cell hzV 1
     simp only [eA,eZ,eS] at q0 q1
     have ql:=blk_lt hzV
     clear hA hzV)
    iterate 8 · (go_simp;exact ⟨.inr rfl,HI.out⟩)
    ·(go_simp;refine (HLv.out s g).mono ?_;rintro e V2 ⟨rfl,hb⟩;exact ⟨_,rfl,.inr rfl,HI.out.trans (hb.mono HI.out.size)⟩)
    ·(go_simp;exact ⟨.inr rfl,HI.out⟩)
   ·intro L' σ V h1 hI hp
    clear h1
    simp only [preK_cons,preK_nil,gZ,gS] at hp;simp only [List.not_mem_nil,false_or,and_true] at hp
    have hbV:=Hb03.out.trans (hI.mono Hb03.out.size)
    have HbV:=Lib.hid hbV
    clear hbV
    clear hI
    simp only [dS,List.drop_zero]
    go_simp
    clear hp
    cases hlv : liveB sl s g with
    | false =>
     have hf:=Hall.out hlv
     have Hf:=Lib.hid hf
     clear hf
     clear hlv
     go_wp2_with fail
     refine ⟨rfl,?_⟩
     go_wp2
     refine bodyPost_ret (v:=.int .i64 7) (by unfold results;try go_simp) rfl ?_
     exact ⟨by rw [liveE_no Hf.out],HbV.out⟩
    | true =>
     have hs2:=Hst.out.trans hlv
     have Hs2:=Lib.hid hs2
     clear hs2
     clear hlv
     go_wp2_with fail
     refine ⟨rfl,?_⟩
     go_wp2
     go_roundw
     case rel => exact ⟨k + 1,by omega,by go_num,Hs2.out,HbV.out⟩
     case measure => simp [Go.RowKit.intOf];omega
  ·obtain rfl : k = hs.length:=by omega
   rw [List.take_length] at hno
   obtain ⟨Hno,HB⟩:=hid2 hno hbel
   clear hno hbel
   go_wp2
   refine bodyPost_ret (v:=.int .i64 0) (by unfold results;try go_simp) rfl ?_
   exact ⟨by rw [liveE_ok Hno.out],HB.out⟩
end
end Go.Proofs.YtoheblfpjinmnaaGreatDoor
namespace Go.Proofs.YtoheblfpjinmnaaGreatDoor
open Go.RowKit
def badN (x : Int) : Bool:=decide (x < 0) || decide (1000000 < x)
def badK (n : Nat) (x : Int) : Bool:=decide (x < 0) || decide ((n : Int) ≤ x)
def anyP (p : Int → Bool) (l : List Int) : Bool:=(l.findIdx? p).isSome
theorem badN_lo {x : Int} (h : x < 0) : badN x = true:=by simp [badN,h]
theorem badN_hi {x : Int} (h : 1000000 < x) : badN x = true:=by simp [badN,h]
theorem badN_in {x : Int} (h : 0 ≤ x) (h' : x ≤ 1000000) : badN x = false:=by simp [badN];omega
theorem badK_lo {n : Nat} {x : Int} (h : x < 0) : badK n x = true:=by simp [badK,h]
theorem badK_hi {n : Nat} {x : Int} (h : (n : Int) ≤ x) : badK n x = true:=by simp [badK,h]
theorem badK_in {n : Nat} {x : Int} (h : 0 ≤ x) (h' : x < n) : badK n x = false:=by simp [badK];omega
theorem load1_any (x : Int) (w : World) : Calls Tryz.prog 99 #[.int .i64 x] w fun e w' => e = .returned (.bool (badN x)) ∧ w = w':=by
 by_cases h0 : x < 0
 ·have H:=Lib.hid (badN_lo h0)
  go_enter Tryz.func99,Tryz.ntmps99
  go_wp2
  go_ret
  exact ⟨by rw [H.out];rfl,rfl⟩
 ·by_cases h1 : 1000000 < x
  ·have H:=Lib.hid (badN_hi h1)
   go_enter Tryz.func99,Tryz.ntmps99
   go_wp2
   go_ret
   exact ⟨by rw [H.out];rfl,rfl⟩
  ·have H:=Lib.hid (badN_in (x:=x) (by omega) (by omega))
   go_enter Tryz.func99,Tryz.ntmps99
   go_wp2
   go_ret
   exact ⟨by rw [H.out];rfl,rfl⟩
theorem load2_any (x : Int) (b : Nat) (A : Option Addr) (n c : Nat) (w : World) (hb : w.cell? ⟨b,0,none⟩ = some (.slice A n c)) (hn : n ≤ 9223372036854775807) :
  Calls Tryz.prog 100 #[.int .i64 x,.pointer (some ⟨b,0,none⟩)] w fun e w' => e = .returned (.bool (badK n x)) ∧ w = w':=by
 by_cases h0 : x < 0
 ·have H:=Lib.hid (badK_lo (n:=n) h0)
  go_enter Tryz.func100,Tryz.ntmps100
  go_wp2
  go_ret
  exact ⟨by rw [H.out];rfl,rfl⟩
 ·by_cases h1 : (n : Int) ≤ x
  ·have H:=Lib.hid (badK_hi h1)
   go_enter Tryz.func100,Tryz.ntmps100
   go_wp2
   go_ret
   exact ⟨by rw [H.out];rfl,rfl⟩
  ·have H:=Lib.hid (badK_in (n:=n) (x:=x) (by omega) (by omega))
   go_enter Tryz.func100,Tryz.ntmps100
   go_wp2
   go_ret
   exact ⟨by rw [H.out];rfl,rfl⟩
theorem anyP_cases (p : Int → Bool) (l : List Int) : (anyP p l = true ∧ ∃ k : Nat,firstI p l = k) ∨ (anyP p l = false ∧ firstI p l = -1):=by
 unfold anyP firstI
 cases h : l.findIdx? p with
 | some k => exact .inl ⟨rfl,k,rfl⟩
 | none => exact .inr ⟨rfl,rfl⟩
theorem anyP_false {p : Int → Bool} {l : List Int} (h : anyP p l = false) {k : Nat} (hk : k < l.length) : p l[k] = false:=by
 unfold anyP at h
 rw [Option.isSome_eq_false_iff,Option.isNone_iff_eq_none,List.findIdx?_eq_none_iff] at h
 exact h _ (List.getElem_mem hk)
theorem anyP_of {p : Int → Bool} {l : List Int} {k : Nat} (hk : k < l.length) (h : p l[k] = true) : anyP p l = true:=by
 cases e : anyP p l with
 | true => rfl
 | false => rw [anyP_false e hk] at h;cases h
theorem anyP_none {p : Int → Bool} {l : List Int} (h : ∀ k (hk : k < l.length),p l[k] = false) : anyP p l = false:=by
 unfold anyP
 rw [fi_none h];rfl
set_option maxHeartbeats 1000000 in
theorem indexN_any (A : Option Addr) (c : Nat) (l : List Int) (B : Nat) (w : World) (hl : l.length ≤ 9223372036854775807) (hA : Lies w B A (ints l)) :
  Calls Tryz.prog 120 #[.slice A l.length c,.func (.func 99) #[] #[]] w fun e w' => e = .returned (.int .i64 (firstI badN l)) ∧ w = w':=by
 go_enter Tryz.func120,Tryz.ntmps120
 go_wp2
 go_loop [8] (fun i => ∃ k : Nat,k ≤ l.length ∧ i = .int .i64 k ∧ (∀ j (h : j < k) (h' : j < l.length),badN l[j] = false)) (fun i => l.length - (Go.RowKit.intOf i).toNat)
 case atStart => exact ⟨0,by omega,rfl,fun j h => by omega⟩
 case round =>
  obtain ⟨k,hk,rfl,hno⟩:=hrel
  by_cases hlt : k < l.length
  ·obtain ⟨a,rfl,hb,hc⟩:=hA.int hlt
   have hyes : badN l[k] = true → firstI badN l = k:=fun h => firstI_some (fi_some hlt h fun j hj => hno j hj (by omega))
   have hno2 : badN l[k] = false → ∀ j (h : j < k + 1) (h' : j < l.length),badN l[j] = false:=by
    intro hf j h h'
    by_cases e : j = k
    ·subst e;exact hf
    ·exact hno j (by omega) h'
   have ht:=load1_any l[k] w
   generalize hf : badN l[k] = r at *
   generalize l[k] = x at *
   obtain ⟨Hno2,Hyes,Ht⟩:=hid3 hno2 hyes ht
   clear hno hno2 hyes ht hf hA
   cases r with
   | true =>
    have H:=Lib.hid (Hyes.out rfl)
    go_wp2_with (go_at_call 99;refine (Ht.out).mono ?_;rintro e w1 ⟨rfl,rfl⟩)
    go_ret
    exact ⟨by rw [H.out];rfl,rfl⟩
   | false =>
    go_wp2_with (go_at_call 99;refine (Ht.out).mono ?_;rintro e w1 ⟨rfl,rfl⟩)
    go_round
    case rel => exact ⟨k + 1,by omega,by go_num,Hno2.out trivial⟩
    case measure => simp [Go.RowKit.intOf];omega
  ·have hf : firstI badN l = -1:=firstI_none (fi_none fun j hj => hno j (by omega) hj)
   have H:=Lib.hid hf
   clear hf hno
   go_wp2
   go_ret
   exact ⟨by rw [H.out];rfl,rfl⟩
theorem containsN_any (A : Option Addr) (c : Nat) (l : List Int) (B : Nat) (w : World) (hl : l.length ≤ 9223372036854775807) (hA : Lies w B A (ints l)) :
  Calls Tryz.prog 98 #[.slice A l.length c,.func (.func 99) #[] #[]] w fun e w' => e = .returned (.bool (anyP badN l)) ∧ w = w':=by
 have hi:=indexN_any A c l B w hl hA
 rcases anyP_cases badN l with ⟨h1,k,h2⟩ | ⟨h1,h2⟩
 ·rw [h2] at hi
  obtain ⟨Hi,H⟩:=hid2 hi h1
  have hp : decide ((0 : Int) ≤ (k : Int)) = true:=by simp
  clear hi hA h1 h2
  go_enter Tryz.func98,Tryz.ntmps98
  go_wp2_with fail
  refine (Hi.out).mono ?_
  rintro e w1 ⟨rfl,rfl⟩
  go_wp2
  go_ret
  exact ⟨by rw [H.out];rfl,rfl⟩
 ·rw [h2] at hi
  obtain ⟨Hi,H⟩:=hid2 hi h1
  clear hi hA h1 h2
  go_enter Tryz.func98,Tryz.ntmps98
  go_wp2_with fail
  refine (Hi.out).mono ?_
  rintro e w1 ⟨rfl,rfl⟩
  go_wp2
  go_ret
  exact ⟨by rw [H.out];rfl,rfl⟩
set_option maxHeartbeats 1000000 in
theorem indexK_any (b : Nat) (A1 : Option Addr) (n c1 : Nat) (A : Option Addr) (c : Nat) (l : List Int) (B : Nat) (w : World) (hl : l.length ≤ 9223372036854775807) (hA : Lies w B A (ints l)) (hbx : w.cell? ⟨b,0,none⟩ = some (.slice A1 n c1)) (hn : n ≤ 9223372036854775807) :
  Calls Tryz.prog 120 #[.slice A l.length c,.func (.func 100) #[] #[.pointer (some ⟨b,0,none⟩)]] w fun e w' => e = .returned (.int .i64 (firstI (badK n) l)) ∧ w = w':=by
 go_enter Tryz.func120,Tryz.ntmps120
 go_wp2
 go_loop [8] (fun i => ∃ k : Nat,k ≤ l.length ∧ i = .int .i64 k ∧ (∀ j (h : j < k) (h' : j < l.length),(badK n) l[j] = false)) (fun i => l.length - (Go.RowKit.intOf i).toNat)
 case atStart => exact ⟨0,by omega,rfl,fun j h => by omega⟩
 case round =>
  obtain ⟨k,hk,rfl,hno⟩:=hrel
  by_cases hlt : k < l.length
  ·obtain ⟨a,rfl,hb,hc⟩:=hA.int hlt
   have hyes : (badK n) l[k] = true → firstI (badK n) l = k:=fun h => firstI_some (fi_some hlt h fun j hj => hno j hj (by omega))
   have hno2 : (badK n) l[k] = false → ∀ j (h : j < k + 1) (h' : j < l.length),(badK n) l[j] = false:=by
    intro hf j h h'
    by_cases e : j = k
    ·subst e;exact hf
    ·exact hno j (by omega) h'
   have ht:=load2_any l[k] b A1 n c1 w hbx hn
   generalize hf : (badK n) l[k] = r at *
   generalize l[k] = x at *
   obtain ⟨Hno2,Hyes,Ht⟩:=hid3 hno2 hyes ht
   clear hno hno2 hyes ht hf hA
   cases r with
   | true =>
    have H:=Lib.hid (Hyes.out rfl)
    go_wp2_with (go_at_call 100;refine (Ht.out).mono ?_;rintro e w1 ⟨rfl,rfl⟩)
    go_ret
    exact ⟨by rw [H.out];rfl,rfl⟩
   | false =>
    go_wp2_with (go_at_call 100;refine (Ht.out).mono ?_;rintro e w1 ⟨rfl,rfl⟩)
    go_round
    case rel => exact ⟨k + 1,by omega,by go_num,Hno2.out trivial⟩
    case measure => simp [Go.RowKit.intOf];omega
  ·have hf : firstI (badK n) l = -1:=firstI_none (fi_none fun j hj => hno j (by omega) hj)
   have H:=Lib.hid hf
   clear hf hno
   go_wp2
   go_ret
   exact ⟨by rw [H.out];rfl,rfl⟩
theorem containsK_any (b : Nat) (A1 : Option Addr) (n c1 : Nat) (A : Option Addr) (c : Nat) (l : List Int) (B : Nat) (w : World) (hl : l.length ≤ 9223372036854775807) (hA : Lies w B A (ints l)) (hbx : w.cell? ⟨b,0,none⟩ = some (.slice A1 n c1)) (hn : n ≤ 9223372036854775807) :
  Calls Tryz.prog 98 #[.slice A l.length c,.func (.func 100) #[] #[.pointer (some ⟨b,0,none⟩)]] w fun e w' => e = .returned (.bool (anyP (badK n) l)) ∧ w = w':=by
 have hi:=indexK_any b A1 n c1 A c l B w hl hA hbx hn
 rcases anyP_cases (badK n) l with ⟨h1,k,h2⟩ | ⟨h1,h2⟩
 ·rw [h2] at hi
  obtain ⟨Hi,H⟩:=hid2 hi h1
  have hp : decide ((0 : Int) ≤ (k : Int)) = true:=by simp
  clear hi hA h1 h2
  go_enter Tryz.func98,Tryz.ntmps98
  go_wp2_with fail
  refine (Hi.out).mono ?_
  rintro e w1 ⟨rfl,rfl⟩
  go_wp2
  go_ret
  exact ⟨by rw [H.out];rfl,rfl⟩
 ·rw [h2] at hi
  obtain ⟨Hi,H⟩:=hid2 hi h1
  clear hi hA h1 h2
  go_enter Tryz.func98,Tryz.ntmps98
  go_wp2_with fail
  refine (Hi.out).mono ?_
  rintro e w1 ⟨rfl,rfl⟩
  go_wp2
  go_ret
  exact ⟨by rw [H.out];rfl,rfl⟩
end Go.Proofs.YtoheblfpjinmnaaGreatDoor
namespace Go.Proofs.YtoheblfpjinmnaaGreatDoor
open Go.RowKit
attribute [local go_sem] AllFrom.cons_eq AllFrom.nil_eq putF_nil putF_cons wantedL_none wantedL_some OpGoalT OpGoalS OpGoalP YieldsR preF_nil preF_cons
set_option maxHeartbeats 1000000 in
theorem indexSlot_any (v : Value) (l : Sl) (s : Int) (t : Bool) (w : World) (hrow : w.ownsRow 0 162 2 v l.length (l.flatMap slotC)) (hl : l.length ≤ 60) :
  Calls Tryz.prog 121 #[v,.agg #[.int .i64 s,.bool t]] w fun e w' => e = .returned (.int .i64 (firstI (eqB (s,t)) l)) ∧ Below w.heap.size w w':=by
 obtain ⟨A,cap,rfl,hc1,hc2⟩:=row_slice hrow
 clear hc2
 go_enter Tryz.func121,Tryz.ntmps121
 go_wp2
 go_loopw [8] (fun i wr => ∃ k : Nat,k ≤ l.length ∧ i = .int .i64 k ∧ (∀ j (h : j < k) (h' : j < l.length),eqB (s,t) l[j] = false) ∧ Below (w.heap.size + 1) (w.alloc (.cells #[.int .i64 s,.bool t] 162)) wr) (fun i _ => l.length - (Go.RowKit.intOf i).toNat)
 case atStart => exact ⟨0,by omega,rfl,fun j h => by omega,Below.refl _ _⟩
 case round =>
  obtain ⟨k,hk,rfl,hno,hbel⟩:=hrel
  have hsz:=hbel.size
  simp only [World.size_alloc] at hsz
  have hsz2 : w.heap.size < wr.heap.size:=hsz
  have hb0 : Below w.heap.size w wr:=((Below.refl w.heap.size w).alloc (Nat.le_refl _) _).trans (hbel.mono (by omega))
  have d0 : wr.cell? ⟨w.heap.size,0,none⟩ = some (.int .i64 s):=(hbel.cell (p:=⟨w.heap.size,0,none⟩) (by simp)).trans (by simp)
  have d1 : wr.cell? ⟨w.heap.size,1,none⟩ = some (.bool t):=(hbel.cell (p:=⟨w.heap.size,1,none⟩) (by simp)).trans (by simp)
  by_cases hlt : k < l.length
  ·obtain ⟨g0,cap',he,hcell⟩:=row_rec slotC_len hrow hlt
   cases he
   have hgl:=row_lt hrow g0 rfl
   have c0:=(hb0.cell (p:=⟨g0,k * 2,none⟩) hgl).trans (hcell 0 _ rfl)
   have c1:=(hb0.cell (p:=⟨g0,k * 2 + 1,none⟩) hgl).trans (hcell 1 _ rfl)
   have hgl2 : g0 < wr.heap.size:=by omega
   have hin : (k : Int) < (l.length : Int):=by omega
   have hyes : eqB (s,t) l[k] = true → firstI (eqB (s,t)) l = k:=fun h => firstI_some (fi_some hlt h fun j hj => hno j hj (by omega))
   have hno2 : eqB (s,t) l[k] = false → ∀ j (h : j < k + 1) (h' : j < l.length),eqB (s,t) l[j] = false:=by
    intro hf j h h'
    by_cases e : j = k
    ·subst e;exact hf
    ·exact hno j (by omega) h'
   clear hcell hrow
   generalize l[k] = x at *
   obtain ⟨a,b⟩:=x
   simp only at c0 c1
   have he:=fun w => eqlSlot w s a t b
   have hg:=guardSlot
   generalize hf : eqB (s,t) (a,b) = r at *
   obtain ⟨Hno,Hno2,Hyes,Hbel,Hb0⟩:=hid5 hno hno2 hyes hbel hb0
   clear hno hno2 hyes hf hbel hb0
   go_wp2
   go_quiet (fail)
   cases r with
   | true =>
    have H:=Lib.hid (Hyes.out rfl)
    go_wp2
    go_ret
    exact ⟨by rw [H.out];rfl,below_drewN Hb0.out _⟩
   | false =>
    go_wp2
    go_roundw
    case rel => exact ⟨k + 1,by omega,by go_num,Hno2.out rfl,below_drewN Hbel.out _⟩
    case measure => simp [Go.RowKit.intOf];omega
  ·have hf : firstI (eqB (s,t)) l = -1:=firstI_none (fi_none fun j hj => hno j (by omega) hj)
   have H:=Lib.hid hf
   clear hf hno hrow
   go_wp2
   go_ret
   exact ⟨by rw [H.out];rfl,hb0⟩
def anyS (x : Int × Bool) (l : Sl) : Bool:=(l.findIdx? (eqB x)).isSome
theorem anyS_cases (x : Int × Bool) (l : Sl) : (anyS x l = true ∧ ∃ k : Nat,firstI (eqB x) l = k) ∨ (anyS x l = false ∧ firstI (eqB x) l = -1):=by
 unfold anyS firstI
 cases h : l.findIdx? (eqB x) with
 | some k => exact .inl ⟨rfl,k,rfl⟩
 | none => exact .inr ⟨rfl,rfl⟩
theorem anyS_iff (x : Int × Bool) (l : Sl) : anyS x l = true ↔ x ∈ l:=by
 unfold anyS
 cases h : l.findIdx? (eqB x) with
 | some k =>
  obtain ⟨hk,hp⟩:=fi_lt h
  have e : x = l[k]:=by simpa [eqB] using hp
  exact ⟨fun _ => by rw [e];exact List.getElem_mem hk,fun _ => rfl⟩
 | none =>
  rw [List.findIdx?_eq_none_iff] at h
  refine ⟨fun h => (nomatch h),fun hx => ?_⟩
  have:=h x hx
  simp [eqB] at this
set_option maxHeartbeats 1000000 in
theorem containsSlot_any (v : Value) (l : Sl) (s : Int) (t : Bool) (w : World) (hrow : w.ownsRow 0 162 2 v l.length (l.flatMap slotC)) (hl : l.length ≤ 60) :
  Calls Tryz.prog 102 #[v,.agg #[.int .i64 s,.bool t]] w fun e w' => e = .returned (.bool (anyS (s,t) l)) ∧ Below w.heap.size w w':=by
 have hi:=indexSlot_any v l s t _ (row_mod hrow ((Mod.refl [] w).alloc (.cells #[.int .i64 s,.bool t] 162)) (by simp)) hl
 rcases anyS_cases (s,t) l with ⟨h1,k,h2⟩ | ⟨h1,h2⟩
 ·rw [h2] at hi
  obtain ⟨Hi,H⟩:=hid2 hi h1
  have hp : decide ((0 : Int) ≤ (k : Int)) = true:=by simp
  clear hi h1 h2
  go_enter Tryz.func102,Tryz.ntmps102
  go_wp2_with fail
  refine (Hi.out).mono ?_
  rintro e w1 ⟨rfl,hb⟩
  simp only [World.size_alloc] at hb
  go_wp2
  go_ret
  exact ⟨by rw [H.out];rfl,((Below.refl w.heap.size w).alloc (Nat.le_refl _) _).trans (hb.mono (by omega))⟩
 ·rw [h2] at hi
  obtain ⟨Hi,H⟩:=hid2 hi h1
  clear hi h1 h2
  go_enter Tryz.func102,Tryz.ntmps102
  go_wp2_with fail
  refine (Hi.out).mono ?_
  rintro e w1 ⟨rfl,hb⟩
  simp only [World.size_alloc] at hb
  go_wp2
  go_ret
  exact ⟨by rw [H.out];rfl,((Below.refl w.heap.size w).alloc (Nat.le_refl _) _).trans (hb.mono (by omega))⟩
def loadL (gs ks : List Int) : Sl:=(List.range gs.length).map fun i => (gs.getD i 0,hasB ks (i : Int))
def dupB (ks : List Int) : Bool:=(List.range ks.length).any fun j => hasB (ks.take j) (ks.getD j 0)
def loadE (gs ks : List Int) : Int:=if 60 < gs.length then 2 else if anyP badN gs = true then 1 else if anyP (badK gs.length) ks = true then 5 else if dupB ks = true then 6 else if anyS (1000000,true) (loadL gs ks) = true then 1 else 0
theorem loadL_len (gs ks : List Int) : (loadL gs ks).length = gs.length:=by simp [loadL]
theorem loadL_get (gs ks : List Int) {n : Nat} (h : n < (loadL gs ks).length) : (loadL gs ks)[n] = (gs[n]'(by simpa [loadL] using h),hasB ks (n : Int)):=by
 have h' : n < gs.length:=by simpa [loadL] using h
 simp [loadL,List.getD_eq_getElem?_getD,List.getElem?_eq_getElem h']
theorem loadL_nil (gs : List Int) : loadL gs [] = gs.map (·,false):=by
 apply List.ext_getElem
 ·simp [loadL]
 ·intro n h1 h2
  rw [loadL_get,hasB_nil];simp
theorem loadL_set (gs ks : List Int) {n : Nat} (h : n < (loadL gs ks).length) : (loadL gs ks).set n ((loadL gs ks)[n].1,true) = loadL gs (ks ++ [(n : Int)]):=by
 apply List.ext_getElem
 ·simp [loadL]
 ·intro j h1 h2
  rw [List.getElem_set,loadL_get gs (ks ++ [(n : Int)]),hasB_snoc]
  split
  ·next e => subst e;rw [loadL_get];simp
  ·next e =>
   rw [loadL_get]
   have : ¬ ((j : Int) = n):=by omega
   simp [this]
theorem dupB_of {ks : List Int} {j : Nat} (hj : j < ks.length) (h : hasB (ks.take j) ks[j] = true) : dupB ks = true:=by
 unfold dupB
 rw [List.any_eq_true]
 exact ⟨j,by simpa using hj,by simpa [List.getD_eq_getElem?_getD,List.getElem?_eq_getElem hj] using h⟩
theorem dupB_none {ks : List Int} (h : ∀ j (hj : j < ks.length),hasB (ks.take j) ks[j] = false) : dupB ks = false:=by
 cases e : dupB ks with
 | false => rfl
 | true =>
  unfold dupB at e
  rw [List.any_eq_true] at e
  obtain ⟨j,hj,h2⟩:=e
  have hj' : j < ks.length:=by simpa using hj
  have:=h j hj'
  simp [List.getD_eq_getElem?_getD,List.getElem?_eq_getElem hj'] at h2
  rw [h2] at this;cases this
structure LoadIn (gs ks : List Int) : Prop where
 len : gs.length ≤ 60
 gens : ∀ k (h : k < gs.length),0 ≤ gs[k] ∧ gs[k] ≤ 1000000
 keys : ∀ k (h : k < ks.length),0 ≤ ks[k] ∧ ks[k] < gs.length
theorem loadE_long {gs ks : List Int} (h : 60 < gs.length) : loadE gs ks = 2:=by unfold loadE;rw [if_pos h]
theorem loadE_gen {gs ks : List Int} (h : gs.length ≤ 60) (h1 : anyP badN gs = true) : loadE gs ks = 1:=by unfold loadE;rw [if_neg (by omega),if_pos h1]
theorem loadE_key {gs ks : List Int} (h : gs.length ≤ 60) (h1 : anyP badN gs = false) (h2 : anyP (badK gs.length) ks = true) : loadE gs ks = 5:=by unfold loadE;rw [if_neg (by omega),if_neg (by simp [h1]),if_pos h2]
theorem loadIn_of {gs ks : List Int} (h : gs.length ≤ 60) (h1 : anyP badN gs = false) (h2 : anyP (badK gs.length) ks = false) : LoadIn gs ks:=by
 refine ⟨h,fun k hk => ?_,fun k hk => ?_⟩
 ·have:=anyP_false h1 hk
  simp [badN] at this;omega
 ·have:=anyP_false h2 hk
  simp [badK] at this;omega
theorem LoadIn.bad {gs ks : List Int} (h : LoadIn gs ks) : anyP badN gs = false ∧ anyP (badK gs.length) ks = false:=by
 refine ⟨anyP_none fun k hk => badN_in (h.gens k hk).1 (h.gens k hk).2,anyP_none fun k hk => badK_in (h.keys k hk).1 (h.keys k hk).2⟩
theorem LoadIn.dup {gs ks : List Int} (h : LoadIn gs ks) (h1 : dupB ks = true) : loadE gs ks = 6:=by
 unfold loadE;rw [if_neg (by have:=h.len;omega),if_neg (by simp [h.bad.1]),if_neg (by simp [h.bad.2]),if_pos h1]
theorem LoadIn.full {gs ks : List Int} (h : LoadIn gs ks) (h1 : dupB ks = false) (h2 : anyS (1000000,true) (loadL gs ks) = true) : loadE gs ks = 1:=by
 unfold loadE;rw [if_neg (by have:=h.len;omega),if_neg (by simp [h.bad.1]),if_neg (by simp [h.bad.2]),if_neg (by simp [h1]),if_pos h2]
theorem LoadIn.good {gs ks : List Int} (h : LoadIn gs ks) (h1 : dupB ks = false) (h2 : anyS (1000000,true) (loadL gs ks) = false) : loadE gs ks = 0:=by
 unfold loadE;rw [if_neg (by have:=h.len;omega),if_neg (by simp [h.bad.1]),if_neg (by simp [h.bad.2]),if_neg (by simp [h1]),if_neg (by simp [h2])]
theorem LoadIn.ok {gs ks : List Int} (h : LoadIn gs ks) (h2 : anyS (1000000,true) (loadL gs ks) = false) : SlOk (loadL gs ks):=by
 refine ⟨by rw [loadL_len];exact h.len,fun x hx => ?_⟩
 obtain ⟨n,hn,rfl⟩:=List.mem_iff_getElem.1 hx
 have hg:=loadL_get gs ks hn
 have hb:=h.gens n (by simpa [loadL] using hn)
 refine ⟨by rw [hg];exact hb.1,by rw [hg];exact hb.2,fun ht => ?_⟩
 have hne : ¬ ((loadL gs ks)[n].1 = 1000000):=by
  intro e
  have hm : ((1000000 : Int),true) ∈ loadL gs ks:=by
   have e2 : (loadL gs ks)[n] = (1000000,true):=Prod.ext e ht
   rw [← e2];exact List.getElem_mem hn
  rw [← anyS_iff,h2] at hm
  cases hm
 have : (loadL gs ks)[n].1 ≤ 1000000:=by rw [hg];exact hb.2
 omega
end Go.Proofs.YtoheblfpjinmnaaGreatDoor
namespace Go.Proofs.YtoheblfpjinmnaaGreatDoor
open Go.RowKit
theorem push_fin {p : Nat} {l : Sl} {F : List Nat} {w1 w2 : World} {v v' : Value} {o : Obj} {y : Int × Bool} (hR : RepS w1 p l F) (hp1 : w1.heap[p]? = some (.cells #[v] 160 (0,0))) (hF : F = p :: v.ownBlock.toList)
  (hown : w2.ownsRow 0 162 2 v' (l ++ [y]).length ((l ++ [y]).flatMap slotC)) (hg : (w1.alloc o).grownBy w2 v.ownBlock) (hloc : v'.ownBlock = v.ownBlock ∨ v'.ownBlock = some (w1.alloc o).heap.size) :
  ∃ g' cap',v' = .slice (some ⟨g',0,none⟩) (l.length + 1) cap' ∧ p < w2.heap.size ∧ w2.cell? ⟨p,0,none⟩ = some v ∧ w2.frozen? ⟨p,0,none⟩ = false ∧ Hid (RepS (w2.setCell ⟨p,0,none⟩ v') p (l ++ [y]) (p :: v'.ownBlock.toList)) ∧ Hid (Mod F w1 w2) ∧ Hid (∀ k ∈ v'.ownBlock.toList,k ∈ F ∨ w1.heap.size ≤ k):=by
 have hlt:=hR.lt
 have hpw:=hlt p (by rw [hF];simp)
 have hnp : F.Nodup:=by obtain ⟨_,_,_,_,h⟩:=hR;exact h
 have hvp : ∀ k,v.ownBlock = some k → k ∈ F ∧ k ≠ p:=by
  intro k hk
  refine ⟨by rw [hF];simp [hk],?_⟩
  rintro rfl
  rw [hF,hk] at hnp
  simp at hnp
 have hm : Mod F w1 w2:=((Mod.refl F w1).alloc o).grown hg (fun k hk => .inl (hvp k hk).1)
 have hp2 : w2.heap[p]? = some (.cells #[v] 160 (0,0)):=(hg.block p (by simp;omega) (fun e => (hvp p e.symm).2 rfl)).trans (blk_alloc hp1 o)
 have hgp : ∀ k,v'.ownBlock = some k → k ≠ p:=by
  intro k hk
  rcases hloc with h | h
  ·exact (hvp k (h.symm.trans hk)).2
  ·rw [h] at hk;simp at hk;omega
 obtain ⟨g',cap',cur',he,-,-,-⟩:=row_some hown (by simp)
 refine ⟨g',cap',by rw [he];simp,blk_lt hp2,by rw [blk_cell hp2];rfl,blk_free hp2 0,⟨v',by rw [blk_set hp2];rfl,row_mod hown ((Mod.refl [p] _).setCell (.inl (by simp)) _) (fun k hk => by simpa using hgp k hk),rfl,?_⟩,hm,?_⟩
 ·cases h : v'.ownBlock with
  | none => simp
  | some k => simpa using fun e => hgp k h e.symm
 ·intro k hk
  have hk' : v'.ownBlock = some k:=by simpa using hk
  rcases hloc with h | h
  ·exact .inl (hvp k (h.symm.trans hk')).1
  ·rw [h] at hk';simp at hk';right;omega
def LoadPost (gs ks : List Int) (w : World) (e : Ending) (w' : World) : Prop :=
 Below w.heap.size w w' ∧ ((loadE gs ks ≠ 0 ∧ e = .returned (.tuple #[.pointer none,.int .i64 (loadE gs ks)])) ∨
  (loadE gs ks = 0 ∧ ∃ p F,e = .returned (.tuple #[.pointer (some ⟨p,0,none⟩),.int .i64 0]) ∧ RepS w' p (loadL gs ks) F ∧ (∀ k ∈ F,w.heap.size ≤ k) ∧ SlOk (loadL gs ks)))
set_option maxHeartbeats 1000000 in
theorem load_long (A : Option Addr) (c : Nat) (gs : List Int) (A' : Option Addr) (c' : Nat) (ks : List Int) (w : World) (hl : gs.length ≤ 9223372036854775807) (h60 : 60 < gs.length) :
  Calls Tryz.prog 68 #[.slice A gs.length c,.slice A' ks.length c'] w (LoadPost gs ks w):=by
 have H:=Lib.hid (loadE_long (ks:=ks) h60)
 have hin : (60 : Int) < (gs.length : Int):=by omega
 go_enter Tryz.func68,Tryz.ntmps68
 go_wp2
 refine bodyPost_ret (v:=.tuple #[.pointer none,.int .i64 2]) (by unfold results;try go_simp) rfl ?_
 exact ⟨(Below.refl _ _).alloc (Nat.le_refl _) _,.inl ⟨by rw [H.out];omega,by rw [H.out]⟩⟩
set_option maxHeartbeats 1000000 in
theorem load_gen (A : Option Addr) (c : Nat) (gs : List Int) (A' : Option Addr) (c' : Nat) (ks : List Int) (w : World) (h60 : gs.length ≤ 60) (hA : Lies w w.heap.size A (ints gs)) (hb : anyP badN gs = true) :
  Calls Tryz.prog 68 #[.slice A gs.length c,.slice A' ks.length c'] w (LoadPost gs ks w):=by
 have hE:=loadE_gen (ks:=ks) h60 hb
 have h1:=containsN_any A c gs w.heap.size _ (by omega) (hA.below ((Below.refl w.heap.size w).alloc (Nat.le_refl _) (.cells #[.slice A gs.length c] 22)))
 rw [hb] at h1
 obtain ⟨H,H1⟩:=hid2 hE h1
 have hin : (gs.length : Int) ≤ (60 : Int):=by omega
 clear hE h1 hb hA
 go_enter Tryz.func68,Tryz.ntmps68
 go_wp2_with fail
 refine H1.out.mono ?_
 rintro e w1 ⟨rfl,rfl⟩
 go_wp2
 refine bodyPost_ret (v:=.tuple #[.pointer none,.int .i64 1]) (by unfold results;try go_simp) rfl ?_
 exact ⟨(Below.refl _ _).alloc (Nat.le_refl _) _,.inl ⟨by rw [H.out];omega,by rw [H.out]⟩⟩
set_option maxHeartbeats 1000000 in
theorem load_key (A : Option Addr) (c : Nat) (gs : List Int) (A' : Option Addr) (c' : Nat) (ks : List Int) (w : World) (h60 : gs.length ≤ 60) (hk : ks.length ≤ 9223372036854775807) (hA : Lies w w.heap.size A (ints gs)) (hA' : Lies w w.heap.size A' (ints ks))
  (hb : anyP badN gs = false) (hb2 : anyP (badK gs.length) ks = true) :
  Calls Tryz.prog 68 #[.slice A gs.length c,.slice A' ks.length c'] w (LoadPost gs ks w):=by
 have hE:=loadE_key h60 hb hb2
 have hm:=(Below.refl w.heap.size w).alloc (Nat.le_refl _) (.cells #[.slice A gs.length c] 22)
 have h1:=containsN_any A c gs w.heap.size _ (by omega) (hA.below hm)
 have h2:=containsK_any w.heap.size A gs.length c A' c' ks w.heap.size _ hk (hA'.below hm) (by simp) (by omega)
 rw [hb] at h1
 rw [hb2] at h2
 obtain ⟨H,H1,H2⟩:=hid3 hE h1 h2
 have hin : (gs.length : Int) ≤ (60 : Int):=by omega
 clear hE h1 h2 hb hb2 hA hA' hm
 go_enter Tryz.func68,Tryz.ntmps68
 go_wp2_with fail
 refine H1.out.mono ?_
 rintro e w1 ⟨rfl,rfl⟩
 go_wp2_with fail
 refine H2.out.mono ?_
 rintro e w1 ⟨rfl,rfl⟩
 go_wp2
 refine bodyPost_ret (v:=.tuple #[.pointer none,.int .i64 5]) (by unfold results;try go_simp) rfl ?_
 exact ⟨(Below.refl _ _).alloc (Nat.le_refl _) _,.inl ⟨by rw [H.out];omega,by rw [H.out]⟩⟩
theorem Lies.int_at {w : World} {B : Nat} {A : Option Addr} {zs : List Int} (h : Lies w B A (ints zs)) {k : Nat} (hk : k < zs.length) :
  ∃ b o,A = some ⟨b,o,none⟩ ∧ b < B ∧ w.cell? ⟨b,o + k,none⟩ = some (.int .i64 zs[k]):=by
 have h1 : Lies w B A (zs.flatMap intC):=by rw [← ints_flat];exact h
 obtain ⟨b,o,e,hb,hc⟩:=h1.rec_at (n:=1) (fun _ => rfl) (by omega) hk
 have:=hc 0 _ rfl
 rw [Nat.mul_one,Nat.add_zero] at this
 exact ⟨b,o,e,hb,this⟩
theorem RepS.open_ {w : World} {p : Nat} {l : Sl} {F : List Nat} (h : RepS w p l F) : ∃ A cap,w.heap[p]? = some (.cells #[.slice A l.length cap] 160 (0,0)) ∧ w.ownsRow 0 162 2 (.slice A l.length cap) l.length (l.flatMap slotC) ∧ F = p :: (Value.slice A l.length cap).ownBlock.toList:=by
 obtain ⟨v,h1,h2,h3,-⟩:=h
 obtain ⟨A,cap,rfl,-,-⟩:=row_slice h2
 exact ⟨A,cap,h1,h2,h3⟩
set_option maxHeartbeats 4000000 in
theorem load_in (A : Option Addr) (c : Nat) (gs : List Int) (A' : Option Addr) (c' : Nat) (ks : List Int) (w : World) (hk : ks.length ≤ 9223372036854775807) (hA : Lies w w.heap.size A (ints gs)) (hA' : Lies w w.heap.size A' (ints ks)) (hi : LoadIn gs ks) :
  Calls Tryz.prog 68 #[.slice A gs.length c,.slice A' ks.length c'] w (LoadPost gs ks w):=by
 have hm:=(Below.refl w.heap.size w).alloc (Nat.le_refl _) (.cells #[.slice A gs.length c] 22)
 have h1:=containsN_any A c gs w.heap.size _ (by have:=hi.len;omega) (hA.below hm)
 have h2:=containsK_any w.heap.size A gs.length c A' c' ks w.heap.size _ hk (hA'.below hm) (by simp) (by have:=hi.len;omega)
 rw [hi.bad.1] at h1
 rw [hi.bad.2] at h2
 obtain ⟨H1,H2,HA,HA',HI,HM⟩:=hid6 h1 h2 hA hA' hi hm
 have h60:=hi.len
 have hin : (gs.length : Int) ≤ (60 : Int):=by omega
 clear h1 h2 hA hA' hi hm
 go_enter Tryz.func68,Tryz.ntmps68
 go_wp2_with fail
 refine H1.out.mono ?_
 rintro e w1 ⟨rfl,rfl⟩
 go_wp2_with fail
 refine H2.out.mono ?_
 rintro e w1 ⟨rfl,rfl⟩
 go_wp2_with fail
 refine (slotsNew_any _).mono ?_
 rintro e w1 ⟨p,rfl,hb1,hs1,hp1⟩
 have d0 : w1.cell? ⟨w.heap.size,0,none⟩ = some (.slice A gs.length c):=(hb1.cell (p:=⟨w.heap.size,0,none⟩) (by simp)).trans (by simp)
 have hsz1:=hb1.size
 have hb2:=HM.out.trans (hb1.mono (by simp))
 simp only [World.size_alloc] at hsz1 hp1
 obtain ⟨HS1,HB1⟩:=hid2 hs1 hb2
 have hpw : w.heap.size ≤ p:=by omega
 clear hs1 hb1 H1 H2 HM hb2 hin hsz1 hp1
 go_wp2
 clear d0
 go_loopw [25] (fun i wr => ∃ (k : Nat) (F : List Nat),k ≤ gs.length ∧ i = .int .i64 k ∧ RepS wr p ((gs.take k).map (·,false)) F ∧ (∀ b ∈ F,w.heap.size ≤ b) ∧ Below w.heap.size w wr) (fun i _ => gs.length - (Go.RowKit.intOf i).toNat)
 case atStart => exact ⟨0,_,by omega,rfl,HS1.out,by simpa using hpw,HB1.out⟩
 case round =>
  obtain ⟨k,F,hkl,rfl,hs,hF,hbel⟩:=hrel
  have hsz:=hbel.size
  by_cases hlt : k < gs.length
  ·obtain ⟨ab,ao,rfl,hab,hcell⟩:=HA.out.int_at hlt
   have c0:=(hbel.cell (p:=⟨ab,ao + k,none⟩) hab).trans hcell
   have hab2 : ab < wr.heap.size:=by omega
   have hs2 : (gs.take (k + 1)).map (·,false) = (gs.take k).map (·,false) ++ [(gs[k],false)]:=by rw [take_succ_get gs k hlt,List.map_append];rfl
   have hlen : ((gs.take k).map (·,false)).length ≤ 60:=by simp;omega
   generalize ((gs.take k).map (·,false)) = L at *
   obtain ⟨B,cap,hp,hrow,hFe⟩:=hs.open_
   have c1:=blk_cell hp 0
   simp at c1
   have hpl:=blk_lt hp
   obtain ⟨HS,HP,HR,HFe,HF,HBel⟩:=hid6 hs hp hrow hFe hF hbel
   generalize gs[k] = x at *
   have Hs2:=Lib.hid hs2
   clear hcell hs2 hs hp hrow hFe hF hbel HS1 HB1
   go_wp2_with (at_builtin;refine app_slot rfl _ _ rfl 0 _ L (x,false) ⟨wr.heap.size,0,none⟩ 1 rfl (row_mod HR.out ((Mod.refl [] wr).alloc _) (by simp)) rfl (new_rec rfl rfl) (by omega) (by omega) ?_;intro v' w2 hown2 hg1 hloc;obtain ⟨g',cap',rfl,n1,n2,n3,KR,KM,KF⟩:=push_fin HS.out HP.out HFe.out hown2 hg1 hloc;clear hown2 hg1 hloc)
   go_roundw
   case rel =>
    refine ⟨k + 1,_,by omega,by go_num,by rw [Hs2.out];exact KR.out,?_,?_⟩
    ·intro b hb
     rcases List.mem_cons.1 hb with rfl | hb
     ·exact hpw
     ·rcases KF.out b hb with h | h
      ·exact HF.out b h
      ·omega
    ·have hpF : p ∈ F:=by rw [HFe.out];simp
     exact HBel.out.trans ((KM.out.setCell (.inl hpF) _).toBelow HF.out hsz)
   case measure => simp [Go.RowKit.intOf];omega
  ·obtain rfl : k = gs.length:=by omega
   rw [List.take_length,← loadL_nil] at hs
   obtain ⟨HS,HF,HBel⟩:=hid3 hs hF hbel
   clear hs hF hbel HS1 HB1
   go_wp2
   go_loopw [43] (fun i wr => ∃ n : Nat,n ≤ ks.length ∧ i = .int .i64 n ∧ RepS wr p (loadL gs (ks.take n)) F ∧ (∀ j (h : j < n) (h' : j < ks.length),hasB (ks.take j) ks[j] = false) ∧ Below w.heap.size w wr) (fun i _ => ks.length - (Go.RowKit.intOf i).toNat)
   case atStart => exact ⟨0,by omega,rfl,HS.out,fun j h => by omega,HBel.out⟩
   case round =>
    obtain ⟨n,hn,rfl,hs,hno,hbel⟩:=hrel
    have hsz:=hbel.size
    have hlL:=loadL_len gs (ks.take n)
    by_cases hlt : n < ks.length
    ·obtain ⟨ab,ao,rfl,hab,hcell⟩:=HA'.out.int_at hlt
     have c0:=(hbel.cell (p:=⟨ab,ao + n,none⟩) hab).trans hcell
     obtain ⟨hz0,hz1⟩:=HI.out.keys n hlt
     obtain ⟨m,hm⟩:=Int.eq_ofNat_of_zero_le hz0
     rw [hm] at c0 hz1
     have hmL : m < (loadL gs (ks.take n)).length:=by rw [hlL];omega
     have hmi : (m : Int) < ((loadL gs (ks.take n)).length : Int):=by omega
     obtain ⟨g0,cap,hp,hgF,hgl,e0,e1,hfz,-,hset⟩:=hs.at_ hmL
     have hset':=hset true
     rw [loadL_set gs (ks.take n) hmL,← hm,← take_succ_get ks n hlt] at hset'
     rw [loadL_get gs (ks.take n) hmL] at e0 e1
     simp only at e0 e1
     have c1:=blk_cell hp 0
     simp only [eA,eZ] at c1
     have hpl:=blk_lt hp
     have f1:=hfz (m * 2 + 1)
     have hdup : hasB (ks.take n) (m : Int) = true → loadE gs ks = 6:=fun h => HI.out.dup (dupB_of hlt (by rw [hm];exact h))
     have hno2 : hasB (ks.take n) (m : Int) = false → ∀ j (h : j < n + 1) (h' : j < ks.length),hasB (ks.take j) ks[j] = false:=by
      intro hf j h h'
      by_cases e : j = n
      ·subst e;rw [hm];exact hf
      ·exact hno j (by omega) h'
     have hab2 : ab < wr.heap.size:=by omega
     clear hset
     generalize hasB (ks.take n) (m : Int) = r at *
     generalize gs[m]'(by omega) = x at *
     generalize loadL gs (ks.take n) = L at *
     obtain ⟨HS2,HSet,HBel2,Hdup,Hno2,HG,HP⟩:=hid7 hs hset' hbel hdup hno2 hgF hp
     clear hs hset' hbel hdup hno2 hno hcell hm hfz hgF hp HS HBel
     cases r with
     | true =>
      have H:=Lib.hid (Hdup.out rfl)
      go_wp2
      refine bodyPost_ret (v:=.tuple #[.pointer none,.int .i64 6]) (by unfold results;try go_simp) rfl ?_
      exact ⟨HBel2.out,.inl ⟨by rw [H.out];omega,by rw [H.out]⟩⟩
     | false =>
      go_wp2
      go_roundw
      case rel => exact ⟨n + 1,by omega,by go_num,HSet.out,Hno2.out rfl,HBel2.out.trans (((Mod.refl F wr).setCell (p:=⟨g0,m * 2 + 1,none⟩) (.inl HG.out) _).toBelow HF.out hsz)⟩
      case measure => simp [Go.RowKit.intOf];omega
    ·obtain rfl : n = ks.length:=by omega
     rw [List.take_length] at hs hlL
     have hd : dupB ks = false:=dupB_none fun j hj => hno j hj hj
     obtain ⟨B,cap,hp,hrow,hFe⟩:=hs.open_
     have c1:=blk_cell hp 0
     simp only [eA,eZ] at c1
     have hpl:=blk_lt hp
     have hcs:=containsSlot_any _ _ 1000000 true wr hrow (by rw [hlL];omega)
     obtain ⟨HCs,HS2,HBel2,HD⟩:=hid4 hcs hs hbel hd
     clear hcs hs hbel hd hno hrow hp hFe HS HBel hlt
     generalize (loadL gs ks).length = NL at *
     subst hlL
     go_wp2_with fail
     refine HCs.out.mono ?_
     rintro e w4 ⟨rfl,hb4⟩
     have HB4:=Lib.hid (HBel2.out.trans (hb4.mono hsz))
     have HS4:=Lib.hid (HS2.out.mod (Mod.ofBelow hb4) (by simp))
     clear hb4 HCs
     cases hany : anyS (1000000,true) (loadL gs ks) with
     | true =>
      have H:=Lib.hid (HI.out.full HD.out hany)
      clear hany
      go_wp2
      refine bodyPost_ret (v:=.tuple #[.pointer none,.int .i64 1]) (by unfold results;try go_simp) rfl ?_
      exact ⟨HB4.out,.inl ⟨by rw [H.out];omega,by rw [H.out]⟩⟩
     | false =>
      have H:=Lib.hid (HI.out.good HD.out hany)
      have HO:=Lib.hid (HI.out.ok hany)
      clear hany
      go_wp2
      refine bodyPost_ret (v:=.tuple #[.pointer (some ⟨p,0,none⟩),.int .i64 0]) (by unfold results;try go_simp) rfl ?_
      exact ⟨HB4.out,.inr ⟨H.out,p,F,rfl,HS4.out,HF.out,HO.out⟩⟩
theorem load_any (A : Option Addr) (c : Nat) (gs : List Int) (A' : Option Addr) (c' : Nat) (ks : List Int) (w : World) (hg : gs.length ≤ 9223372036854775807) (hk : ks.length ≤ 9223372036854775807) (hA : Lies w w.heap.size A (ints gs)) (hA' : Lies w w.heap.size A' (ints ks)) :
  Calls Tryz.prog 68 #[.slice A gs.length c,.slice A' ks.length c'] w (LoadPost gs ks w):=by
 by_cases h60 : 60 < gs.length
 ·exact load_long A c gs A' c' ks w hg h60
 ·cases h1 : anyP badN gs with
  | true => exact load_gen A c gs A' c' ks w (by omega) hA h1
  | false =>
   cases h2 : anyP (badK gs.length) ks with
   | true => exact load_key A c gs A' c' ks w (by omega) hk hA hA' h1 h2
   | false => exact load_in A c gs A' c' ks w hk hA hA' (loadIn_of (by omega) h1 h2)
end Go.Proofs.YtoheblfpjinmnaaGreatDoor
