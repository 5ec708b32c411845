import Derived.Test.YtoheblfpjinmnaaGreatDoorTextParsesJ17
import Derived.Test.YtoheblfpjinmnaaGreatDoorRows
set_option linter.unusedVariables false
set_option linter.unusedSimpArgs false
/- A part of the proof that TextParses returns true. -/
namespace Go.Proofs.YtoheblfpjinmnaaGreatDoor
open Go Go.RowKit
set_option maxHeartbeats 1000000 in
theorem copyInt_any (A : Option Addr) (c : Nat) (l : List Int) (B : Nat) (w : World) (hl : l.length ≤ 60) (hA : Lies w B A (ints l)) (hB : B ≤ w.heap.size) :
  Calls Tryz.prog 114 #[.slice A l.length c] w (MadeInts w.heap.size l w):=by
 have hrow : w.ownsRow w.heap.size 3 1 (.slice none 0 0) 0 []:=⟨rfl,.inl ⟨rfl,rfl⟩⟩
 obtain ⟨i0,hi,hz0,hz1,hz2⟩:=info_parts info_int
 obtain ⟨Hi,Hz0,Hz1,Hz2⟩:=hid4 hi hz0 hz1 hz2
 clear hi hz0 hz1 hz2
 cases A with
 | none =>
  have hl0 : l = []:=by
   cases l with
   | nil => rfl
   | cons x l =>
    obtain ⟨a,h,-⟩:=hA 0 _ rfl
    cases h
  subst hl0
  clear hA
  go_enter Tryz.func114,Tryz.ntmps114
  go_wp2
  go_ret
  exact ⟨_,rfl,hrow,Below.refl _ _⟩
 | some a =>
  have HA:=Lib.hid hA
  have hcell : ∀ j u,(ints l)[j]? = some u → w.cell? (a.add j) = some u:=by
   intro j u hu
   obtain ⟨a',h,-,hc⟩:=HA.out j u hu
   cases h;exact hc
  obtain ⟨Hc,Hr⟩:=hid2 hcell hrow
  clear hcell hrow hA
  have hone : ∀ u ∈ ints l,u.oneCell' = true:=by
   intro u hu
   simp only [ints,List.mem_map] at hu
   obtain ⟨x,-,rfl⟩:=hu
   rfl
  have Ho:=Lib.hid hone
  clear hone
  go_enter Tryz.func114,Tryz.ntmps114
  go_wp2_with (at_builtin;refine wpList_append_own w rfl _ _ 22 rfl w.heap.size 3 i0 (.int .i64 0) 1 8 Tryz.underlying22 Hi.out Hz0.out Hz1.out Hz2.out rfl (by omega) (.slice none 0 0) 0 [] rfl Hr.out a l.length c (ints l) rfl (by simp [ints]) Hc.out Ho.out (by unfold maxLen;omega) (by omega) (Nat.le_refl _) ?_;intro v' w' h1 h2 h3)
  go_ret
  refine ⟨_,rfl,by simpa using h1,(Below.refl _ _).grown h2 (Nat.le_refl _) (by simp [Value.ownBlock])⟩
end Go.Proofs.YtoheblfpjinmnaaGreatDoor
namespace Go.Proofs.YtoheblfpjinmnaaGreatDoor
open Go Go.ChangeShapes Go.WideShapes Go.RowKit
end Go.Proofs.YtoheblfpjinmnaaGreatDoor
namespace Go.Proofs.YtoheblfpjinmnaaGreatDoor
open Go Go.RowKit
attribute [local go_sem] AllFrom.cons_eq AllFrom.nil_eq putF_nil putF_cons wantedL_none wantedL_some OpGoalT OpGoalS OpGoalP OpGoalV YieldsR preF_nil preF_cons
theorem made_bools (n : Nat) : (madeCells (Value.bool false).cells (n * 1)).toList = bools (List.replicate n false):=by
 apply List.ext_getElem
 ·simp [madeCells,bools]
 ·intro i h1 h2
  simp [madeCells,bools,Value.cells,Nat.mod_one]
theorem make_bools (w : World) (n : Nat) (hn : n ≤ 60) : ∃ w',(Instr.makeSlice 88 (.int .i64 (n : Int)) (.int .i64 (n : Int))).run Tryz.prog w = .ok (.slice (some ⟨w.heap.size,0,none⟩) n n) w' ∧
  w'.ownsRow w.heap.size 4 1 (.slice (some ⟨w.heap.size,0,none⟩) n n) n (bools (List.replicate n false)) ∧ w.grownBy w' none:=by
 obtain ⟨i0,hi,hz0,hz1,hz2⟩:=info_parts info_bool
 have h:=run_make_full (P:=Tryz.prog) w w.heap.size 88 4 i0 (.bool false) 1 Tryz.underlying88 hi hz0 hz1 .i64 .i64 n (by rw [hz2];omega) (by unfold maxLen;omega) (Nat.le_refl _)
 rw [made_bools] at h
 exact h
theorem yr_make {o : Oper} {ρ : Operand → Value} {V : World} {J : Value → World → Prop} (x y : Operand) (n : Nat) (ho : o.op = .makeSlice 88 x y) (hx : ρ x = .int .i64 (n : Int)) (hy : ρ y = .int .i64 (n : Int)) (hn : n ≤ 60)
  (h : ∀ V2,V2.ownsRow V.heap.size 4 1 (.slice (some ⟨V.heap.size,0,none⟩) n n) n (bools (List.replicate n false)) → Below V.heap.size V V2 → J (.slice (some ⟨V.heap.size,0,none⟩) n n) V2) : YieldsR Tryz.prog o ρ V J:=by
 obtain ⟨V2,hr,hown,hgr⟩:=make_bools V n hn
 unfold YieldsR execOp
 simp only [ho,resolve,Sem.run_bind,Sem.run_pure,Result.andThen_ok,hx,hy,hr]
 exact h V2 hown ((Below.refl _ _).grown hgr (Nat.le_refl _) (by simp))
theorem wrapMid (z : Int) (h1 : -1000000 ≤ z) (h2 : z ≤ 1000000) : IntKind.i64.wrap z = z:=by
 by_cases h : 0 ≤ z
 ·exact wrapSmall z h h2
 ·have e : z % 2 ^ 64 = z + 2 ^ 64:=by
   rw [← Int.add_emod_right]
   exact Int.emod_eq_of_lt (by omega) (by omega)
  simp only [IntKind.wrap,IntKind.bits,IntKind.signed,e,Bool.true_and,decide_eq_true_eq]
  split <;> omega
def RLoadPost (gs ks : List Int) (w : World) (e : Ending) (w' : World) : Prop :=
 Below w.heap.size w w' ∧ ((loadE gs ks ≠ 0 ∧ e = .returned (.tuple #[.pointer none,.int .i64 (loadE gs ks)])) ∨
  (loadE gs ks = 0 ∧ ∃ p F,e = .returned (.tuple #[.pointer (some ⟨p,0,none⟩),.int .i64 0]) ∧ RepRS w' p (loadL gs ks) F ∧ (∀ k ∈ F,w.heap.size ≤ k) ∧ SlOk (loadL gs ks)))
theorem LoadIn.spent {gs ks : List Int} (h : LoadIn gs ks) {j m : Nat} (hj : j < ks.length) (hm : ks[j] = m) (hg : gs.getD m 0 = 1000000) : anyS (1000000,true) (loadL gs ks) = true:=by
 have hml : m < gs.length:=by have:=(h.keys j hj).2;omega
 have hmL : m < (loadL gs ks).length:=by rw [loadL_len];exact hml
 have e:=loadL_get gs ks hmL
 rw [List.getD_eq_getElem?_getD,List.getElem?_eq_getElem hml,Option.getD_some] at hg
 rw [hg,(hasB_iff ks (m : Int)).2 (by rw [← hm];exact List.getElem_mem hj)] at e
 rw [anyS_iff,← e]
 exact List.getElem_mem hmL
theorem LoadIn.unspent {gs ks : List Int} (h : LoadIn gs ks) (hno : ∀ j (hj : j < ks.length) (m : Nat),ks[j] = m → gs.getD m 0 ≠ 1000000) : anyS (1000000,true) (loadL gs ks) = false:=by
 cases e : anyS (1000000,true) (loadL gs ks) with
 | false => rfl
 | true =>
  rw [anyS_iff] at e
  obtain ⟨m,hm,he⟩:=List.mem_iff_getElem.1 e
  rw [loadL_get gs ks hm] at he
  have hml : m < gs.length:=by rwa [loadL_len] at hm
  have h1 : gs[m] = 1000000:=congrArg Prod.fst he
  have h2 : hasB ks (m : Int) = true:=congrArg Prod.snd he
  rw [hasB_iff] at h2
  obtain ⟨j,hj,hjm⟩:=List.mem_iff_getElem.1 h2
  exact absurd (by rw [List.getD_eq_getElem?_getD,List.getElem?_eq_getElem hml];exact h1) (hno j hj m hjm)
theorem outside_gen (x : Int) : outsideB x 0 1000000 = badN x:=rfl
theorem outside_key (n : Nat) (x : Int) : outsideB x 0 ((n : Int) - 1) = badK n x:=by
 unfold outsideB badK
 congr 1
 simp;omega
structure TwoI (V : World) (i j : Nat) (L : Nat → Bool) (σ : Nat → Value) : Prop where
 a : L i = true → ∀ k,(σ i).ownBlock = some k → k < V.heap.size
 b : L j = true → ∀ k,(σ j).ownBlock = some k → k < V.heap.size
 ne : L i = true → L j = true → ∀ k,(σ i).ownBlock = some k → (σ j).ownBlock ≠ some k
theorem TwoI.nil {V : World} {i j : Nat} {σ : Nat → Value} : TwoI V i j (fun _ => false) σ:=⟨fun h => (nomatch h),fun h => (nomatch h),fun h => (nomatch h)⟩
theorem TwoI.other {V V' : World} {i j k : Nat} {L : Nat → Bool} {σ : Nat → Value} {v : Value} (h : TwoI V i j L σ) (hs : V.heap.size ≤ V'.heap.size) (hi : i ≠ k) (hj : j ≠ k) : TwoI V' i j (upd L k) (updv σ k v):=by
 have e1 : upd L k i = L i:=by simp [upd,hi]
 have e2 : upd L k j = L j:=by simp [upd,hj]
 have e3 : updv σ k v i = σ i:=by simp [updv,hi]
 have e4 : updv σ k v j = σ j:=by simp [updv,hj]
 refine ⟨?_,?_,?_⟩
 ·rw [e1,e3];intro hl b hb;have:=h.a hl b hb;omega
 ·rw [e2,e4];intro hl b hb;have:=h.b hl b hb;omega
 ·rw [e1,e2,e3,e4];exact h.ne
theorem TwoI.left {V V' : World} {i j : Nat} {L : Nat → Bool} {σ : Nat → Value} {v : Value} (h : TwoI V i j L σ) (hs : V.heap.size ≤ V'.heap.size) (hij : j ≠ i) (hv : ∀ k,v.ownBlock = some k → V.heap.size ≤ k ∧ k < V'.heap.size) : TwoI V' i j (upd L i) (updv σ i v):=by
 have e2 : upd L i j = L j:=by simp [upd,hij]
 have e3 : updv σ i v i = v:=by simp [updv]
 have e4 : updv σ i v j = σ j:=by simp [updv,hij]
 refine ⟨?_,?_,?_⟩
 ·rw [e3];intro _ b hb;exact (hv b hb).2
 ·rw [e2,e4];intro hl b hb;have:=h.b hl b hb;omega
 ·rw [e2,e3,e4];intro _ hl b hb hb';have:=h.b hl b hb';have:=hv b hb;omega
theorem TwoI.right {V V' : World} {i j : Nat} {L : Nat → Bool} {σ : Nat → Value} {v : Value} (h : TwoI V i j L σ) (hs : V.heap.size ≤ V'.heap.size) (hij : i ≠ j) (hv : ∀ k,v.ownBlock = some k → V.heap.size ≤ k ∧ k < V'.heap.size) : TwoI V' i j (upd L j) (updv σ j v):=by
 have e2 : upd L j i = L i:=by simp [upd,hij]
 have e3 : updv σ j v j = v:=by simp [updv]
 have e4 : updv σ j v i = σ i:=by simp [updv,hij]
 refine ⟨?_,?_,?_⟩
 ·rw [e2,e4];intro hl b hb;have:=h.a hl b hb;omega
 ·rw [e3];intro _ b hb;exact (hv b hb).2
 ·rw [e2,e3,e4];intro hl _ b hb hb';have:=h.a hl b hb;have:=hv b hb';omega
theorem gens_load (gs : List Int) : gensS (loadL gs []) = gs:=by rw [loadL_nil];simp [gensS,Function.comp_def]
theorem lives_load (gs : List Int) : livesS (loadL gs []) = List.replicate gs.length false:=by
 rw [loadL_nil]
 apply List.ext_getElem
 ·simp [livesS]
 ·intro i h1 h2
  simp [livesS]
theorem load_rep {gs : List Int} {V w : World} {v1 v4 : Value} (h1 : V.ownsRow w.heap.size 3 1 v1 gs.length (ints gs)) (h4 : V.ownsRow w.heap.size 4 1 v4 gs.length (bools (List.replicate gs.length false))) (hne : ∀ k,v1.ownBlock = some k → v4.ownBlock ≠ some k) :
  RepRS (V.alloc (.cells #[v1,v4] 90)) V.heap.size (loadL gs []) (V.heap.size :: (v1.ownBlock.toList ++ v4.ownBlock.toList)):=by
 refine ⟨v1,v4,heap_alloc_new V _,?_,?_,rfl,?_⟩
 ·rw [gens_load,loadL_len];exact row_base (h1.alloc _) (fun _ _ => Nat.zero_le _)
 ·rw [lives_load,loadL_len];exact row_base (h4.alloc _) (fun _ _ => Nat.zero_le _)
 ·have a1 : ∀ k,v1.ownBlock = some k → k < V.heap.size:=fun k hk => row_lt h1 k hk
  have a4 : ∀ k,v4.ownBlock = some k → k < V.heap.size:=fun k hk => row_lt h4 k hk
  cases e1 : v1.ownBlock with
  | none =>
   cases e4 : v4.ownBlock with
   | none => simp
   | some b => have:=a4 b e4;simp;omega
  | some a =>
   have h:=a1 a e1
   cases e4 : v4.ownBlock with
   | none => simp;omega
   | some b =>
    have h':=a4 b e4
    have hn:=hne a e1
    rw [e4] at hn
    simp at hn ⊢
    refine ⟨by omega,fun e => hn e.symm⟩
set_option maxRecDepth 20000 in
set_option maxHeartbeats 4000000 in
theorem rload_any (A : Option Addr) (c : Nat) (gs : List Int) (A' : Option Addr) (c' : Nat) (ks : List Int) (w : World) (hg : gs.length ≤ 9223372036854775807) (hk : ks.length ≤ c') (hc' : c' ≤ 9223372036854775807) (hA : Lies w w.heap.size A (ints gs)) (hA' : Lies w w.heap.size A' (ints ks)) :
  Calls Tryz.prog 84 #[.slice A gs.length c,.slice A' ks.length c'] w (RLoadPost gs ks w):=by
 by_cases h60 : 60 < gs.length
 ·have H:=Lib.hid (loadE_long (ks:=ks) h60)
  have hin : (60 : Int) < (gs.length : Int):=by omega
  go_enter Tryz.func84,Tryz.ntmps84
  go_wp2
  refine bodyPost_ret (v:=.tuple #[.pointer none,.int .i64 2]) (by unfold results;try go_simp) rfl ?_
  exact ⟨Below.refl _ _,.inl ⟨by rw [H.out];omega,by rw [H.out]⟩⟩
 ·have HA:=Lib.hid hA;have HA':=Lib.hid hA'
  have hin : (gs.length : Int) ≤ (60 : Int):=by omega
  have hle : gs.length ≤ 60:=by omega
  clear hA hA' h60
  go_enter Tryz.func84,Tryz.ntmps84
  go_wp2
  go_loop [20] (fun i => ∃ k : Nat,k ≤ gs.length ∧ i = .int .i64 k ∧ (∀ j (h : j < k) (h' : j < gs.length),badN gs[j] = false)) (fun i => gs.length - (Go.RowKit.intOf i).toNat)
  case atStart => exact ⟨0,by omega,rfl,fun j h => by omega⟩
  case round =>
   obtain ⟨k,hkl,rfl,hno⟩:=hrel
   by_cases hlt : k < gs.length
   ·obtain ⟨ab,ao,rfl,hab,c0⟩:=HA.out.int_at hlt
    have hyes : badN gs[k] = true → loadE gs ks = 1:=fun h => loadE_gen (by omega) (anyP_of hlt h)
    have hno2 : badN gs[k] = false → ∀ j (h : j < k + 1) (h' : j < gs.length),badN gs[j] = false:=by
     intro hf j h h'
     by_cases e : j = k
     ·subst e;exact hf
     ·exact hno j (by omega) h'
    have ho:=outside_any gs[k] 0 1000000 w
    rw [outside_gen] at ho
    generalize badN gs[k] = r at *
    generalize gs[k] = x at *
    obtain ⟨Hno2,Hyes,Ho⟩:=hid3 hno2 hyes ho
    clear hno hno2 hyes ho
    cases r with
    | true =>
     have H:=Lib.hid (Hyes.out rfl)
     go_wp2_with (go_at_call 15;refine (Ho.out).mono ?_;rintro e w1 ⟨rfl,rfl⟩)
     refine bodyPost_ret (v:=.tuple #[.pointer none,.int .i64 1]) (by unfold results;try go_simp) rfl ?_
     exact ⟨Below.refl _ _,.inl ⟨by rw [H.out];omega,by rw [H.out]⟩⟩
    | false =>
     go_wp2_with (go_at_call 15;refine (Ho.out).mono ?_;rintro e w1 ⟨rfl,rfl⟩)
     go_round
     case rel => exact ⟨k + 1,by omega,by go_num,Hno2.out trivial⟩
     case measure => simp [Go.RowKit.intOf];omega
   ·obtain rfl : k = gs.length:=by omega
    have hbn : anyP badN gs = false:=anyP_none fun j hj => hno j hj hj
    clear hno hlt
    have hn1:=wrapMid ((gs.length : Int) - 1) (by omega) (by omega)
    go_wp2
    go_loop [29] (fun i => ∃ k : Nat,k ≤ ks.length ∧ i = .int .i64 k ∧ (∀ j (h : j < k) (h' : j < ks.length),badK gs.length ks[j] = false)) (fun i => ks.length - (Go.RowKit.intOf i).toNat)
    case atStart => exact ⟨0,by omega,rfl,fun j h => by omega⟩
    case round =>
     obtain ⟨k,hkl2,rfl,hno⟩:=hrel
     by_cases hlt : k < ks.length
     ·obtain ⟨ab,ao,rfl,hab,c0⟩:=HA'.out.int_at hlt
      have hyes : badK gs.length ks[k] = true → loadE gs ks = 5:=fun h => loadE_key (by omega) hbn (anyP_of hlt h)
      have hno2 : badK gs.length ks[k] = false → ∀ j (h : j < k + 1) (h' : j < ks.length),badK gs.length ks[j] = false:=by
       intro hf j h h'
       by_cases e : j = k
       ·subst e;exact hf
       ·exact hno j (by omega) h'
      have ho:=outside_any ks[k] 0 ((gs.length : Int) - 1) w
      rw [outside_key] at ho
      generalize badK gs.length ks[k] = r at *
      generalize ks[k] = x at *
      obtain ⟨Hno2,Hyes,Ho,Hbn⟩:=hid4 hno2 hyes ho hbn
      clear hno hno2 hyes ho hbn
      cases r with
      | true =>
       have H:=Lib.hid (Hyes.out rfl)
       go_wp2_with (go_at_call 15;refine (Ho.out).mono ?_;rintro e w1 ⟨rfl,rfl⟩)
       refine bodyPost_ret (v:=.tuple #[.pointer none,.int .i64 5]) (by unfold results;try go_simp) rfl ?_
       exact ⟨Below.refl _ _,.inl ⟨by rw [H.out];omega,by rw [H.out]⟩⟩
      | false =>
       go_wp2_with (go_at_call 15;refine (Ho.out).mono ?_;rintro e w1 ⟨rfl,rfl⟩)
       go_round
       case rel => exact ⟨k + 1,by omega,by go_num,Hno2.out trivial⟩
       case measure => simp [Go.RowKit.intOf];omega
     ·obtain rfl : k = ks.length:=by omega
      have hbk : anyP (badK gs.length) ks = false:=anyP_none fun j hj => hno j hj hj
      have HI:=Lib.hid (loadIn_of (by omega) hbn hbk)
      clear hno hlt hbn hbk
      go_wp2
      refine wp_planF 5 [0,2] [some 39,some 40,some 41,some 42,some 43,some 44,some 45,some 10] [[],[0],[],[2],[2,3],[0,1,2,3,4],[0,1,2,3,4,5],[0,1,2,3,4,5,6]] [0,1,2,3,4] 5 (fun vs => [isV (vs.getD 0 undef),(rowV w.heap.size 3 1 gs.length (ints gs)),isV (vs.getD 2 undef),isV (vs.getD 3 undef),(rowV w.heap.size 4 1 gs.length (bools (List.replicate gs.length false)))])
       (fun L σ V => Below w.heap.size w V ∧ TwoI V 1 4 L σ) mixed rfl (by kernel_rfl) (by decide) (by decide)
       ⟨(Below.refl _ _).drew,TwoI.nil⟩ rfl ?_
      iterate 5 apply Exists.intro
      refine ⟨?_,?_⟩
      ·simp only [tS,List.take_zero,AllFrom.cons_eq,AllFrom.nil_eq,OpGoalV]
       refine ⟨?_,?_,?_,?_,?_,trivial⟩
       all_goals (intro L' σ V h1 h2 h3 hI hp;clear h2 h3;(try simp only [gZ,gS,preF_cons,preF_nil,isV,and_true] at hp);(first | (have hq : True:=hp;clear hq hp) | skip))
       all_goals (
        have HI:=Lib.hid hI
        clear hI h1)
       ·go_simp;exact ⟨rfl,⟨HI.out.1,HI.out.2.other (Nat.le_refl _) (by decide) (by decide)⟩,KeepAll.refl⟩
       rotate_left 1
       ·go_simp;exact ⟨rfl,⟨HI.out.1,HI.out.2.other (Nat.le_refl _) (by decide) (by decide)⟩,KeepAll.refl⟩
       ·go_simp;exact ⟨rfl,⟨HI.out.1,HI.out.2.other (Nat.le_refl _) (by decide) (by decide)⟩,KeepAll.refl⟩
       ·simp only [wantedL_none,↓reduceIte,gZ,gS]
        apply yr_make (.tmp 42) (.tmp 42) gs.length
        case ho => rfl
        case hx => go_simp
        case hy => go_simp
        case hn => exact hle
        intro V2 hown hb
        exact ⟨row_base hown (fun k hk => Nat.le_trans HI.out.1.size (own_ge hown k hk)),⟨HI.out.1.trans (hb.mono HI.out.1.size),HI.out.2.right hb.size (by decide) (fun k hk => ⟨own_ge hown k hk,row_lt hown k hk⟩)⟩,KeepAll.ofStab (T:=Grow) hb (by repeat (first | exact allStab_nil | refine allStab_isV ?_ | refine allStab_rowV ?_))⟩
       ·go_simp
        refine (copyInt_any A c gs w.heap.size V hle (HA.out.below HI.out.1) HI.out.1.size).mono ?_
        rintro e V2 ⟨v,rfl,hown,hb⟩
        exact ⟨_,rfl,⟨row_base hown (fun k hk => Nat.le_trans HI.out.1.size (own_ge hown k hk)),⟨HI.out.1.trans (hb.mono HI.out.1.size),HI.out.2.left hb.size (by decide) (fun k hk => ⟨own_ge hown k hk,row_lt hown k hk⟩)⟩,KeepAll.ofStab (T:=Grow) hb (by repeat (first | exact allStab_nil | refine allStab_isV ?_ | refine allStab_rowV ?_))⟩⟩
      ·intro L' σ V h1 hI hp
       have hL1:=h1 1 (by decide)
       have hL4:=h1 4 (by decide)
       clear h1
       simp only [gZ,gS,preF_cons,preF_nil,isV,and_true] at hp
       have s0:=hp.1
       have s1:=hp.2.1
       have s2:=hp.2.2.1
       have s3:=hp.2.2.2.1
       have s4:=hp.2.2.2.2
       clear hp
       have hne:=hI.2.ne hL1 hL4
       have hV:=hI.1
       clear hI hL1 hL4
       simp only [dS,List.drop_zero]
       go_simp
       clear s0 s2 s3
       generalize σ 1 = v1 at *
       generalize σ 4 = v4 at *
       obtain ⟨A1,c1,rfl,-,-⟩:=row_slice s1
       obtain ⟨A4,c4,rfl,-,-⟩:=row_slice s4
       have hrep:=load_rep s1 s4 hne
       have hlow : ∀ k ∈ (V.heap.size :: ((Value.slice A1 gs.length c1).ownBlock.toList ++ (Value.slice A4 gs.length c4).ownBlock.toList)),w.heap.size ≤ k:=by
        intro k hk
        rcases List.mem_cons.1 hk with rfl | hk
        ·exact hV.size
        ·rcases List.mem_append.1 hk with hk | hk
         ·exact own_ge s1 k (by simpa using hk)
         ·exact own_ge s4 k (by simpa using hk)
       have HR:=Lib.hid hrep;have HLow:=Lib.hid hlow;have HV:=Lib.hid (hV.alloc hV.size (.cells #[.slice A1 gs.length c1,.slice A4 gs.length c4] 90))
       clear hrep hlow hV hne s1 s4
       go_wp2
       refine ⟨rfl,?_⟩
       go_wp2
       obtain ⟨w2,hw2⟩ : ∃ w2,w2 = V.alloc (.cells #[.slice A1 gs.length c1,.slice A4 gs.length c4] 90):=⟨_,rfl⟩
       rw [← hw2] at HR HV
       rw [← hw2]
       clear hw2
       generalize (Value.slice A1 gs.length c1).ownBlock = o1 at *
       generalize (Value.slice A4 gs.length c4).ownBlock = o4 at *
       generalize hG : V.heap.size :: (o1.toList ++ o4.toList) = G at *
       clear hG
       generalize V.heap.size = q at *
       go_loopw [48] (fun i wr => ∃ n : Nat,n ≤ ks.length ∧ i = .int .i64 n ∧ RepRS wr q (loadL gs (ks.take n)) G ∧ (∀ j (h : j < n) (h' : j < ks.length),hasB (ks.take j) ks[j] = false) ∧ Below w.heap.size w wr) (fun i _ => ks.length - (Go.RowKit.intOf i).toNat)
       case atStart => exact ⟨0,by omega,rfl,HR.out,fun j h => by omega,HV.out⟩
       case round =>
        obtain ⟨n,hn,rfl,hs,hno,hbel⟩:=hrel
        have hsz:=hbel.size
        have hlL:=loadL_len gs (ks.take n)
        by_cases hlt : n < ks.length
        ·obtain ⟨ab,ao,rfl,hab,hcell⟩:=HA'.out.int_at hlt
         have c0:=(hbel.cell (p:=⟨ab,ao + n,none⟩) hab).trans hcell
         obtain ⟨hz0,hz1⟩:=HI.out.keys n hlt
         obtain ⟨m,hm⟩:=Int.eq_ofNat_of_zero_le hz0
         rw [hm] at c0 hz1
         have hmL : m < (loadL gs (ks.take n)).length:=by rw [hlL];omega
         have hmi : (m : Int) < ((loadL gs (ks.take n)).length : Int):=by omega
         obtain ⟨g0,k0,g1,k1,hp,hgF,hgF1,n1,n2,n3,n4,l0,l1,-,e1,hfz,hfz1,-,hset⟩:=hs.at_ hmL
         have hset':=hset true
         rw [loadL_set gs (ks.take n) hmL,← hm,← take_succ_get ks n hlt] at hset'
         rw [loadL_get gs (ks.take n) hmL] at e1
         simp only at e1
         have c2:=blk_cell hp 1
         simp only [eA,eZ,eS] at c2
         have hpl:=blk_lt hp
         have f1:=hfz1 m
         have hdup : hasB (ks.take n) (m : Int) = true → loadE gs ks = 6:=fun h => HI.out.dup (dupB_of hlt (by rw [hm];exact h))
         have hno2 : hasB (ks.take n) (m : Int) = false → ∀ j (h : j < n + 1) (h' : j < ks.length),hasB (ks.take j) ks[j] = false:=by
          intro hf j h h'
          by_cases e : j = n
          ·subst e;rw [hm];exact hf
          ·exact hno j (by omega) h'
         have hhas:=hasInt_any (some ⟨ab,ao,none⟩) c' (ks.take n) (m : Int) w.heap.size wr (by rw [List.length_take];omega) (by rw [← ints_take];exact (HA'.out.below hbel).take n)
         rw [List.length_take,Nat.min_eq_left (by omega)] at hhas
         have hnc : n ≤ c':=by omega
         have hnci : (n : Int) ≤ (c' : Int):=by omega
         clear hset
         generalize hasB (ks.take n) (m : Int) = r at *
         generalize loadL gs (ks.take n) = L at *
         obtain ⟨HS2,HSet,HBel2,Hdup,Hno2,HG,HP,Hh,HlL⟩:=hid9 hs hset' hbel hdup hno2 hgF1 hp hhas hlL
         clear hs hset' hbel hdup hno2 hno hcell hm hfz hfz1 hgF hgF1 hp HR HV hhas hlL
         cases r with
         | true =>
          have H:=Lib.hid (Hdup.out rfl)
          go_wp2_with (go_at_call 115;refine (Hh.out).mono ?_;rintro e w1 ⟨rfl,rfl⟩)
          refine bodyPost_ret (v:=.tuple #[.pointer none,.int .i64 6]) (by unfold results;try go_simp) rfl ?_
          exact ⟨HBel2.out,.inl ⟨by rw [H.out];omega,by rw [H.out]⟩⟩
         | false =>
          go_wp2_with (go_at_call 115;refine (Hh.out).mono ?_;rintro e w1 ⟨rfl,rfl⟩)
          go_roundw
          case rel => exact ⟨n + 1,by omega,by go_num,HSet.out,Hno2.out trivial,HBel2.out.trans (((Mod.refl G wr).setCell (p:=⟨g1,m,none⟩) (.inl HG.out) _).toBelow HLow.out hsz)⟩
          case measure => simp [Go.RowKit.intOf];omega
        ·obtain rfl : n = ks.length:=by omega
         rw [List.take_length] at hs hlL
         have hd : dupB ks = false:=dupB_none fun j hj => hno j hj hj
         obtain ⟨HS2,HBel2,HD⟩:=hid3 hs hbel hd
         clear hs hbel hd hno hlL HR HV hlt
         go_wp2
         go_loop [67] (fun i => ∃ n : Nat,n ≤ ks.length ∧ i = .int .i64 n ∧ (∀ j (h : j < n) (hj : j < ks.length) (m : Nat),ks[j] = m → gs.getD m 0 ≠ 1000000)) (fun i => ks.length - (Go.RowKit.intOf i).toNat)
         case atStart => exact ⟨0,by omega,rfl,fun j h => by omega⟩
         case round =>
          obtain ⟨n,hn2,rfl,hno⟩:=hrel
          by_cases hlt : n < ks.length
          ·obtain ⟨ab,ao,rfl,hab,hcell⟩:=HA'.out.int_at hlt
           have c0:=(HBel2.out.cell (p:=⟨ab,ao + n,none⟩) hab).trans hcell
           obtain ⟨hz0,hz1⟩:=HI.out.keys n hlt
           obtain ⟨m,hm⟩:=Int.eq_ofNat_of_zero_le hz0
           rw [hm] at c0 hz1
           have hml : m < gs.length:=by omega
           obtain ⟨gb,go,rfl,hgb,gcell⟩:=HA.out.int_at hml
           have c1:=(HBel2.out.cell (p:=⟨gb,go + m,none⟩) hgb).trans gcell
           have hgd : gs.getD m 0 = gs[m]:=by rw [List.getD_eq_getElem?_getD,List.getElem?_eq_getElem hml];rfl
           have hyes : gs[m] = 1000000 → loadE gs ks = 1:=fun h => HI.out.full HD.out (HI.out.spent hlt hm (by rw [hgd];exact h))
           have hno2 : gs[m] ≠ 1000000 → ∀ j (h : j < n + 1) (hj : j < ks.length) (m : Nat),ks[j] = m → gs.getD m 0 ≠ 1000000:=by
            intro hne j h hj m' hm'
            by_cases e : j = n
            ·subst e
             have : m = m':=by rw [hm] at hm';omega
             subst this
             rw [hgd];exact hne
            ·exact hno j (by omega) hj m' hm'
           generalize gs[m] = x at *
           obtain ⟨Hyes,Hno2⟩:=hid2 hyes hno2
           clear hyes hno2 hno hcell gcell hgd hm
           by_cases hx : x = 1000000
           ·have H:=Lib.hid (Hyes.out hx)
            subst hx
            go_wp2
            refine bodyPost_ret (v:=.tuple #[.pointer none,.int .i64 1]) (by unfold results;try go_simp) rfl ?_
            exact ⟨HBel2.out,.inl ⟨by rw [H.out];omega,by rw [H.out]⟩⟩
           ·have Hn:=Lib.hid (Hno2.out hx)
            have hx2 : decide (x = 1000000) = false:=by simpa using hx
            go_wp2
            go_round
            case rel => exact ⟨n + 1,by omega,by go_num,Hn.out⟩
            case measure => simp [Go.RowKit.intOf];omega
          ·obtain rfl : n = ks.length:=by omega
           have hany:=HI.out.unspent (fun j hj m hm => hno j hj hj m hm)
           have H:=Lib.hid (HI.out.good HD.out hany)
           have HO:=Lib.hid (HI.out.ok hany)
           clear hany hno hlt
           go_wp2
           refine bodyPost_ret (v:=.tuple #[.pointer (some ⟨q,0,none⟩),.int .i64 0]) (by unfold results;try go_simp) rfl ?_
           exact ⟨HBel2.out,.inr ⟨H.out,q,G,rfl,HS2.out,HLow.out,HO.out⟩⟩
      all_goals exact undef
end Go.Proofs.YtoheblfpjinmnaaGreatDoor
namespace Go.Proofs.YtoheblfpjinmnaaGreatDoor
open Go Go.RowKit
end Go.Proofs.YtoheblfpjinmnaaGreatDoor
namespace Go.Proofs.YtoheblfpjinmnaaGreatDoor
open Go.ChangeShapes Go.WideShapes Go.ChangeAt Go.RowKit
attribute [local go_sem] AllFrom.cons_eq AllFrom.nil_eq putF_nil putF_cons wantedL_none wantedL_some OpGoalT OpGoalS OpGoalP OpGoalV YieldsR preF_nil preF_cons
theorem load_err (A : Option Addr) (c : Nat) (gs : List Int) (A' : Option Addr) (c' : Nat) (ks : List Int) (w : World) (hg : gs.length ≤ 9223372036854775807) (hk : ks.length ≤ 9223372036854775807) (hA : Lies w w.heap.size A (ints gs)) (hA' : Lies w w.heap.size A' (ints ks)) (hE : loadE gs ks ≠ 0) :
  Calls Tryz.prog 68 #[.slice A gs.length c,.slice A' ks.length c'] w fun e w' => e = .returned (.tuple #[.pointer none,.int .i64 (loadE gs ks)]) ∧ Below w.heap.size w w' :=
 (load_any A c gs A' c' ks w hg hk hA hA').mono fun e w' ⟨hb,h⟩ => by
  rcases h with ⟨_,h⟩ | ⟨h,_⟩
  ·exact ⟨h,hb⟩
  ·exact absurd h hE
theorem rload_err (A : Option Addr) (c : Nat) (gs : List Int) (A' : Option Addr) (c' : Nat) (ks : List Int) (w : World) (hg : gs.length ≤ 9223372036854775807) (hk : ks.length ≤ c') (hc : c' ≤ 9223372036854775807) (hA : Lies w w.heap.size A (ints gs)) (hA' : Lies w w.heap.size A' (ints ks)) (hE : loadE gs ks ≠ 0) :
  Calls Tryz.prog 84 #[.slice A gs.length c,.slice A' ks.length c'] w fun e w' => e = .returned (.tuple #[.pointer none,.int .i64 (loadE gs ks)]) ∧ Below w.heap.size w w' :=
 (rload_any A c gs A' c' ks w hg hk hc hA hA').mono fun e w' ⟨hb,h⟩ => by
  rcases h with ⟨_,h⟩ | ⟨h,_⟩
  ·exact ⟨h,hb⟩
  ·exact absurd h hE
theorem load_ok (A : Option Addr) (c : Nat) (gs : List Int) (A' : Option Addr) (c' : Nat) (ks : List Int) (w : World) (hg : gs.length ≤ 9223372036854775807) (hk : ks.length ≤ 9223372036854775807) (hA : Lies w w.heap.size A (ints gs)) (hA' : Lies w w.heap.size A' (ints ks)) (hE : loadE gs ks = 0) :
  Calls Tryz.prog 68 #[.slice A gs.length c,.slice A' ks.length c'] w fun e w' => ∃ p F,e = .returned (.tuple #[.pointer (some ⟨p,0,none⟩),.int .i64 0]) ∧ RepS w' p (loadL gs ks) F ∧ (∀ k ∈ F,w.heap.size ≤ k) ∧ SlOk (loadL gs ks) ∧ Below w.heap.size w w' :=
 (load_any A c gs A' c' ks w hg hk hA hA').mono fun e w' ⟨hb,h⟩ => by
  rcases h with ⟨h,_⟩ | ⟨_,p,F,h1,h2,h3,h4⟩
  ·exact absurd hE h
  ·exact ⟨p,F,h1,h2,h3,h4,hb⟩
theorem rload_ok (A : Option Addr) (c : Nat) (gs : List Int) (A' : Option Addr) (c' : Nat) (ks : List Int) (w : World) (hg : gs.length ≤ 9223372036854775807) (hk : ks.length ≤ c') (hc : c' ≤ 9223372036854775807) (hA : Lies w w.heap.size A (ints gs)) (hA' : Lies w w.heap.size A' (ints ks)) (hE : loadE gs ks = 0) :
  Calls Tryz.prog 84 #[.slice A gs.length c,.slice A' ks.length c'] w fun e w' => ∃ p F,e = .returned (.tuple #[.pointer (some ⟨p,0,none⟩),.int .i64 0]) ∧ RepRS w' p (loadL gs ks) F ∧ (∀ k ∈ F,w.heap.size ≤ k) ∧ Below w.heap.size w w' :=
 (rload_any A c gs A' c' ks w hg hk hc hA hA').mono fun e w' ⟨hb,h⟩ => by
  rcases h with ⟨h,_⟩ | ⟨_,p,F,h1,h2,h3,h4⟩
  ·exact absurd hE h
  ·exact ⟨p,F,h1,h2,h3,hb⟩
end Go.Proofs.YtoheblfpjinmnaaGreatDoor
namespace Go.Proofs.YtoheblfpjinmnaaGreatDoor
open Go Go.RowKit
def slotsOf (rows : List Rw) : List Int:=rows.map (fun r => r.1.1)
def rowsErr (sl : Sl) : List Rw → Int
 | [] => 0
 | r :: rs => if liveB sl r.1.1 r.1.2 = false then 7 else if beastZ r.2 ≠ 0 then beastZ r.2 else rowsErr sl rs
def wlS (gs : List Int) (rows : List Rw) : Sl:=loadL gs (slotsOf rows)
def wlE (gs : List Int) (rows : List Rw) : Int:=if 60 < rows.length then 2 else if loadE gs (slotsOf rows) ≠ 0 then loadE gs (slotsOf rows) else rowsErr (wlS gs rows) rows
def wlL (gs : List Int) (rows : List Rw) : List Rw:=(List.range gs.length).flatMap (fun (k : Nat) => rows.filter (fun r => decide (r.1.1 = (k : Int))))
theorem rowsErr_ok {sl : Sl} : ∀ {rows : List Rw},rowsErr sl rows = 0 ↔ ∀ r ∈ rows,liveB sl r.1.1 r.1.2 = true ∧ beastZ r.2 = 0
 | [] => by simp [rowsErr]
 | r :: rs => by
  have ih:=rowsErr_ok (sl:=sl) (rows:=rs)
  rw [rowsErr]
  constructor
  ·intro h
   by_cases h1 : liveB sl r.1.1 r.1.2 = false
   ·rw [if_pos h1] at h;simp at h
   ·rw [if_neg h1] at h
    by_cases h2 : beastZ r.2 ≠ 0
    ·rw [if_pos h2] at h;exact absurd h h2
    ·rw [if_neg h2] at h
     intro x hx
     rcases List.mem_cons.1 hx with rfl | hx
     ·exact ⟨by simpa using h1,Decidable.not_not.1 h2⟩
     ·exact ih.1 h x hx
  ·intro h
   have h0:=h r (by simp)
   rw [if_neg (by rw [h0.1];simp),if_neg (by rw [h0.2];simp)]
   exact ih.2 fun x hx => h x (List.mem_cons_of_mem _ hx)
theorem loadE_zero {gs ks : List Int} (h : loadE gs ks = 0) : LoadIn gs ks ∧ dupB ks = false ∧ anyS (1000000,true) (loadL gs ks) = false:=by
 unfold loadE at h
 by_cases h1 : 60 < gs.length
 ·rw [if_pos h1] at h;simp at h
 ·rw [if_neg h1] at h
  by_cases h2 : anyP badN gs = true
  ·rw [if_pos h2] at h;simp at h
  ·rw [if_neg h2] at h
   by_cases h3 : anyP (badK gs.length) ks = true
   ·rw [if_pos h3] at h;simp at h
   ·rw [if_neg h3] at h
    by_cases h4 : dupB ks = true
    ·rw [if_pos h4] at h;simp at h
    ·rw [if_neg h4] at h
     by_cases h5 : anyS (1000000,true) (loadL gs ks) = true
     ·rw [if_pos h5] at h;simp at h
     ·exact ⟨loadIn_of (by omega) (by simpa using h2) (by simpa using h3),by simpa using h4,by simpa using h5⟩
theorem nodup_of_dupB {ks : List Int} (h : dupB ks = false) : ks.Nodup:=by
 refine List.pairwise_iff_getElem.2 fun i j hi hj hij e => ?_
 have:=dupB_of (ks:=ks) hj (by
  rw [hasB_iff,← e]
  refine List.mem_iff_getElem.2 ⟨i,by rw [List.length_take];omega,by rw [List.getElem_take]⟩)
 rw [h] at this;cases this
section
variable {gs : List Int} {rows : List Rw}
structure WLok (gs : List Int) (rows : List Rw) : Prop where
 i : LoadIn gs (slotsOf rows)
 nd : rows.Pairwise (fun a b => a.1.1 ≠ b.1.1)
 ok : SlOk (wlS gs rows)
 live : ∀ r ∈ rows,liveB (wlS gs rows) r.1.1 r.1.2 = true
 be : ∀ r ∈ rows,beastZ r.2 = 0
 len : rows.length ≤ 60
theorem wlok_of (h : wlE gs rows = 0) : WLok gs rows:=by
 unfold wlE at h
 by_cases h1 : 60 < rows.length
 ·rw [if_pos h1] at h;simp at h
 ·rw [if_neg h1] at h
  by_cases h2 : loadE gs (slotsOf rows) ≠ 0
  ·rw [if_pos h2] at h;exact absurd h h2
  ·rw [if_neg h2] at h
   obtain ⟨a,b,c⟩:=loadE_zero (Decidable.not_not.1 h2)
   have hr:=rowsErr_ok.1 h
   refine ⟨a,?_,a.ok c,fun r hr' => (hr r hr').1,fun r hr' => (hr r hr').2,by omega⟩
   have:=nodup_of_dupB b
   unfold slotsOf List.Nodup at this
   rw [List.pairwise_map] at this
   exact this
theorem WLok.slot (h : WLok gs rows) {r : Rw} (hr : r ∈ rows) : ∃ s : Nat,r.1.1 = (s : Int) ∧ s < gs.length ∧ s < 60:=by
 obtain ⟨i,hi,he⟩:=List.mem_iff_getElem.1 (show r.1.1 ∈ slotsOf rows from List.mem_map.2 ⟨r,hr,rfl⟩)
 have h1:=h.i.keys i hi
 rw [he] at h1
 have:=h.i.len
 exact ⟨r.1.1.toNat,by omega,by omega,by omega⟩
theorem WLok.mem (h : WLok gs rows) (y : Rw) : y ∈ wlL gs rows ↔ y ∈ rows:=by
 unfold wlL
 rw [List.mem_flatMap]
 constructor
 ·rintro ⟨k,-,hy⟩;exact (List.mem_filter.1 hy).1
 ·intro hy
  obtain ⟨s,h1,h2,-⟩:=h.slot hy
  exact ⟨s,List.mem_range.2 h2,List.mem_filter.2 ⟨hy,by simpa using h1⟩⟩
theorem WLok.sorted (h : WLok gs rows) : (wlL gs rows).Pairwise (fun a b => a.1.1 < b.1.1):=by
 unfold wlL
 rw [List.pairwise_flatMap]
 refine ⟨fun k _ => ?_,?_⟩
 ·refine List.Pairwise.imp_of_mem ?_ (h.nd.sublist (List.filter_sublist (p:=fun r : Rw => decide (r.1.1 = (k : Int)))))
  intro a b ha hb hne
  have e1:=(List.mem_filter.1 ha).2
  have e2:=(List.mem_filter.1 hb).2
  simp only [decide_eq_true_eq] at e1 e2
  exact absurd (e1.trans e2.symm) hne
 ·refine List.Pairwise.imp ?_ List.pairwise_lt_range
  intro a b hab x hx y hy
  have e1:=(List.mem_filter.1 hx).2
  have e2:=(List.mem_filter.1 hy).2
  simp only [decide_eq_true_eq] at e1 e2
  omega
theorem WLok.wok (h : WLok gs rows) : WOk (wlS gs rows) (wlL gs rows):=by
 refine ⟨h.ok,?_,fun x hx => h.be x ((h.mem x).1 hx)⟩
 have hs1 : ((wlL gs rows).map (·.1)).Pairwise (fun a b => a.1 < b.1):=by rw [List.pairwise_map];exact h.sorted
 have hs2 : (allS (wlS gs rows)).Pairwise (fun a b => a.1 < b.1):=allFrom_sorted _ 0
 have n1 : ((wlL gs rows).map (·.1)).Nodup:=hs1.imp (fun h e => by rw [e] at h;omega)
 have n2 : (allS (wlS gs rows)).Nodup:=hs2.imp (fun h e => by rw [e] at h;omega)
 have hp : ((wlL gs rows).map (·.1)).Perm (allS (wlS gs rows)):=by
  refine (List.perm_ext_iff_of_nodup n1 n2).2 fun x => ?_
  obtain ⟨s,g⟩:=x
  rw [← liveB_iff,List.mem_map]
  constructor
  ·rintro ⟨r,hr,e⟩
   have:=h.live r ((h.mem r).1 hr)
   rw [e] at this
   exact this
  ·intro hl
   obtain ⟨h0,hlt,he⟩:=liveB_lt hl
   obtain ⟨k,rfl⟩:=Int.eq_ofNat_of_zero_le h0
   simp only [Int.toNat_natCast] at hlt he
   have hk:=loadL_get gs (slotsOf rows) (n:=k) (by exact hlt)
   have he2 : (loadL gs (slotsOf rows))[k]'hlt = (g,true):=he
   rw [hk] at he2
   simp only [Prod.mk.injEq] at he2
   obtain ⟨r,hr,e1⟩:=List.mem_map.1 ((hasB_iff _ _).1 he2.2)
   refine ⟨r,(h.mem r).2 hr,?_⟩
   have hlr:=h.live r hr
   rw [e1] at hlr
   obtain ⟨-,h5,h6⟩:=liveB_lt hlr
   simp only [Int.toNat_natCast] at h5 h6
   have h7 : (loadL gs (slotsOf rows))[k]'hlt = (r.1.2,true):=h6
   rw [hk] at h7
   simp only [Prod.mk.injEq] at h7
   exact Prod.ext_iff.2 ⟨e1,h7.1.symm.trans he2.1⟩
 refine List.Perm.eq_of_pairwise (le:=fun a b : Hd => a.1 ≤ b.1) (fun a b ha hb e1 e2 => ?_) (hs1.imp (fun h => by omega)) (hs2.imp (fun h => by omega)) hp
 have ha2:=hp.mem_iff.1 ha
 obtain ⟨i,hi,rfl⟩:=List.mem_iff_getElem.1 ha2
 obtain ⟨j,hj,rfl⟩:=List.mem_iff_getElem.1 hb
 have hpp:=List.pairwise_iff_getElem.1 hs2
 rcases Nat.lt_trichotomy i j with h1 | h1 | h1
 ·have:=hpp i j hi hj h1;omega
 ·subst h1;rfl
 ·have:=hpp j i hj hi h1;omega
end
noncomputable def loadB (sl : Sl) : List Bd → List Bd → List Bd × Int
 | B,[] => (B,0)
 | B,x :: r => if liveZ sl [x.1,x.2] = true then (if (parB B x.1).isSome = true then (B,6) else if adoE B x.1 x.2 = 0 then loadB sl (adoB B x.1 x.2) r else (B,adoE B x.1 x.2)) else (B,7)
section
variable {sl : Sl} {B : List Bd} {x : Bd} {r : List Bd}
theorem loadB_dead (h : liveZ sl [x.1,x.2] = false) : loadB sl B (x :: r) = (B,7):=by unfold loadB;rw [if_neg (by rw [h];simp)]
theorem loadB_twice (h : liveZ sl [x.1,x.2] = true) (h2 : (parB B x.1).isSome = true) : loadB sl B (x :: r) = (B,6):=by unfold loadB;rw [if_pos h,if_pos h2]
theorem loadB_loop (h : liveZ sl [x.1,x.2] = true) (h2 : (parB B x.1).isSome = false) (h3 : adoE B x.1 x.2 ≠ 0) : loadB sl B (x :: r) = (B,adoE B x.1 x.2):=by unfold loadB;rw [if_pos h,if_neg (by rw [h2];simp),if_neg h3]
theorem loadB_go (h : liveZ sl [x.1,x.2] = true) (h2 : (parB B x.1).isSome = false) (h3 : adoE B x.1 x.2 = 0) : loadB sl B (x :: r) = loadB sl (adoB B x.1 x.2) r:=by conv => { lhs;unfold loadB };rw [if_pos h,if_neg (by rw [h2];simp),if_pos h3]
theorem adoE_cases (B : List Bd) (a b : Hd) : adoE B a b = 0 ∨ adoE B a b = 8:=by unfold adoE;split <;> simp
theorem adoB_fam (h : FamOk B) (a b : Hd) : FamOk (adoB B a b):=by
 unfold adoB
 split
 ·exact h
 ·exact insB_ok h (by assumption)
theorem adoB_live (h : ∀ b ∈ B,b.1 ∈ allS sl) {a b : Hd} (ha : a ∈ allS sl) : ∀ y ∈ adoB B a b,y.1 ∈ allS sl:=by
 intro y hy
 unfold adoB at hy
 split at hy
 ·exact h y hy
 ·rcases mem_insB.1 hy with rfl | ⟨hy,-⟩
  ·exact ha
  ·exact h y hy
theorem liveZ_two {a b : Hd} : liveZ sl [a,b] = (liveB sl a.1 a.2 && liveB sl b.1 b.2):=by unfold liveZ;simp
end
noncomputable def zlE (gs : List Int) (rows : List Rw) (bs : List Bd) : Int:=if wlE gs rows = 0 then (loadB (wlS gs rows) [] bs).2 else wlE gs rows
noncomputable def zlB (gs : List Int) (rows : List Rw) (bs : List Bd) : List Bd:=(loadB (wlS gs rows) [] bs).1
theorem zlE_bad {gs : List Int} {rows : List Rw} {bs : List Bd} (h : wlE gs rows ≠ 0) : zlE gs rows bs = wlE gs rows:=by unfold zlE;rw [if_neg h]
theorem zlE_run {gs : List Int} {rows : List Rw} {bs B : List Bd} {z : Int} (h : wlE gs rows = 0) (h2 : loadB (wlS gs rows) [] bs = (B,z)) : zlE gs rows bs = z ∧ zlB gs rows bs = B:=by unfold zlE zlB;rw [if_pos h,h2];exact ⟨rfl,rfl⟩
theorem rows_unique : ∀ {l m : List Rw},l.Pairwise (fun a b => a.1.1 < b.1.1) → m.Pairwise (fun a b => a.1.1 < b.1.1) → (∀ r,r ∈ l ↔ r ∈ m) → l = m
 | [],[],_,_,_ => rfl
 | [],k :: ks,_,_,hm => absurd ((hm k).2 (by simp)) (by simp)
 | h :: hs,[],_,_,hm => absurd ((hm h).1 (by simp)) (by simp)
 | h :: hs,k :: ks,h1,h2,hm => by
  obtain ⟨a1,a2⟩:=List.pairwise_cons.1 h1
  obtain ⟨b1,b2⟩:=List.pairwise_cons.1 h2
  have e : h = k:=by
   rcases List.mem_cons.1 ((hm h).1 (by simp)) with e | e
   ·exact e
   ·rcases List.mem_cons.1 ((hm k).2 (by simp)) with e2 | e2
    ·exact e2.symm
    ·have:=a1 k e2;have:=b1 h e;omega
  subst e
  rw [rows_unique a2 b2 (fun x => ?_)]
  constructor
  ·intro hx
   rcases List.mem_cons.1 ((hm x).1 (List.mem_cons_of_mem _ hx)) with e | e
   ·subst e;have:=a1 _ hx;omega
   ·exact e
  ·intro hx
   rcases List.mem_cons.1 ((hm x).2 (List.mem_cons_of_mem _ hx)) with e | e
   ·subst e;have:=b1 _ hx;omega
   ·exact e
section
variable {sl : Sl} {L : List Rw} {B : List Bd}
end
end Go.Proofs.YtoheblfpjinmnaaGreatDoor
