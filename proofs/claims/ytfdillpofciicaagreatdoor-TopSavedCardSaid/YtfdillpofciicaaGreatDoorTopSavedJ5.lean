import Derived.Test.YtfdillpofciicaaGreatDoorTopSavedJ4
import Derived.Deep.QuietTactic
import Derived.BigQuiet
set_option linter.unusedVariables false
set_option linter.unusedSimpArgs false
/- A part of the proof that TopSaved returns true. -/
namespace Go.Proofs.YtfdillpofciicaaGreatDoor
open Go.RowKit
def slotC (x : Int × Bool) : List Value:=[.int .i64 x.1,.bool x.2]
theorem slotC_len (x : Int × Bool) : (slotC x).length = 2:=rfl
theorem below_drewN {B : Nat} {a w : World} (h : Below B a w) (n : Nat) : Below B a (w.drewN n):=⟨h.os,h.tape,h.output,h.size,h.block⟩
def RepS (w : World) (p : Nat) (l : Sl) (F : List Nat) : Prop :=
 ∃ v,w.heap[p]? = some (.cells #[v] 164 (0,0)) ∧ w.ownsRow 0 166 2 v l.length (l.flatMap slotC) ∧ F = p :: v.ownBlock.toList ∧ F.Nodup
theorem RepS.mod {w w' : World} {p : Nat} {l : Sl} {F G : List Nat} (h : RepS w p l F) (hm : Mod G w w') (hd : ∀ k ∈ F,k ∉ G) : RepS w' p l F:=by
 obtain ⟨v,h1,h2,rfl,h3⟩:=h
 exact ⟨v,hm.keep h1 (hd p (by simp)),row_mod h2 hm (fun k hk => hd k (by simp [hk])),rfl,h3⟩
theorem RepS.lt {w : World} {p : Nat} {l : Sl} {F : List Nat} (h : RepS w p l F) : ∀ k ∈ F,k < w.heap.size:=by
 obtain ⟨v,h1,h2,rfl,h3⟩:=h
 intro k hk
 rcases List.mem_cons.1 hk with rfl | hk
 ·exact blk_lt h1
 ·exact row_lt h2 k (by simpa using hk)
theorem liveB_neg {l : Sl} {s g : Int} (h : s < 0) : liveB l s g = false:=by
 unfold liveB
 rw [show decide (0 ≤ s) = false by simp;omega];rfl
theorem liveB_out {l : Sl} {n : Nat} {g : Int} (h : l.length ≤ n) : liveB l n g = false:=by
 unfold liveB
 rw [Int.toNat_natCast,List.getElem?_eq_none h];simp
theorem liveB_in {l : Sl} {n : Nat} {g : Int} (h : n < l.length) : liveB l n g = eqB l[n] (g,true):=by
 unfold liveB
 rw [Int.toNat_natCast,List.getElem?_eq_getElem h]
 obtain ⟨a,b⟩:=l[n]
 simp [eqB]
 cases b <;> simp
set_option maxHeartbeats 1000000 in
theorem live_any (p : Nat) (l : Sl) (F : List Nat) (s g : Int) (w : World) (h : RepS w p l F) :
  Calls Tryz.prog 92 #[.pointer (some ⟨p,0,none⟩),.agg #[.int .i64 s,.int .i64 g]] w fun e w' => e = .returned (.bool (liveB l s g)) ∧ Below w.heap.size w w':=by
 obtain ⟨v,hp,hrow,rfl,hne⟩:=h
 obtain ⟨A,cap,rfl,hc1,hc2⟩:=row_slice hrow
 have hc:=blk_cell hp 0
 simp at hc
 have hle : l.length ≤ 9223372036854775807:=by unfold maxLen at hc2;omega
 have hpl:=blk_lt hp
 have hB : ∀ nq,Below w.heap.size w ((w.alloc (.cells #[.int .i64 s,.int .i64 g] 47)).drewN nq):=fun nq => below_drewN ((Below.refl _ _).alloc (Nat.le_refl _) _) nq
 clear hp hne hc2
 by_cases hs : s < 0
 ·have H:=Lib.hid (liveB_neg (l:=l) (g:=g) hs)
  have hd : decide (0 ≤ s) = false:=by simp;omega
  clear hrow
  go_enter Tryz.func92,Tryz.ntmps92
  go_wp2
  go_quiet (fail)
  go_wp2
  go_ret
  exact ⟨by rw [H.out];rfl,hB _⟩
 ·obtain ⟨n,rfl⟩:=Int.eq_ofNat_of_zero_le (show 0 ≤ s by omega)
  clear hs
  by_cases hn : n < l.length
  ·obtain ⟨g0,cap',he,hcell⟩:=row_rec slotC_len hrow hn
   cases he
   have hgl:=row_lt hrow g0 rfl
   have hx:=liveB_in (g:=g) hn
   have c0:=hcell 0 _ rfl
   have c1:=hcell 1 _ rfl
   simp only [Nat.add_zero] at c0
   clear hcell hrow
   generalize l[n] = x at *
   obtain ⟨a,b⟩:=x
   simp only at c0 c1
   have H:=Lib.hid hx
   clear hx
   have he:=fun w => eqlSlot w a g b true
   have hg:=guardSlot
   generalize eqB (a,b) (g,true) = r at *
   go_enter Tryz.func92,Tryz.ntmps92
   go_wp2
   go_quiet (fail)
   go_wp2
   go_ret
   exact ⟨by rw [H.out];rfl,hB _⟩
  ·have H:=Lib.hid (liveB_out (l:=l) (g:=g) (Nat.le_of_not_lt hn))
   have hd : decide ((n : Int) < (l.length : Int)) = false:=by simp;omega
   have hd2 : decide (n < l.length) = false:=by simp;omega
   clear hrow
   go_enter Tryz.func92,Tryz.ntmps92
   go_wp2
   go_quiet (fail)
   go_wp2
   go_ret
   exact ⟨by rw [H.out];rfl,hB _⟩
def handleC (h : Int × Int) : List Value:=[.int .i64 h.1,.int .i64 h.2]
theorem handleC_len (x : Int × Int) : (handleC x).length = 2:=rfl
theorem handleC_one (x : Int × Int) : ∀ u ∈ handleC x,u.oneCell' = true:=by intro u hu;simp [handleC] at hu;rcases hu with rfl | rfl <;> rfl
theorem slotC_one (x : Int × Bool) : ∀ u ∈ slotC x,u.oneCell' = true:=by intro u hu;simp [slotC] at hu;rcases hu with rfl | rfl <;> rfl
theorem info_handle : (Tryz.prog.info? 47).map (fun i => (i.zero,i.size,i.bytes)) = some (some (.agg #[.int .i64 0,.int .i64 0]),2,16):=by kernel_rfl
theorem info_slot : (Tryz.prog.info? 166).map (fun i => (i.zero,i.size,i.bytes)) = some (some (.agg #[.int .i64 0,.bool false]),2,16):=by kernel_rfl
def MadeRecs {α : Type} (E k : Nat) (enc : α → List Value) (l : List α) (w : World) (e : Ending) (w' : World) : Prop :=
 ∃ v,e = .returned v ∧ w'.ownsRow w.heap.size E k v l.length (l.flatMap enc) ∧ Below w.heap.size w w'
theorem new_rec {w : World} {n : Nat} {cs : Array Value} {t : TypeId} {xs : List Value} (hn : n = w.heap.size) (h : cs.toList = xs) : ∀ j u,xs[j]? = some u → (w.alloc (.cells cs t)).cell? ((⟨n,0,none⟩ : Addr).add j) = some u:=by
 intro j u hu
 subst h;subst hn
 have e : (⟨w.heap.size,0,none⟩ : Addr).add j = ⟨w.heap.size,j,none⟩:=by unfold Addr.add;split <;> simp_all
 rw [e]
 simpa using hu
set_option maxHeartbeats 1000000 in
theorem gens_any (p : Nat) (l : Sl) (F : List Nat) (w : World) (h : RepS w p l F) (hl : l.length ≤ 60) :
  Calls Tryz.prog 45 #[.pointer (some ⟨p,0,none⟩)] w (MadeInts w.heap.size (gensS l) w):=by
 obtain ⟨v,hp,hrow,rfl,hne⟩:=h
 obtain ⟨A,cap,rfl,hc1,hc2⟩:=row_slice hrow
 have hc:=blk_cell hp 0
 simp at hc
 clear hp hne hc2
 go_enter Tryz.func45,Tryz.ntmps45
 go_wp2
 go_loopw [3,11] (fun v i wr => ∃ k : Nat,k ≤ l.length ∧ i = .int .i64 k ∧ wr.ownsRow w.heap.size 3 1 v (gensS (l.take k)).length (ints (gensS (l.take k))) ∧ Below w.heap.size w wr) (fun _ i _ => l.length - (Go.RowKit.intOf i).toNat)
 case atStart => exact ⟨0,by omega,rfl,⟨rfl,.inl ⟨rfl,rfl⟩⟩,Below.refl _ _⟩
 case round =>
  obtain ⟨k,hk,rfl,hown,hbel⟩:=hrel
  have hsz:=hbel.size
  by_cases hlt : k < l.length
  ·obtain ⟨g0,cap',he,hcell⟩:=row_rec slotC_len hrow hlt
   cases he
   have hgl:=row_lt hrow g0 rfl
   have hs : gensS (l.take (k + 1)) = gensS (l.take k) ++ [l[k].1]:=by rw [take_succ_get l k hlt,gensS,gensS,List.map_append];rfl
   have hlen : (gensS (l.take k)).length ≤ 60:=by simp [gensS];omega
   have c0:=(hbel.cell (p:=⟨g0,k * 2,none⟩) hgl).trans (hcell 0 _ rfl)
   have c1:=(hbel.cell (p:=⟨g0,k * 2 + 1,none⟩) hgl).trans (hcell 1 _ rfl)
   clear hcell hrow hc
   generalize gensS (l.take k) = L at *
   generalize l[k] = x at *
   obtain ⟨a,b⟩:=x
   simp only at c0 c1 hs
   have Hs:=Lib.hid hs
   clear hs
   go_wp2_with (at_builtin;refine app_int rfl _ _ rfl w.heap.size _ L a ⟨wr.heap.size + 1,0,none⟩ 1 rfl ((hown.alloc _).alloc _) rfl (by simp) (by omega) (by simp;omega) ?_;intro v' w1 hown2 hb1)
   go_roundw
   case rel => exact ⟨k + 1,by omega,by go_num,by rw [Hs.out];exact hown2,((hbel.alloc hsz _).alloc (by simp;omega) _).trans hb1⟩
   case measure => simp [Go.RowKit.intOf];omega
  ·obtain rfl : k = l.length:=by omega
   rw [List.take_length] at hown
   clear hrow hc
   go_wp2
   go_ret
   exact ⟨_,rfl,hown,hbel⟩
theorem flat2_set {α : Type} {enc : α → List Value} (hf : ∀ x,(enc x).length = 2) (y : α) (u v : Value) (hy : enc y = [u,v]) : ∀ (l : List α) (k : Nat),k < l.length →
  ((l.flatMap enc).set (k * 2) u).set (k * 2 + 1) v = (l.set k y).flatMap enc
 | x :: l,0,_ => by
  obtain ⟨a,b,hx⟩ : ∃ a b,enc x = [a,b]:=by
   match h : enc x,hf x with
   | [a,b],_ => exact ⟨a,b,rfl⟩
  simp [hx,hy]
 | x :: l,k + 1,hk => by
  have ih:=flat2_set hf y u v hy l k (by simpa using hk)
  have hx:=hf x
  simp only [List.flatMap_cons,List.set_cons_succ]
  rw [List.set_append_right _ _ (by omega),List.set_append_right _ _ (by omega),hx,show (k + 1) * 2 - 2 = k * 2 by omega,show (k + 1) * 2 + 1 - 2 = k * 2 + 1 by omega,ih]
theorem RepS.at_ {w : World} {p : Nat} {l : Sl} {F : List Nat} (h : RepS w p l F) {n : Nat} (hn : n < l.length) : ∃ g0 cap,w.heap[p]? = some (.cells #[.slice (some ⟨g0,0,none⟩) l.length cap] 164 (0,0)) ∧ g0 ∈ F ∧ g0 < w.heap.size ∧
  w.cell? ⟨g0,n * 2,none⟩ = some (.int .i64 l[n].1) ∧ w.cell? ⟨g0,n * 2 + 1,none⟩ = some (.bool l[n].2) ∧ (∀ i,w.frozen? ⟨g0,i,none⟩ = false) ∧
  (∀ y : Int × Bool,RepS ((w.setCell ⟨g0,n * 2,none⟩ (.int .i64 y.1)).setCell ⟨g0,n * 2 + 1,none⟩ (.bool y.2)) p (l.set n y) F) ∧ (∀ b : Bool,RepS (w.setCell ⟨g0,n * 2 + 1,none⟩ (.bool b)) p (l.set n (l[n].1,b)) F):=by
 obtain ⟨v,hp,hrow,rfl,hne⟩:=h
 obtain ⟨g0,cap,cur,rfl,-,hblk,-⟩:=row_some hrow (by omega)
 obtain ⟨g0',cap',he,hcell⟩:=row_rec slotC_len hrow hn
 cases he
 have hpg : p ≠ g0:=by
  intro e
  simp [Value.ownBlock,e] at hne
 refine ⟨g0,cap,hp,by simp [Value.ownBlock],blk_lt hblk,hcell 0 _ rfl,hcell 1 _ rfl,blk_free hblk,fun y => ?_,fun b => ?_⟩
 ·refine ⟨_,?_,?_,rfl,hne⟩
  ·rw [blk_set_ne (by simpa using hpg),blk_set_ne (by simpa using hpg)];exact hp
  ·have h2:=row_set (row_set hrow (n * 2) (.int .i64 y.1)) (n * 2 + 1) (.bool y.2)
   rw [flat2_set slotC_len y _ _ rfl l n hn] at h2
   rw [List.length_set];exact h2
 ·refine ⟨_,?_,?_,rfl,hne⟩
  ·rw [blk_set_ne (by simpa using hpg)];exact hp
  ·have h2:=row_set hrow (n * 2 + 1) (.bool b)
   rw [flatV_set slotC_len l n hn 1 _ (l[n].1,b) (by omega) rfl] at h2
   rw [List.length_set];exact h2
attribute [local go_sem] AllFrom.cons_eq AllFrom.nil_eq putF_nil putF_cons wantedL_none wantedL_some OpGoalT YieldsR preF_nil preF_cons
end Go.Proofs.YtfdillpofciicaaGreatDoor
namespace Go.Proofs.YtfdillpofciicaaGreatDoor
open Go.RowKit
attribute [local go_sem] AllFrom.cons_eq AllFrom.nil_eq putF_nil putF_cons wantedL_none wantedL_some OpGoalT OpGoalS YieldsR preF_nil preF_cons
theorem wrapSmall (z : Int) (h1 : 0 ≤ z) (h2 : z ≤ 1000000) : IntKind.i64.wrap z = z:=by
 have e : z % 2 ^ 64 = z:=Int.emod_eq_of_lt h1 (by omega)
 simp only [IntKind.wrap,IntKind.bits,IntKind.signed,e,Bool.true_and,decide_eq_true_eq]
 split <;> omega
theorem freeB_live (a : Int) : freeB (a,true) = false:=rfl
theorem freeB_dead (a : Int) : freeB (a,false) = decide (a < 1000000):=rfl
set_option maxHeartbeats 1000000 in
theorem take1_any (a : Int) (b : Bool) (w : World) :
  Calls Tryz.prog 148 #[.agg #[.int .i64 a,.bool b]] w fun e w' => e = .returned (.bool (freeB (a,b))) ∧ Below w.heap.size w w':=by
 cases b with
 | true =>
  have H:=Lib.hid (freeB_live a)
  go_enter Tryz.func148,Tryz.ntmps148
  go_wp2
  go_ret
  exact ⟨by rw [H.out];rfl,(Below.refl _ _).alloc (Nat.le_refl _) _⟩
 | false =>
  have H:=Lib.hid (freeB_dead a)
  go_enter Tryz.func148,Tryz.ntmps148
  go_wp2
  go_ret
  exact ⟨by rw [H.out];rfl,(Below.refl _ _).alloc (Nat.le_refl _) _⟩
set_option maxHeartbeats 1000000 in
theorem indexFree_any (v : Value) (l : Sl) (w : World) (hrow : w.ownsRow 0 166 2 v l.length (l.flatMap slotC)) (hl : l.length ≤ 60) :
  Calls Tryz.prog 147 #[v,.func (.func 148) #[] #[]] w fun e w' => e = .returned (.int .i64 (firstI freeB l)) ∧ Below w.heap.size w w':=by
 obtain ⟨A,cap,rfl,hc1,hc2⟩:=row_slice hrow
 clear hc2
 go_enter Tryz.func147,Tryz.ntmps147
 go_wp2
 go_loopw [8] (fun i wr => ∃ k : Nat,k ≤ l.length ∧ i = .int .i64 k ∧ (∀ j (h : j < k) (h' : j < l.length),freeB l[j] = false) ∧ Below w.heap.size w wr) (fun i _ => l.length - (Go.RowKit.intOf i).toNat)
 case atStart => exact ⟨0,by omega,rfl,fun j h => by omega,Below.refl _ _⟩
 case round =>
  obtain ⟨k,hk,rfl,hno,hbel⟩:=hrel
  have hsz:=hbel.size
  by_cases hlt : k < l.length
  ·obtain ⟨g0,cap',he,hcell⟩:=row_rec slotC_len hrow hlt
   cases he
   have hgl:=row_lt hrow g0 rfl
   have c0:=(hbel.cell (p:=⟨g0,k * 2,none⟩) hgl).trans (hcell 0 _ rfl)
   have c1:=(hbel.cell (p:=⟨g0,k * 2 + 1,none⟩) hgl).trans (hcell 1 _ rfl)
   have hgl2 : g0 < wr.heap.size:=by omega
   have hyes : freeB l[k] = true → firstI freeB l = k:=fun h => firstI_some (fi_some hlt h fun j hj => hno j hj (by omega))
   have hno2 : freeB l[k] = false → ∀ j (h : j < k + 1) (h' : j < l.length),freeB l[j] = false:=by
    intro hf j h h'
    by_cases e : j = k
    ·subst e;exact hf
    ·exact hno j (by omega) h'
   have ht:=fun w => take1_any l[k].1 l[k].2 w
   rw [show (l[k].1,l[k].2) = l[k] from rfl] at ht
   generalize hf : freeB l[k] = f at *
   generalize l[k].1 = a at *
   generalize l[k].2 = b at *
   obtain ⟨Hno,Hno2,Hyes,Ht⟩:=hid4 hno hno2 hyes ht
   clear hcell hrow hno hno2 hyes ht hf
   cases f with
   | true =>
    have H:=Lib.hid (Hyes.out rfl)
    go_wp2_with (go_at_call 148;refine (Ht.out _).mono ?_;rintro e w1 ⟨rfl,hb1⟩)
    go_ret
    exact ⟨by rw [H.out];rfl,hbel.trans (hb1.mono hsz)⟩
   | false =>
    go_wp2_with (go_at_call 148;refine (Ht.out _).mono ?_;rintro e w1 ⟨rfl,hb1⟩)
    go_roundw
    case rel => exact ⟨k + 1,by omega,by go_num,Hno2.out trivial,hbel.trans (hb1.mono hsz)⟩
    case measure => simp [Go.RowKit.intOf];omega
  ·have hf : firstI freeB l = -1:=firstI_none (fi_none fun j hj => hno j (by omega) hj)
   have H:=Lib.hid hf
   clear hf hno hrow
   go_wp2
   go_ret
   exact ⟨by rw [H.out];rfl,hbel⟩
theorem slotsNew_any (w : World) : Calls Tryz.prog 130 #[] w fun e w' => ∃ p,e = .returned (.pointer (some ⟨p,0,none⟩)) ∧ Below w.heap.size w w' ∧ RepS w' p [] [p] ∧ w.heap.size ≤ p:=by
 go_enter Tryz.func130,Tryz.ntmps130
 go_wp2
 go_ret
 refine ⟨w.heap.size,rfl,(Below.refl _ _).alloc (Nat.le_refl _) _,⟨.slice none 0 0,heap_alloc_new w _,⟨rfl,.inl ⟨rfl,rfl⟩⟩,rfl,by simp⟩,Nat.le_refl _⟩
structure Turns (w : World) (F : List Nat) (F' : List Nat) (w' : World) : Prop where
 mod : Mod F w w'
 new : ∀ k ∈ F',k ∈ F ∨ w.heap.size ≤ k
set_option maxHeartbeats 1000000 in
theorem free_any (p : Nat) (l : Sl) (F : List Nat) (s g : Int) (w : World) (h : RepS w p l F) (hok : SlOk l) :
  Calls Tryz.prog 150 #[.pointer (some ⟨p,0,none⟩),.agg #[.int .i64 s,.int .i64 g]] w fun e w' => e = .returned (.int .i64 (freeE l s g)) ∧ RepS w' p (freeL l s g) F ∧ Mod F w w':=by
 have hlive:=fun w1 (hb : Below w.heap.size w w1) => live_any p l F s g w1 (h.mod (Mod.ofBelow hb) (by simp))
 have HL:=Lib.hid hlive
 clear hlive
 by_cases hv : liveB l s g = true
 ·have hE : freeE l s g = 0:=by unfold freeE;rw [if_pos hv]
  have hF : freeL l s g = l.set s.toNat (g + 1,false):=by unfold freeL;rw [if_pos hv]
  obtain ⟨h0,hk,hx⟩:=liveB_lt hv
  obtain ⟨n,rfl⟩:=Int.eq_ofNat_of_zero_le h0
  simp only [Int.toNat_natCast] at hk hx hF
  have hg:=hok.at_ hk
  rw [hx] at hg
  simp only at hg
  have hgb:=hg.2.2 trivial
  have hg0:=hg.1
  rw [hv] at HL
  obtain ⟨HE,HF,HR⟩:=hid3 hE hF h
  clear hE hF hx hg h hv hok h0
  go_enter Tryz.func150,Tryz.ntmps150
  go_wp2_with fail
  refine (HL.out _ ((Below.refl _ _).alloc (Nat.le_refl _) _)).mono ?_
  rintro e w1 ⟨rfl,hb1⟩
  simp only [World.size_alloc] at hb1
  have d0 : w1.cell? ⟨w.heap.size,0,none⟩ = some (.int .i64 n):=(hb1.cell (p:=⟨w.heap.size,0,none⟩) (by simp)).trans (by simp)
  have d1 : w1.cell? ⟨w.heap.size,1,none⟩ = some (.int .i64 g):=(hb1.cell (p:=⟨w.heap.size,1,none⟩) (by simp)).trans (by simp)
  have hb:=((Below.refl w.heap.size w).alloc (Nat.le_refl _) (.cells #[.int .i64 n,.int .i64 g] 47)).trans (hb1.mono (by omega))
  obtain ⟨g0,cap,hp,hgF,hgl,e0,e1,hfz,hset,-⟩:=(HR.out.mod (Mod.ofBelow hb) (by simp)).at_ hk
  generalize l[n].1 = x0 at e0
  generalize l[n].2 = x1 at e1
  have hw:=wrapSmall (g + 1) (by omega) (by omega)
  have hc:=blk_cell hp 0
  simp at hc
  have f0:=hfz (n * 2)
  have f1:=hfz (n * 2 + 1)
  have hpl:=blk_lt hp
  have hin : (n : Int) < (l.length : Int):=by omega
  have HS:=Lib.hid (hset (g + 1,false))
  have HB:=Lib.hid hb
  have HG:=Lib.hid hgF
  clear HL hb1 hset hfz hp hb hgF
  go_wp2
  refine wp_planS [some 9,some 10,some 11,some 12,some 13,some 14,some 15,some 16,some 17,some 18,some 19,none] [[],[0],[0,1],[0,1,2],[],[4],[],[6],[6,7],[6,7,8],[0,1,2,3,4,5,6,7,8,9],[0,1,2,3,4,5,6,7,8,9,10]] [0,1,2,3,4,5,6,7,8,9,10,11] 12 11 mixed rfl (by kernel_rfl) (by decide) rfl ?_ (by decide)
  iterate 13 apply Exists.intro
  refine ⟨rfl,?_,?_⟩
  ·simp only [AllFrom.cons_eq,AllFrom.nil_eq,OpGoalS]
   refine ⟨?_,?_,?_,?_,?_,?_,?_,?_,?_,?_,?_,?_,trivial⟩
   all_goals (intro σ hp;(try simp only [gZ,gS,mC,mN,preF_cons,preF_nil,isV,and_true] at hp);(first | (have hq : True:=hp;clear hq hp) | skip))
   all_goals (go_simp;exact ⟨rfl,rfl⟩)
  ·intro σ hp
   simp only [gZ,gS,mC,mN,preF_cons,preF_nil,isV,and_true] at hp
   go_simp
   go_wp2
   go_ret
   exact ⟨by rw [HE.out];rfl,by rw [HF.out];exact HS.out,((((Mod.ofBelow HB.out).mono (by simp)).setCell (.inl HG.out) _).setCell (.inl HG.out) _).drew⟩
 ·have hE : freeE l s g = 7:=by unfold freeE;rw [if_neg hv]
  have hF : freeL l s g = l:=by unfold freeL;rw [if_neg hv]
  rw [Bool.not_eq_true] at hv
  rw [hv] at HL
  obtain ⟨HE,HF,HR⟩:=hid3 hE hF h
  clear hE hF h hv hok
  go_enter Tryz.func150,Tryz.ntmps150
  go_wp2_with (go_at_call 92;refine (HL.out _ ((Below.refl _ _).alloc (Nat.le_refl _) _)).mono ?_;rintro e w1 ⟨rfl,hb1⟩)
  go_ret
  have hb:=((Below.refl w.heap.size w).alloc (Nat.le_refl _) (.cells #[.int .i64 s,.int .i64 g] 47)).trans (hb1.mono (by simp))
  exact ⟨by rw [HE.out];rfl,by rw [HF.out];exact HR.out.mod (Mod.ofBelow hb) (by simp),(Mod.ofBelow hb).mono (by simp)⟩
theorem app_slot {w : World} {ops : Array Oper} {rest : List Oper} {o : Oper} {a : Act} {Q : Exit → Act → World → Prop} (hgd : o.guard = none) (s x : Operand)
  (ho : o.op = .call { callee:=.builtin .append,args:=#[s,x],argTypes:=#[162,162] }) (base : Nat) (v : Value) (l : Sl) (y : Int × Bool) (ad : Addr) (c : Nat)
  (hs : a.eval s = v) (hown : w.ownsRow base 166 2 v l.length (l.flatMap slotC)) (hx : a.eval x = .slice (some ad) 1 c) (hc : ∀ j u,(slotC y)[j]? = some u → w.cell? (ad.add j) = some u)
  (hlen : l.length < 8796093022207) (hbase : base ≤ w.heap.size)
  (h : ∀ v' w',w'.ownsRow base 166 2 v' (l ++ [y]).length ((l ++ [y]).flatMap slotC) → w.grownBy w' v.ownBlock → (v'.ownBlock = v.ownBlock ∨ v'.ownBlock = some w.heap.size) → wpList Tryz.prog ops Q rest (a.put o.dst v') w') : wpList Tryz.prog ops Q (o :: rest) a w :=
 app_rec (enc:=slotC) (n:=2) (z:=.agg #[.int .i64 0,.bool false]) (bytes:=16) hgd s x 162 166 ho Tryz.underlying162 info_slot rfl (by omega) (by omega) slotC_one slotC_len base v l y ad c hs hown hx hc (by omega) hbase h
def TakePost (p : Nat) (l : Sl) (F : List Nat) (w : World) (e : Ending) (w' : World) : Prop :=
 e = .returned (.tuple #[.agg #[.int .i64 (takeK l),.int .i64 (takeG l)],.int .i64 (takeE l)]) ∧ ∃ F',RepS w' p (takeL l) F' ∧ Turns w F F' w'
set_option maxHeartbeats 1000000 in
theorem take_old (p : Nat) (l : Sl) (F : List Nat) (w : World) (h : RepS w p l F) (hok : SlOk l) (n : Nat) (hf : l.findIdx? freeB = some n) :
  Calls Tryz.prog 96 #[.pointer (some ⟨p,0,none⟩)] w (TakePost p l F w):=by
 obtain ⟨hn,-⟩:=fi_lt hf
 have hidx:=fun v w hrow => indexFree_any v l w hrow hok.1
 rw [firstI_some hf] at hidx
 have hK : takeK l = n:=by unfold takeK;rw [hf]
 have hG : takeG l = l[n].1:=by unfold takeG;rw [hf];simp [List.getD_eq_getElem?_getD,List.getElem?_eq_getElem hn]
 have hE : takeE l = 0:=by unfold takeE;rw [hf]
 have hL : takeL l = l.set n (l[n].1,true):=by unfold takeL;rw [hf];simp [List.getD_eq_getElem?_getD,List.getElem?_eq_getElem hn]
 obtain ⟨v,hp,hrow,hF,hne⟩:=h
 have h : RepS w p l F:=⟨v,hp,hrow,hF,hne⟩
 have hc:=blk_cell hp 0
 simp at hc
 have Hi:=Lib.hid (hidx v)
 obtain ⟨HR,Hrow⟩:=hid2 h hrow
 have hpl:=blk_lt hp
 obtain ⟨H1,H2,H3,H4⟩:=hid4 hK hG hE hL
 clear hidx hK hG hE hL h hf hF hp hrow hne
 obtain ⟨A,cap,rfl,-,-⟩:=row_slice Hrow.out
 go_enter Tryz.func96,Tryz.ntmps96
 go_wp2_with fail
 refine (Hi.out _ (row_mod Hrow.out ((Mod.refl [] w).alloc _) (by simp))).mono ?_
 rintro e w1 ⟨rfl,hb1⟩
 simp only [World.size_alloc] at hb1
 have hb:=((Below.refl w.heap.size w).alloc (Nat.le_refl _) (.cells #[.int .i64 0,.int .i64 0] 47)).trans (hb1.mono (by omega))
 have hk1 : w1.heap[w.heap.size]? = some (.cells #[.int .i64 0,.int .i64 0] 47 (0,0)):=(hb1.block _ (by omega)).trans (heap_alloc_new w _)
 obtain ⟨g0,cap',hp,hgF,hgl,e0,e1,hfz,-,hset⟩:=(HR.out.mod (Mod.ofBelow hb) (by simp)).at_ hn
 have hc1:=blk_cell hp 0
 simp at hc1
 have d0:=blk_cell hk1 0
 have d1:=blk_cell hk1 1
 simp at d0 d1
 have q0:=blk_free hk1 0
 have q1:=blk_free hk1 1
 have f1:=hfz (n * 2 + 1)
 have hpl1:=blk_lt hp
 have hgl2:=hgl
 have hzl:=blk_lt hk1
 have hin : (n : Int) < (l.length : Int):=by omega
 have HS:=Lib.hid (hset true)
 have HB:=Lib.hid hb
 have HG:=Lib.hid hgF
 have hgw:=HR.out.lt g0 hgF
 have hgz : g0 ≠ w.heap.size:=by omega
 have hgz' : w.heap.size ≠ g0:=by omega
 clear hb1 hset hfz hp hb hgF hk1 hc
 generalize l[n].2 = x1 at *
 generalize l[n].1 = x0 at *
 go_wp2
 refine bodyPost_ret (v:=.tuple #[.agg #[.int .i64 n,.int .i64 x0],.int .i64 0]) (by unfold results;go_simp) rfl ?_
 refine ⟨by rw [H1.out,H2.out,H3.out],F,?_,⟨?_,fun k hk => .inl hk⟩⟩
 ·rw [H4.out]
  exact (HS.out.mod (((Mod.refl [w.heap.size] _).setCell (.inl (by simp)) _).setCell (.inl (by simp)) _) (fun k hk => by have:=HR.out.lt k hk;simp;omega))
 ·exact (((((Mod.ofBelow HB.out).mono (by simp)).setCell (.inl HG.out) _).setCell (.inr (Nat.le_refl _)) _).setCell (.inr (Nat.le_refl _)) _)
set_option maxHeartbeats 1000000 in
theorem take_full (p : Nat) (l : Sl) (F : List Nat) (w : World) (h : RepS w p l F) (hok : SlOk l) (hf : l.findIdx? freeB = none) (hl : l.length = 60) :
  Calls Tryz.prog 96 #[.pointer (some ⟨p,0,none⟩)] w (TakePost p l F w):=by
 have hidx:=fun v w hrow => indexFree_any v l w hrow hok.1
 rw [firstI_none hf] at hidx
 have hK : takeK l = 0:=by unfold takeK;rw [hf];simp [hl]
 have hG : takeG l = 0:=by unfold takeG;rw [hf]
 have hE : takeE l = 2:=by unfold takeE;rw [hf];simp [hl]
 have hL : takeL l = l:=by unfold takeL;rw [hf];simp [hl]
 have HL60:=Lib.hid hl
 clear hl
 obtain ⟨v,hp,hrow,hF,hne⟩:=h
 have h : RepS w p l F:=⟨v,hp,hrow,hF,hne⟩
 have hc:=blk_cell hp 0
 simp at hc
 have Hi:=Lib.hid (hidx v)
 obtain ⟨HR,Hrow⟩:=hid2 h hrow
 have hpl:=blk_lt hp
 obtain ⟨H1,H2,H3,H4⟩:=hid4 hK hG hE hL
 clear hidx hK hG hE hL h hf hF hp hrow hne
 obtain ⟨A,cap,rfl,-,-⟩:=row_slice Hrow.out
 go_enter Tryz.func96,Tryz.ntmps96
 go_wp2_with fail
 refine (Hi.out _ (row_mod Hrow.out ((Mod.refl [] w).alloc _) (by simp))).mono ?_
 rintro e w1 ⟨rfl,hb1⟩
 simp only [World.size_alloc] at hb1
 have hb:=((Below.refl w.heap.size w).alloc (Nat.le_refl _) (.cells #[.int .i64 0,.int .i64 0] 47)).trans (hb1.mono (by omega))
 have hk1 : w1.heap[w.heap.size]? = some (.cells #[.int .i64 0,.int .i64 0] 47 (0,0)):=(hb1.block _ (by omega)).trans (heap_alloc_new w _)
 have hc1:=(hb.cell (p:=⟨p,0,none⟩) hpl).trans hc
 have d0:=blk_cell hk1 0
 have d1:=blk_cell hk1 1
 simp at d0 d1
 have q0:=blk_free hk1 0
 have q1:=blk_free hk1 1
 have hpl1:=blk_lt hk1
 have HB:=Lib.hid hb
 have hl2 : ((l.length : Int) == 60) = true:=by simp [HL60.out]
 clear hb1 hb hk1 hc
 go_wp2
 refine bodyPost_ret (v:=.tuple #[.agg #[.int .i64 0,.int .i64 0],.int .i64 2]) (by unfold results;go_simp) rfl ?_
 refine ⟨by rw [H1.out,H2.out,H3.out],F,?_,⟨?_,fun k hk => .inl hk⟩⟩
 ·rw [H4.out]
  exact (HR.out.mod (((Mod.ofBelow HB.out).setCell (.inr (Nat.le_refl _)) _).setCell (.inr (Nat.le_refl _)) _) (by simp))
 ·exact ((((Mod.ofBelow HB.out).mono (by simp)).setCell (.inr (Nat.le_refl _)) _).setCell (.inr (Nat.le_refl _)) _)
theorem take_new_fin {p : Nat} {l : Sl} {F : List Nat} {w w1 w2 : World} {v v' : Value} {o : Obj} (hR : RepS w p l F) (hp1 : w1.heap[p]? = some (.cells #[v] 164 (0,0))) (hF : F = p :: v.ownBlock.toList) (hb : Below w.heap.size w w1)
  (hk1 : w1.heap[w.heap.size]? = some (.cells #[.int .i64 0,.int .i64 0] 47 (0,0))) (hown : w2.ownsRow 0 166 2 v' (l ++ [(0,false)]).length ((l ++ [(0,false)]).flatMap slotC))
  (hg : (w1.alloc o).grownBy w2 v.ownBlock) (hloc : v'.ownBlock = v.ownBlock ∨ v'.ownBlock = some (w1.alloc o).heap.size) :
  ∃ g' cap',v' = .slice (some ⟨g',0,none⟩) (l.length + 1) cap' ∧ g' ≠ p ∧ p ≠ g' ∧ g' ≠ w.heap.size ∧ w.heap.size ≠ g' ∧ p ≠ w.heap.size ∧ w.heap.size ≠ p ∧ g' < w2.heap.size ∧ p < w2.heap.size ∧ w.heap.size < w2.heap.size ∧ w2.cell? ⟨p,0,none⟩ = some v ∧ w2.frozen? ⟨p,0,none⟩ = false ∧
   w2.cell? ⟨w.heap.size,0,none⟩ = some (.int .i64 0) ∧ w2.cell? ⟨w.heap.size,1,none⟩ = some (.int .i64 0) ∧ w2.frozen? ⟨w.heap.size,0,none⟩ = false ∧ w2.frozen? ⟨w.heap.size,1,none⟩ = false ∧
   w2.cell? ⟨g',l.length * 2,none⟩ = some (.int .i64 0) ∧ w2.cell? ⟨g',l.length * 2 + 1,none⟩ = some (.bool false) ∧ w2.frozen? ⟨g',l.length * 2 + 1,none⟩ = false ∧
   Hid (RepS ((w2.setCell ⟨p,0,none⟩ v').setCell ⟨g',l.length * 2 + 1,none⟩ (.bool true)) p (l ++ [(0,true)]) [p,g']) ∧ Hid (Mod F w w2) ∧ Hid (g' ∈ F ∨ w.heap.size ≤ g'):=by
 have hlt:=hR.lt
 have hpF : p ∈ F:=by rw [hF];simp
 have hpw:=hlt p hpF
 have hnp : F.Nodup:=by obtain ⟨_,_,_,_,h⟩:=hR;exact h
 have hvp : ∀ k,v.ownBlock = some k → k ∈ F ∧ k ≠ p:=by
  intro k hk
  refine ⟨by rw [hF];simp [hk],?_⟩
  rintro rfl
  rw [hF,hk] at hnp
  simp at hnp
 have hm : Mod F w w2:=(((Mod.ofBelow hb).mono (by simp)).alloc o).grown hg (fun k hk => .inl (hvp k hk).1)
 have hsz:=hb.size
 have hlast : (l ++ [((0 : Int),false)]).length = l.length + 1:=by simp
 obtain ⟨g',cap',cur',rfl,-,hblk,-⟩:=row_some hown (by simp)
 have hgF : g' ∈ F ∨ w.heap.size ≤ g':=by
  rcases hloc with h | h
  ·exact .inl (hvp g' h.symm).1
  ·simp only [Value.ownBlock,Option.some.injEq] at h;right;rw [h];simp;omega
 have hgp : g' ≠ p:=by
  rcases hloc with h | h
  ·exact (hvp g' h.symm).2
  ·simp only [Value.ownBlock,Option.some.injEq] at h;rw [h];simp;omega
 have hgz : g' ≠ w.heap.size:=by
  rcases hloc with h | h
  ·have:=hlt g' (hvp g' h.symm).1;omega
  ·simp only [Value.ownBlock,Option.some.injEq] at h;rw [h];have:=blk_lt hk1;simp;omega
 have hp2 : w2.heap[p]? = some (.cells #[v] 164 (0,0)):=(hg.block p (by have:=blk_lt hp1;simp;omega) (fun e => by have:=(hvp p e.symm).2;exact this rfl)).trans (blk_alloc hp1 o)
 have hz2 : w2.heap[w.heap.size]? = some (.cells #[.int .i64 0,.int .i64 0] 47 (0,0)):=(hg.block _ (by have:=blk_lt hk1;simp;omega) (fun e => by have:=hlt _ (hvp _ e.symm).1;omega)).trans (blk_alloc hk1 o)
 have hrep : RepS (w2.setCell ⟨p,0,none⟩ (.slice (some ⟨g',0,none⟩) (l ++ [((0 : Int),false)]).length cap')) p (l ++ [(0,false)]) [p,g']:=by
  refine ⟨_,by rw [blk_set hp2];rfl,row_mod hown ((Mod.refl [p] _).setCell (.inl (by simp)) _) (fun k hk => ?_),rfl,by simp;exact fun e => hgp e.symm⟩
  simp only [Value.ownBlock,Option.some.injEq] at hk
  subst hk;simpa using hgp
 obtain ⟨gg,cc,q1,q2,q3,q4,q5,q6,q7,q8⟩:=hrep.at_ (n:=l.length) (by simp)
 have hgg : gg = g':=by
  have:=(blk_set hp2 0 (.slice (some ⟨g',0,none⟩) (l ++ [((0 : Int),false)]).length cap')).symm.trans q1
  simp at this
  exact this.1.symm
 subst hgg
 have hcell : ∀ i,(w2.setCell ⟨p,0,none⟩ (.slice (some ⟨gg,0,none⟩) (l ++ [((0 : Int),false)]).length cap')).cell? ⟨gg,i,none⟩ = w2.cell? ⟨gg,i,none⟩:=fun i =>
  World.cell?_of_block (blk_set_ne (by simpa using hgp) _)
 have hq8:=q8 true
 simp only [List.getElem_append_right (Nat.le_refl l.length),Nat.sub_self,List.getElem_cons_zero] at hq8 q4 q5
 rw [hcell] at q4 q5
 rw [List.set_append_right _ _ (Nat.le_refl _),Nat.sub_self] at hq8
 refine ⟨gg,cap',by rw [hlast],hgp,fun e => hgp e.symm,hgz,fun e => hgz e.symm,by omega,by omega,blk_lt hblk,blk_lt hp2,blk_lt hz2,by rw [blk_cell hp2];rfl,blk_free hp2 0,by rw [blk_cell hz2];rfl,by rw [blk_cell hz2];rfl,blk_free hz2 0,blk_free hz2 1,q4,q5,blk_free hblk _,?_,hm,hgF⟩
 exact hq8
set_option maxHeartbeats 2000000 in
theorem take_new (p : Nat) (l : Sl) (F : List Nat) (w : World) (h : RepS w p l F) (hok : SlOk l) (hf : l.findIdx? freeB = none) (hl : l.length ≠ 60) :
  Calls Tryz.prog 96 #[.pointer (some ⟨p,0,none⟩)] w (TakePost p l F w):=by
 have hl60 : l.length < 60:=by have:=hok.1;omega
 have hidx:=fun v w hrow => indexFree_any v l w hrow hok.1
 rw [firstI_none hf] at hidx
 have hK : takeK l = l.length:=by unfold takeK;rw [hf];simp [hl]
 have hG : takeG l = 0:=by unfold takeG;rw [hf]
 have hE : takeE l = 0:=by unfold takeE;rw [hf];simp [hl]
 have hL : takeL l = l ++ [(0,true)]:=by unfold takeL;rw [hf];simp [hl]
 obtain ⟨v,hp,hrow,hF,hne⟩:=h
 have h : RepS w p l F:=⟨v,hp,hrow,hF,hne⟩
 have hc:=blk_cell hp 0
 simp at hc
 have Hi:=Lib.hid (hidx v)
 obtain ⟨HR,Hrow,Hp,HF⟩:=hid4 h hrow hp hF
 have hpl:=blk_lt hp
 obtain ⟨H1,H2,H3,H4⟩:=hid4 hK hG hE hL
 clear hidx hK hG hE hL h hf hF hp hrow
 obtain ⟨A,cap,rfl,-,-⟩:=row_slice Hrow.out
 go_enter Tryz.func96,Tryz.ntmps96
 go_wp2_with fail
 refine (Hi.out _ (row_mod Hrow.out ((Mod.refl [] w).alloc _) (by simp))).mono ?_
 rintro e w1 ⟨rfl,hb1⟩
 simp only [World.size_alloc] at hb1
 have hb:=((Below.refl w.heap.size w).alloc (Nat.le_refl _) (.cells #[.int .i64 0,.int .i64 0] 47)).trans (hb1.mono (by omega))
 have hk1 : w1.heap[w.heap.size]? = some (.cells #[.int .i64 0,.int .i64 0] 47 (0,0)):=(hb1.block _ (by omega)).trans (heap_alloc_new w _)
 have hc1:=(hb.cell (p:=⟨p,0,none⟩) hpl).trans hc
 have hrow1:=row_mod Hrow.out (Mod.ofBelow hb) (by simp)
 have hp1:=(Mod.ofBelow hb).keep Hp.out (by simp)
 have d0:=blk_cell hk1 0
 have d1:=blk_cell hk1 1
 simp at d0 d1
 have hpl1 : p < w1.heap.size:=blk_lt hp1
 obtain ⟨HB,HP1,HK1,HR1⟩:=hid4 hb hp1 hk1 hrow1
 have hl2 : ((l.length : Int) == 60) = false:=by simp;omega
 have hzz:=blk_lt hk1
 clear hb1 hb hk1 hc hl hrow1 hp1
 go_wp2_with (at_builtin;refine app_slot rfl _ _ rfl 0 _ l (0,false) ⟨w1.heap.size,0,none⟩ 1 rfl ((HR1.out).alloc _) rfl (new_rec rfl rfl) (by omega) (by omega) ?_;intro v' w2 hown2 hg1 hloc;obtain ⟨g',cap',rfl,n1,n2,n3,n4,n5,n6,l1,l2,l3,c1,c2,c3,c4,c5,c6,c7,c8,c9,KR,KM,KG⟩:=take_new_fin HR.out HP1.out HF.out HB.out HK1.out hown2 hg1 hloc;clear hown2 hg1 hloc)
 refine bodyPost_ret (v:=.tuple #[.agg #[.int .i64 l.length,.int .i64 0],.int .i64 0]) (by unfold results;go_simp) rfl ?_
 refine ⟨by rw [H1.out,H2.out,H3.out],[p,g'],?_,⟨?_,fun k hk => ?_⟩⟩
 ·rw [H4.out]
  exact (KR.out.mod (((Mod.refl [w.heap.size] _).setCell (.inl (by simp)) _).setCell (.inl (by simp)) _) (by simp [n5,n3]))
 ·exact ((((KM.out.setCell (.inl (by rw [HF.out];simp)) _).setCell KG.out _).setCell (.inr (Nat.le_refl _)) _).setCell (.inr (Nat.le_refl _)) _)
 ·simp only [List.mem_cons,List.not_mem_nil,or_false] at hk
  rcases hk with rfl | rfl
  ·exact .inl (by rw [HF.out];simp)
  ·exact KG.out
theorem take_any (p : Nat) (l : Sl) (F : List Nat) (w : World) (h : RepS w p l F) (hok : SlOk l) :
  Calls Tryz.prog 96 #[.pointer (some ⟨p,0,none⟩)] w (TakePost p l F w):=by
 cases hf : l.findIdx? freeB with
 | some n => exact take_old p l F w h hok n hf
 | none =>
  by_cases hl : l.length = 60
  ·exact take_full p l F w h hok hf hl
  ·exact take_new p l F w h hok hf hl
end Go.Proofs.YtfdillpofciicaaGreatDoor
namespace Go.Proofs.YtfdillpofciicaaGreatDoor
open Go.RowKit
theorem Lies.rec_at {α : Type} {enc : α → List Value} {n : Nat} {w : World} {B : Nat} {A : Option Addr} {l : List α} (h : Lies w B A (l.flatMap enc)) (hf : ∀ x,(enc x).length = n) (hn : 0 < n) {k : Nat} (hk : k < l.length) :
  ∃ b o,A = some ⟨b,o,none⟩ ∧ b < B ∧ ∀ j u,(enc l[k])[j]? = some u → w.cell? ⟨b,o + k * n + j,none⟩ = some u:=by
 obtain ⟨a,rfl,hb,hc⟩:=h.rec_ hf hn hk
 obtain ⟨a0,e,-,h0⟩:=h 0 ((l.flatMap enc)[0]'(by rw [flatV_length hf];exact Nat.mul_pos (by omega) hn)) (List.getElem?_eq_getElem _)
 cases e
 obtain ⟨b,o,s⟩:=a
 have hs : s = none:=by
  cases s with
  | none => rfl
  | some x =>
   rw [add_zero] at h0
   simp only [World.cell?] at h0
   split at h0
   ·simp at h0
   ·cases h0
 subst hs
 refine ⟨b,o,rfl,hb,fun j u hu => ?_⟩
 have:=hc j u hu
 rw [add_add_] at this
 have e : (⟨b,o,none⟩ : Addr).add (k * n + j) = ⟨b,o + k * n + j,none⟩:=by
  unfold Addr.add
  split
  ·next h0 => simp only [Addr.mk.injEq,true_and,and_true];omega
  ·simp only [Addr.mk.injEq,true_and,and_true];omega
 rw [e] at this
 exact this
attribute [local go_sem] AllFrom.cons_eq AllFrom.nil_eq putF_nil putF_cons wantedL_none wantedL_some OpGoalT OpGoalS YieldsR preF_nil preF_cons
end Go.Proofs.YtfdillpofciicaaGreatDoor
