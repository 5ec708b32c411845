import Derived.Test.YtfdillpofciicaaGreatDoorTopSavedJ2
import Derived.Lib.BitFns
import Derived.Lib.Strings
import Derived.Lib.Slices
import Derived.Lib.Small
import Derived.Lib.Walk
import Derived.Maps.AppendAt
import Derived.ChangeKeysEq
set_option linter.unusedVariables false
set_option linter.unusedSimpArgs false
/- A part of the proof that TopSaved returns true. -/
namespace Go.Proofs.YtfdillpofciicaaGreatDoor
open Go.RowKit
theorem ntz8_w (x : Nat) (h : x < 256) : wrap64 (Lib.ntz8 (x : Int)) = (Lib.trailingZeros8 x : Int):=by
 have e:=Lib.ntz8_eq ⟨x,h⟩
 have l:=Lib.trailingZeros8_le8 ⟨x,h⟩
 simp only at e l
 rw [e]
 exact IntWalk.wrap64_in _ ⟨by omega,by omega⟩
set_option maxRecDepth 100000 in
set_option maxHeartbeats 1000000 in
theorem ntz8_int (x : Int) (h0 : 0 ≤ x) (h1 : x ≤ 255) (w : World) :
  Calls Tryz.prog 63 #[.int .u8 x] w fun e w' => e = .returned (.int .i64 (wrap64 (Lib.ntz8 x))) ∧ w = w':=by
 go_enter Tryz.func63,Tryz.ntmps63
 go_wp2
 go_ret
 exact ⟨rfl,rfl⟩
theorem ntz8_any (x : Nat) (h : x < 256) (w : World) :
  Calls Tryz.prog 63 #[.int .u8 x] w fun e w' => e = .returned (.int .i64 (Lib.trailingZeros8 x)) ∧ w = w':=by
 rw [← ntz8_w x h]
 exact ntz8_int x (by omega) (by omega) w
theorem own_ge {w : World} {B e size n : Nat} {v : Value} {xs : List Value} (h : w.ownsRow B e size v n xs) : ∀ k,v.ownBlock = some k → B ≤ k:=by
 intro k hk
 rcases h.2 with ⟨rfl,_⟩ | ⟨g,cap,cur,rfl,hg,_⟩
 ·cases hk
 ·have : g = k:=by simpa [Value.ownBlock] using hk
  omega
def kindsTo (x n : Nat) : List Int:=((List.range n).filter fun k => x.testBit k).map fun (k : Nat) => (k : Int)
def kindsN (x : Nat) : List Int:=kindsTo x 8
theorem kindsN_step : ∀ x : Fin 256,x.val ≠ 0 → kindsN x.val = (Lib.trailingZeros8 x.val : Int) :: kindsN (x.val &&& (x.val - 1)):=by decide +kernel
theorem and_less : ∀ x : Fin 256,x.val ≠ 0 → (x.val &&& (x.val - 1)) < x.val:=by decide +kernel
theorem and_pred : ∀ x : Fin 256,x.val ≠ 0 → bits .and .u8 (x.val : Int) ((x.val : Int) - 1) = ((x.val &&& (x.val - 1) : Nat) : Int):=by decide +kernel
theorem kindsN_zero : kindsN 0 = []:=by decide
theorem kindsTo_len (x n : Nat) : (kindsTo x n).length ≤ n:=by
 simp only [kindsTo,List.length_map]
 exact Nat.le_trans (List.length_filter_le _ _) (by simp)
def low8 (m : Int) : Nat:=(m % 256).toNat
theorem low8_lt (m : Int) : low8 m < 256:=by unfold low8;omega
theorem wrap_u8_low8 (m : Int) : IntKind.u8.wrap m = (low8 m : Int):=by
 unfold low8
 simp only [IntKind.wrap,IntKind.bits,IntKind.signed,Bool.false_and]
 rw [if_neg (by decide)]
 omega
theorem info_int : (Tryz.prog.info? 3).map (fun i => (i.zero,i.size,i.bytes)) = some (some (.int .i64 0),1,8):=by kernel_rfl
theorem app_int {w : World} {ops : Array Oper} {rest : List Oper} {o : Oper} {a : Act} {Q : Exit → Act → World → Prop} (hgd : o.guard = none) (s x : Operand)
  (ho : o.op = .call { callee:=.builtin .append,args:=#[s,x],argTypes:=#[22,22] }) (base : Nat) (v : Value) (l : List Int) (y : Int) (ad : Addr) (c : Nat)
  (hs : a.eval s = v) (hown : w.ownsRow base 3 1 v l.length (ints l)) (hx : a.eval x = .slice (some ad) 1 c) (hc : w.cell? ad = some (.int .i64 y))
  (hlen : l.length < 8796093022208) (hbase : base ≤ w.heap.size)
  (h : ∀ v' w',w'.ownsRow base 3 1 v' (l ++ [y]).length (ints (l ++ [y])) → Below base w w' → wpList Tryz.prog ops Q rest (a.put o.dst v') w') : wpList Tryz.prog ops Q (o :: rest) a w:=by
 obtain ⟨i0,hi,hz0,hz1,hz2⟩:=info_parts info_int
 refine wpList_append_own w hgd s x 22 ho base 3 i0 (.int .i64 0) 1 8 Tryz.underlying22 hi hz0 hz1 hz2 rfl (by decide) v l.length (ints l) hs hown ad 1 c [.int .i64 y] hx rfl ?_ ?_ (by unfold maxLen;omega) (by omega) hbase ?_
 ·intro j u hu
  match j,hu with
  | 0,hu => simp at hu;subst hu;exact hc
  | j + 1,hu => simp at hu
 ·intro u hu;simp at hu;subst hu;rfl
 ·intro v' w' h1 h2 _
  refine h v' w' (by simpa [ints] using h1) ((Below.refl base w).grown h2 hbase (own_ge hown))
def MadeInts (B : Nat) (l : List Int) (w : World) (e : Ending) (w' : World) : Prop :=
 ∃ v,e = .returned v ∧ w'.ownsRow B 3 1 v l.length (ints l) ∧ Below B w w'
set_option maxHeartbeats 1000000 in
theorem list_any (m : Int) (w : World) : Calls Tryz.prog 23 #[.int .i64 m] w (MadeInts w.heap.size (kindsN (low8 m)) w):=by
 have hw:=wrap_u8_low8 m
 have hlt:=low8_lt m
 generalize low8 m = X at *
 go_enter Tryz.func23,Tryz.ntmps23
 go_wp2
 go_loopw [3,4] (fun v b wr => ∃ (l : List Int) (x : Nat),x < 256 ∧ b = .int .u8 x ∧ l ++ kindsN x = kindsN X ∧ wr.ownsRow w.heap.size 3 1 v l.length (ints l) ∧ Below w.heap.size w wr) (fun _ b _ => (Go.RowKit.intOf b).toNat)
 case atStart => exact ⟨[],X,hlt,rfl,rfl,⟨rfl,.inl ⟨rfl,rfl⟩⟩,Below.refl _ _⟩
 case round =>
  obtain ⟨l,x,hx,rfl,hl,hown,hbel⟩:=hrel
  have hlen : l.length ≤ 8:=by
   have h1:=congrArg List.length hl
   have h2:=kindsTo_len X 8
   rw [List.length_append] at h1
   unfold kindsN at *
   omega
  clear hw hlt
  by_cases hz : x = 0
  ·subst hz
   have hl2 : l = kindsN X:=by rw [← hl,kindsN_zero,List.append_nil]
   have Hl:=Lib.hid hl2
   clear hl hl2
   go_wp2
   go_ret
   exact ⟨_,rfl,by rw [← Hl.out];exact hown,hbel⟩
  ·have hst:=kindsN_step ⟨x,hx⟩ hz
   have hle:=and_less ⟨x,hx⟩ hz
   have hpr:=and_pred ⟨x,hx⟩ hz
   simp only [] at hst hle hpr
   rw [hst] at hl
   generalize hy : (Lib.trailingZeros8 x : Int) = y at *
   generalize x &&& (x - 1) = x2 at *
   have hnx:=ntz8_any x hx
   rw [hy] at hnx
   obtain ⟨Hl,Hnx⟩:=hid2 hl hnx
   clear hl hst hy hnx
   have hz' : ((x : Int) != 0) = true:=by simpa using hz
   have hxp : 1 ≤ (x : Int):=by omega
   clear hz
   have hsz:=hbel.size
   go_wp2_with (first | (go_at_call 63;refine (Hnx.out _).mono ?_;rintro e w' ⟨rfl,rfl⟩) | (at_builtin;refine app_int rfl _ _ rfl w.heap.size _ l y ⟨wr.heap.size,0,none⟩ 1 rfl (hown.alloc _) rfl (by simp) (by omega) (by simp;omega) ?_;intro v' w1 hown2 hb1))
   go_roundw
   case rel => exact ⟨l ++ [y],x2,by omega,rfl,by rw [← Hl.out];simp,hown2,(hbel.alloc hsz _).trans hb1⟩
   case measure => simp [Go.RowKit.intOf];omega
theorem own_lies {w : World} {B e size n : Nat} {v : Value} {xs : List Value} (h : w.ownsRow B e size v n xs) :
  ∃ A c,v = .slice A n c ∧ n ≤ c ∧ Lies w w.heap.size A xs:=by
 rcases h with ⟨hl,⟨rfl,rfl⟩ | ⟨g,cap,cur,rfl,hg,hh,hnc,hcap,hsz,rfl⟩⟩
 ·have : xs = []:=List.eq_nil_of_length_eq_zero (by omega)
  subst this
  exact ⟨none,0,rfl,by omega,Lies.nil _ _ _⟩
 ·refine ⟨some ⟨g,0,none⟩,cap,rfl,hnc,fun k u hu => ⟨_,rfl,?_,?_⟩⟩
  ·rcases Nat.lt_or_ge g w.heap.size with h | h
   ·exact h
   ·rw [Array.getElem?_eq_none h] at hh;cases hh
  ·rw [List.getElem?_take] at hu
   split at hu
   ·have e : (⟨g,0,none⟩ : Addr).add k = ⟨g,k,none⟩:=by unfold Addr.add;split <;> simp_all
    rw [e]
    simp only [World.cell?,hh]
    simpa using hu
   ·cases hu
def eqB {α : Type} [DecidableEq α] (x y : α) : Bool:=decide (x = y)
theorem eqB_self {α : Type} [DecidableEq α] (x : α) : eqB x x = true:=by simp [eqB]
theorem eqB_ne {α : Type} [DecidableEq α] {x y : α} (h : x ≠ y) : eqB x y = false:=by simp [eqB,h]
set_option maxHeartbeats 400000 in
theorem eqInt_any (A : Option Addr) (c : Nat) (A' : Option Addr) (c' : Nat) (l l' : List Int) (B B' : Nat) (w : World) (hl : l.length ≤ 9223372036854775807) (hl' : l'.length ≤ 9223372036854775807)
  (hA : Lies w B A (ints l)) (hA' : Lies w B' A' (ints l')) :
  Calls Tryz.prog 41 #[.slice A l.length c,.slice A' l'.length c'] w fun e w' => e = .returned (.bool (eqB l l')) ∧ w = w':=by
 by_cases hlen : l.length = l'.length
 ·have hb : ((l.length : Int) != (l'.length : Int)) = false:=by simp [hlen]
  have Hlen:=Lib.hid hlen
  clear hlen
  go_enter Tryz.func41,Tryz.ntmps41
  go_wp2
  go_loop [14] (fun i => ∃ k : Nat,k ≤ l.length ∧ i = .int .i64 k ∧ l.take k = l'.take k) (fun i => l.length - (Go.RowKit.intOf i).toNat)
  case atStart => exact ⟨0,by omega,rfl,rfl⟩
  case round =>
   obtain ⟨k,hk,rfl,heq⟩:=hrel
   have Heq:=Lib.hid heq
   clear heq hb
   by_cases hlt : k < l.length
   ·have hlt' : k < l'.length:=by rw [← Hlen.out];exact hlt
    obtain ⟨a,rfl,-,hc⟩:=hA.int hlt
    obtain ⟨a',rfl,-,hc'⟩:=hA'.int hlt'
    have hs:=take_succ_get l k hlt
    have hs':=take_succ_get l' k hlt'
    have hne : l[k] ≠ l'[k] → l ≠ l':=by
     intro h e;subst e;exact h rfl
    generalize l[k] = x at *
    generalize l'[k] = y at *
    obtain ⟨Hs,Hs',Hne⟩:=hid3 hs hs' hne
    clear hs hs' hne
    by_cases hxy : x = y
    ·subst hxy
     go_wp2
     go_round
     case rel => exact ⟨k + 1,by omega,by go_num,by rw [Hs.out,Hs'.out,Heq.out]⟩
     case measure => simp [Go.RowKit.intOf];omega
    ·have hb : (x != y) = true:=by simpa using hxy
     have Hf:=Lib.hid (eqB_ne (Hne.out hxy))
     clear hxy
     go_wp2
     go_ret
     exact ⟨by rw [Hf.out];rfl,rfl⟩
   ·have he : l = l':=by
     have:=Heq.out
     rwa [List.take_of_length_le (by omega),List.take_of_length_le (by have:=Hlen.out;omega)] at this
    have Hf : Hid (eqB l l' = true):=by rw [he];exact eqB_self _
    clear he
    go_wp2
    go_ret
    exact ⟨by rw [Hf.out];rfl,rfl⟩
 ·have hb : ((l.length : Int) != (l'.length : Int)) = true:=by simp;omega
  have Hf:=Lib.hid (eqB_ne (fun e : l = l' => hlen (congrArg List.length e)))
  clear hlen
  go_enter Tryz.func41,Tryz.ntmps41
  go_wp2
  go_ret
  exact ⟨by rw [Hf.out];rfl,rfl⟩
end Go.Proofs.YtfdillpofciicaaGreatDoor
namespace Go.Proofs.YtfdillpofciicaaGreatDoor
open Go Go.RowKit
structure Mod (F : List Nat) (w w' : World) : Prop where
 os : w'.os = w.os
 tape : w'.tape = w.tape
 output : w'.output = w.output
 size : w.heap.size ≤ w'.heap.size
 block : ∀ k,k < w.heap.size → k ∉ F → w'.heap[k]? = w.heap[k]?
namespace Mod
variable {F G : List Nat} {a b c w w' : World}
theorem refl (F : List Nat) (w : World) : Mod F w w:=⟨rfl,rfl,rfl,Nat.le_refl _,fun _ _ _ => rfl⟩
theorem trans (h : Mod F a b) (k : Mod G b c) (hG : ∀ x ∈ G,x ∈ F ∨ a.heap.size ≤ x) : Mod F a c :=
 ⟨k.os.trans h.os,k.tape.trans h.tape,k.output.trans h.output,Nat.le_trans h.size k.size,fun i hi hF =>
  (k.block i (Nat.lt_of_lt_of_le hi h.size) (fun hg => by
   rcases hG i hg with h' | h'
   ·exact hF h'
   ·omega)).trans (h.block i hi hF)⟩
theorem step (h : Mod F a b) (k : Mod F b c) : Mod F a c:=h.trans k fun _ hx => .inl hx
theorem mono (h : Mod F a b) (hG : ∀ x ∈ F,x ∈ G ∨ a.heap.size ≤ x) : Mod G a b:=(refl G a).trans h hG
theorem drew (h : Mod F a w) : Mod F a w.drew:=⟨h.os,h.tape,h.output,h.size,h.block⟩
theorem alloc (h : Mod F a w) (o : Obj) : Mod F a (w.alloc o) :=
 h.trans (G:=[]) ⟨rfl,rfl,rfl,by simp,fun k hk _ => Below.heap_alloc _ _ _ hk⟩ (by simp)
theorem setCell (h : Mod F a w) {p : Addr} (hp : p.block ∈ F ∨ a.heap.size ≤ p.block) (u : Value) : Mod F a (w.setCell p u) :=
 h.trans (G:=[p.block]) ⟨rfl,rfl,rfl,by simp [World.setCell],fun k _ hk => Below.heap_setCell _ _ _ _ (by simpa using hk)⟩ (by simpa using hp)
theorem ofBelow (h : Below w.heap.size w w') : Mod [] w w':=⟨h.os,h.tape,h.output,h.size,fun k hk _ => h.block k hk⟩
theorem andBelow (h : Mod F a w) (k : Below w.heap.size w w') : Mod F a w':=h.trans (ofBelow k) (by simp)
theorem toBelow {B : Nat} (h : Mod F w w') (hF : ∀ x ∈ F,B ≤ x) (hB : B ≤ w.heap.size) : Below B w w' :=
 ⟨h.os,h.tape,h.output,h.size,fun k hk => h.block k (by omega) (fun hm => by have:=hF k hm;omega)⟩
theorem below (h : Mod [] w w') : Below w.heap.size w w':=h.toBelow (by simp) (Nat.le_refl _)
theorem grown {row : Option Nat} (h : Mod F a w) (hg : w.grownBy w' row) (hr : ∀ k,row = some k → k ∈ F ∨ a.heap.size ≤ k) : Mod F a w' :=
 h.trans (G:=row.toList) ⟨hg.os,hg.tape,hg.output,hg.size,fun k hk hn => hg.block k hk (fun e => hn (by rw [← e];simp))⟩ (fun x hx => hr x (by simpa using hx))
theorem keep {k : Nat} {o : Obj} (h : Mod F w w') (hb : w.heap[k]? = some o) (hk : k ∉ F) : w'.heap[k]? = some o:=by
 have : k < w.heap.size:=by
  rcases Nat.lt_or_ge k w.heap.size with h | h
  ·exact h
  ·rw [Array.getElem?_eq_none h] at hb;cases hb
 exact (h.block k this hk).trans hb
end Mod
theorem blk_lt {w : World} {k : Nat} {o : Obj} (hb : w.heap[k]? = some o) : k < w.heap.size:=by
 rcases Nat.lt_or_ge k w.heap.size with h | h
 ·exact h
 ·rw [Array.getElem?_eq_none h] at hb;cases hb
theorem blk_cell {w : World} {b : Nat} {cs : Array Value} {e : TypeId} {f : Nat × Nat} (h : w.heap[b]? = some (.cells cs e f)) (i : Nat) : w.cell? ⟨b,i,none⟩ = cs[i]?:=by
 simp only [World.cell?,h]
 simp
theorem blk_free {w : World} {b : Nat} {cs : Array Value} {e : TypeId} (h : w.heap[b]? = some (.cells cs e (0,0))) (i : Nat) : w.frozen? ⟨b,i,none⟩ = false:=by
 simp only [World.frozen?,h]
 simp
theorem blk_set {w : World} {b : Nat} {cs : Array Value} {e : TypeId} {f : Nat × Nat} (h : w.heap[b]? = some (.cells cs e f)) (i : Nat) (u : Value) :
  (w.setCell ⟨b,i,none⟩ u).heap[b]? = some (.cells (cs.setIfInBounds i u) e f):=by
 simp [World.setCell,Array.getElem?_modify,h]
theorem blk_set_ne {w : World} {b : Nat} {a : Addr} (hne : b ≠ a.block) (u : Value) : (w.setCell a u).heap[b]? = w.heap[b]?:=Below.heap_setCell _ _ _ _ hne
theorem blk_alloc {w : World} {b : Nat} {x : Obj} (h : w.heap[b]? = some x) (o : Obj) : (w.alloc o).heap[b]? = some x:=by
 rw [Below.heap_alloc _ _ _ (blk_lt h)];exact h
theorem blk_drew {w : World} {b : Nat} {x : Obj} (h : w.heap[b]? = some x) : w.drew.heap[b]? = some x:=h
section
variable {w w' : World} {B e size n : Nat} {v : Value} {xs : List Value} {F : List Nat}
theorem row_mod (h : w.ownsRow B e size v n xs) (hm : Mod F w w') (hd : ∀ k,v.ownBlock = some k → k ∉ F) : w'.ownsRow B e size v n xs:=by
 obtain ⟨hl,h⟩:=h
 refine ⟨hl,?_⟩
 rcases h with h | ⟨g,cap,cur,rfl,hg,hh,hr⟩
 ·exact .inl h
 ·exact .inr ⟨g,cap,cur,rfl,hg,hm.keep hh (hd g rfl),hr⟩
theorem row_base (h : w.ownsRow B e size v n xs) {B' : Nat} (hB : ∀ k,v.ownBlock = some k → B' ≤ k) : w.ownsRow B' e size v n xs:=by
 obtain ⟨hl,h⟩:=h
 refine ⟨hl,?_⟩
 rcases h with h | ⟨g,cap,cur,rfl,hg,hh,hr⟩
 ·exact .inl h
 ·exact .inr ⟨g,cap,cur,rfl,hB g rfl,hh,hr⟩
theorem row_lt (h : w.ownsRow B e size v n xs) : ∀ k,v.ownBlock = some k → k < w.heap.size:=fun k hk => (h.lt k hk).2
theorem row_some (h : w.ownsRow B e size v n xs) (hn : 0 < n) : ∃ g cap cur,v = .slice (some ⟨g,0,none⟩) n cap ∧ B ≤ g ∧ w.heap[g]? = some (.cells cur e (0,0)) ∧ n ≤ cap ∧ cap ≤ maxLen ∧ cur.size = cap * size ∧ cur.toList.take (n * size) = xs:=by
 rcases h with ⟨hl,⟨rfl,rfl⟩ | h⟩
 ·omega
 ·exact h
theorem row_slice (h : w.ownsRow B e size v n xs) : ∃ A cap,v = .slice A n cap ∧ n ≤ cap ∧ cap ≤ maxLen:=by
 rcases h with ⟨hl,⟨rfl,rfl⟩ | ⟨g,cap,cur,rfl,_,_,hn,hc,_⟩⟩
 ·exact ⟨none,0,rfl,Nat.le_refl _,by unfold maxLen;omega⟩
 ·exact ⟨_,cap,rfl,hn,hc⟩
theorem row_set {g cap : Nat} (h : w.ownsRow B e size (.slice (some ⟨g,0,none⟩) n cap) n xs) (i : Nat) (u : Value) :
  (w.setCell ⟨g,i,none⟩ u).ownsRow B e size (.slice (some ⟨g,0,none⟩) n cap) n (xs.set i u):=by
 obtain ⟨hl,⟨h,_⟩ | ⟨g',cap',cur,he,hg,hh,hn,hc,hs,hx⟩⟩:=h
 ·cases h
 ·cases he
  refine ⟨by simpa using hl,.inr ⟨g,cap,_,rfl,hg,blk_set hh i u,hn,hc,by simpa using hs,?_⟩⟩
  rw [Array.toList_setIfInBounds,← hx,List.take_set]
theorem row_free {g cap : Nat} (h : w.ownsRow B e size (.slice (some ⟨g,0,none⟩) n cap) n xs) (i : Nat) : w.frozen? ⟨g,i,none⟩ = false:=by
 obtain ⟨hl,⟨h,_⟩ | ⟨g',cap',cur,he,hg,hh,hr⟩⟩:=h
 ·cases h
 ·cases he;exact blk_free hh i
theorem row_cell {g cap : Nat} (h : w.ownsRow B e size (.slice (some ⟨g,0,none⟩) n cap) n xs) {i : Nat} {u : Value} (hi : xs[i]? = some u) : w.cell? ⟨g,i,none⟩ = some u:=by
 obtain ⟨hl,⟨h,_⟩ | ⟨g',cap',cur,he,hg,hh,hn,hc,hs,hx⟩⟩:=h
 ·cases h
 ·cases he
  rw [blk_cell hh]
  rw [← hx,List.getElem?_take] at hi
  split at hi
  ·simpa using hi
  ·cases hi
theorem row_lies (h : w.ownsRow B e size v n xs) : ∃ A c,v = .slice A n c ∧ n ≤ c ∧ Lies w w.heap.size A xs:=own_lies h
theorem row_cut {A : Option Addr} {cap : Nat} (h : w.ownsRow B e size (.slice A n cap) n xs) {m : Nat} (hm : m ≤ n) (hA : A ≠ none) : w.ownsRow B e size (.slice A m cap) m (xs.take (m * size)):=by
 obtain ⟨hl,⟨h,_⟩ | ⟨g',cap',cur,he,hg,hh,hn,hc,hs,hx⟩⟩:=h
 ·cases h;exact absurd rfl hA
 ·cases he
  have h1 : m * size ≤ n * size:=Nat.mul_le_mul_right _ hm
  refine ⟨by rw [List.length_take];omega,.inr ⟨g',cap,cur,rfl,hg,hh,by omega,hc,hs,?_⟩⟩
  rw [← hx,List.take_take,Nat.min_eq_left h1]
end
section
variable {α : Type} {enc : α → List Value} {n : Nat}
theorem flatV_length (hf : ∀ x,(enc x).length = n) (l : List α) : (l.flatMap enc).length = l.length * n:=by
 induction l with
 | nil => simp
 | cons x l ih => simp [ih,hf x,Nat.succ_mul,Nat.add_comm]
theorem flatV_get (hf : ∀ x,(enc x).length = n) : ∀ (l : List α) (k : Nat) (hk : k < l.length) (j : Nat),j < n → (l.flatMap enc)[k * n + j]? = (enc l[k])[j]?
 | x :: l,0,_,j,hj => by
  simp only [List.flatMap_cons,Nat.zero_mul,Nat.zero_add,List.getElem_cons_zero]
  rw [List.getElem?_append_left (by rw [hf];exact hj)]
 | x :: l,k + 1,hk,j,hj => by
  simp only [List.flatMap_cons,List.getElem_cons_succ]
  rw [List.getElem?_append_right (by rw [hf,Nat.succ_mul];omega),hf,show (k + 1) * n + j - n = k * n + j by rw [Nat.succ_mul];omega]
  exact flatV_get hf l k (by simpa using hk) j hj
theorem flatV_take (hf : ∀ x,(enc x).length = n) : ∀ (l : List α) (k : Nat),(l.flatMap enc).take (k * n) = (l.take k).flatMap enc
 | [],k => by simp
 | x :: l,0 => by simp
 | x :: l,k + 1 => by
  simp only [List.flatMap_cons,tS]
  rw [List.take_append,hf,List.take_of_length_le (by rw [hf,Nat.succ_mul];omega),show (k + 1) * n - n = k * n by rw [Nat.succ_mul];omega,flatV_take hf l k]
theorem flatV_set (hf : ∀ x,(enc x).length = n) : ∀ (l : List α) (k : Nat) (hk : k < l.length) (j : Nat) (u : Value) (y : α),j < n → (enc l[k]).set j u = enc y → (l.flatMap enc).set (k * n + j) u = (l.set k y).flatMap enc
 | x :: l,0,_,j,u,y,hj,he => by
  simp only [List.flatMap_cons,Nat.zero_mul,Nat.zero_add,List.set_cons_zero]
  simp only [List.getElem_cons_zero] at he
  rw [List.set_append_left _ _ (by rw [hf];exact hj),he]
 | x :: l,k + 1,hk,j,u,y,hj,he => by
  simp only [List.flatMap_cons,List.set_cons_succ]
  rw [List.set_append_right _ _ (by rw [hf,Nat.succ_mul];omega),hf,show (k + 1) * n + j - n = k * n + j by rw [Nat.succ_mul];omega]
  rw [flatV_set hf l k (by simpa using hk) j u y hj (by simpa using he)]
theorem Lies.rec_ {w : World} {B : Nat} {A : Option Addr} {l : List α} (h : Lies w B A (l.flatMap enc)) (hf : ∀ x,(enc x).length = n) (hn : 0 < n) {k : Nat} (hk : k < l.length) :
  ∃ a,A = some a ∧ a.block < B ∧ ∀ j u,(enc l[k])[j]? = some u → w.cell? ((a.add (k * n)).add j) = some u:=by
 have hget : ∀ j,j < n → (l.flatMap enc)[k * n + j]? = (enc l[k])[j]?:=flatV_get hf l k hk
 have h0 : (l.flatMap enc)[k * n + 0]? = some ((enc l[k])[0]'(by rw [hf];exact hn)):=by rw [hget 0 hn];exact List.getElem?_eq_getElem _
 obtain ⟨a,rfl,hb,_⟩:=h _ _ h0
 refine ⟨a,rfl,hb,fun j u hu => ?_⟩
 have hj : j < n:=by
  rcases Nat.lt_or_ge j n with h | h
  ·exact h
  ·rw [List.getElem?_eq_none (by rw [hf];exact h)] at hu;cases hu
 rw [← hget j hj] at hu
 obtain ⟨a',e,_,hc⟩:=h _ _ hu
 cases e
 rw [add_add_]
 exact hc
theorem row_rec {B e : Nat} {w : World} {v : Value} {l : List α} (hf : ∀ x,(enc x).length = n) (h : w.ownsRow B e n v l.length (l.flatMap enc)) {k : Nat} (hk : k < l.length) :
  ∃ g cap,v = .slice (some ⟨g,0,none⟩) l.length cap ∧ ∀ j u,(enc l[k])[j]? = some u → w.cell? ⟨g,k * n + j,none⟩ = some u:=by
 obtain ⟨g,cap,cur,rfl,_,hr⟩:=row_some h (by omega)
 refine ⟨g,cap,rfl,fun j u hu => row_cell h ?_⟩
 have hj : j < n:=by
  rcases Nat.lt_or_ge j n with h | h
  ·exact h
  ·rw [List.getElem?_eq_none (by rw [hf];exact h)] at hu;cases hu
 rw [flatV_get hf l k hk j hj];exact hu
theorem app_rec {P : Program} {w : World} {ops : Array Oper} {rest : List Oper} {o : Oper} {a : Act} {Q : Exit → Act → World → Prop} (hgd : o.guard = none) (s x : Operand) (T E : TypeId)
  (ho : o.op = .call { callee:=.builtin .append,args:=#[s,x],argTypes:=#[T,T] }) (ht : P.underlying T = some (.slice E)) {z : Value} {bytes : Nat}
  (hinf : (P.info? E).map (fun i => (i.zero,i.size,i.bytes)) = some (some z,n,bytes)) (hzs : z.cells.size = n) (hn : 0 < n) (hby : 0 < bytes) (hone : ∀ x,∀ u ∈ enc x,u.oneCell' = true) (hf : ∀ x,(enc x).length = n)
  (base : Nat) (v : Value) (l : List α) (y : α) (ad : Addr) (c : Nat) (hs : a.eval s = v) (hown : w.ownsRow base E n v l.length (l.flatMap enc)) (hx : a.eval x = .slice (some ad) 1 c)
  (hc : ∀ j u,(enc y)[j]? = some u → w.cell? (ad.add j) = some u) (hlen : (l.length + 1) * bytes ≤ 140737488355328) (hbase : base ≤ w.heap.size)
  (h : ∀ v' w',w'.ownsRow base E n v' (l ++ [y]).length ((l ++ [y]).flatMap enc) → w.grownBy w' v.ownBlock → (v'.ownBlock = v.ownBlock ∨ v'.ownBlock = some w.heap.size) → wpList P ops Q rest (a.put o.dst v') w') : wpList P ops Q (o :: rest) a w:=by
 obtain ⟨i0,hi,hz0,hz1,hz2⟩:=info_parts hinf
 have h1 : l.length + 1 ≤ (l.length + 1) * bytes:=Nat.le_mul_of_pos_right _ hby
 refine wpList_append_own_at w hgd s x T ho base E i0 z n bytes ht hi hz0 hz1 hz2 hzs hn v l.length _ hs hown ad 1 c (enc y) hx (by rw [hf,Nat.one_mul]) hc (hone y) (by unfold maxLen;omega) hlen hbase ?_
 intro v' w' h1 h2 _ h4
 refine h v' w' ?_ h2 h4
 rw [List.length_append,List.flatMap_append]
 simpa using h1
end
end Go.Proofs.YtfdillpofciicaaGreatDoor
namespace Go.Proofs.YtfdillpofciicaaGreatDoor
open Go Go.RowKit
section
variable {P : Program}
def piece (P : Program) (t : TypeId) (cs : List Value) (off : Nat) : List Value:=(cs.drop off).take (P.cellsOf t)
def IE (P : Program) (d : Nat) (t : TypeId) (G : List Value → Prop) : Prop :=
 ∀ (w : World) (cs cs' : List Value) (off : Nat),G (piece P t cs off) → G (piece P t cs' off) →
  ∃ a b r,(part t cs.toArray off).run P w = .ok a w ∧ (part t cs'.toArray off).run P w = .ok b w ∧ (Op.equalIn d t a b).run P w = .ok r w ∧ (r = true ↔ piece P t cs off = piece P t cs' off)
def ES (P : Program) (d : Nat) (t : TypeId) (G : List Value → Prop) : Prop :=
 ∀ (w : World) (cs cs' : List Value),G cs → G cs' → ∃ r,(Op.equalIn d t (.agg cs.toArray) (.agg cs'.toArray)).run P w = .ok r w ∧ (r = true ↔ cs = cs')
def GInt (cs : List Value) : Prop:=∃ z,cs = [.int .i64 z]
def GBool (cs : List Value) : Prop:=∃ b,cs = [.bool b]
def GInts (n : Nat) (cs : List Value) : Prop:=∃ zs : List Int,cs = ints zs ∧ zs.length = n
theorem part_one {t : TypeId} {d : TypeDesc} (ht : P.underlying t = some d) (hd : (match d with | .struct _ | .array _ _ => true | _ => false) = false) {cs : List Value} {off n : Nat} {v : Value} (h : (cs.drop off).take n = [v]) (w : World) :
  (part t cs.toArray off).run P w = .ok v w:=by
 have hv : cs[off]? = some v:=by
  have : ((cs.drop off).take n)[0]? = some v:=by rw [h];rfl
  rw [List.getElem?_take,List.getElem?_drop] at this
  split at this
  ·simpa using this
  ·cases this
 unfold part isAgg
 cases d <;> simp_all [Sem.run_bind,run_underlying ht]
theorem IE.int {d : Nat} {t : TypeId} {k : IntKind} (ht : P.underlying t = some (.int k)) : IE P (d + 1) t GInt:=by
 intro w cs cs' off ⟨z,h⟩ ⟨z',h'⟩
 refine ⟨_,_,z == z',part_one ht rfl h w,part_one ht rfl h' w,by simp [Op.equalIn,run_underlying ht],?_⟩
 rw [h,h'];simp
theorem IE.bool {d : Nat} {t : TypeId} (ht : P.underlying t = some .bool) : IE P (d + 1) t GBool:=by
 intro w cs cs' off ⟨z,h⟩ ⟨z',h'⟩
 refine ⟨_,_,z == z',part_one ht rfl h w,part_one ht rfl h' w,by simp [Op.equalIn,run_underlying ht],?_⟩
 rw [h,h'];simp
theorem IE.mono {d : Nat} {t : TypeId} {G G' : List Value → Prop} (h : IE P d t G) (hg : ∀ cs,G' cs → G cs) : IE P d t G' :=
 fun w cs cs' off h1 h2 => h w cs cs' off (hg _ h1) (hg _ h2)
theorem ES.part {d : Nat} {t : TypeId} {i : TypeInfo} {td : TypeDesc} {G : List Value → Prop} (h : ES P d t G) (ht : P.underlying t = some td) (hd : (match td with | .struct _ | .array _ _ => true | _ => false) = true) (hi : P.info? t = some i) : IE P d t G:=by
 intro w cs cs' off h1 h2
 obtain ⟨r,hr,hiff⟩:=h w _ _ h1 h2
 have key : ∀ cs : List Value,(Go.part t cs.toArray off).run P w = .ok (.agg (piece P t cs off).toArray) w:=by
  intro cs
  have ha : (isAgg t).run P w = .ok true w:=by unfold isAgg;cases td <;> simp_all [Sem.run_bind,run_underlying ht]
  have he : cs.toArray.extract off (off + P.cellsOf t) = (piece P t cs off).toArray:=by
   unfold piece
   apply Array.ext'
   simp [List.extract_eq_take_drop]
  unfold Go.part
  simp only [Sem.run_bind,ha,Result.andThen_ok,if_true,run_sizeOf w hi,he]
  rfl
 exact ⟨_,_,r,key cs,key cs',hr,hiff⟩
def contig (P : Program) : List Field → Nat → Nat → Bool
 | [],o,n => o == n
 | f :: fs, o, n => (f.name != "_") && f.offset == o && contig P fs (o + P.cellsOf f.type) n
theorem drop_eq_iff (a b : List Value) (o m : Nat) : a.drop o = b.drop o ↔ (a.drop o).take m = (b.drop o).take m ∧ a.drop (o + m) = b.drop (o + m):=by
 constructor
 ·intro h
  have e : ∀ c : List Value,c.drop (o + m) = (c.drop o).drop m:=fun c => by rw [List.drop_drop]
  rw [e,e,h]
  exact ⟨rfl,rfl⟩
 ·rintro ⟨h1,h2⟩
  have e : ∀ c : List Value,c.drop (o + m) = (c.drop o).drop m:=fun c => by rw [List.drop_drop]
  rw [e,e] at h2
  rw [← List.take_append_drop m (a.drop o),← List.take_append_drop m (b.drop o),h1,h2]
theorem eqFields_run {d : Nat} {Gs : List (List Value → Prop)} (w : World) (cs cs' : List Value) (n : Nat) (hl : cs.length = n) (hl' : cs'.length = n) : ∀ (fs : List Field) (o : Nat),contig P fs o n = true →
  (∀ f ∈ fs,∃ G,IE P d f.type G ∧ G (piece P f.type cs f.offset) ∧ G (piece P f.type cs' f.offset)) →
  ∃ r,(Op.eqFields d cs.toArray cs'.toArray fs).run P w = .ok r w ∧ (r = true ↔ cs.drop o = cs'.drop o)
 | [],o,h,_ => by
  have : o = n:=by simpa [contig] using h
  subst this
  exact ⟨true,by simp [Op.eqFields],by simp [List.drop_of_length_le,hl,hl']⟩
 | f :: fs,o,h,hG => by
  simp only [contig,Bool.and_eq_true,bne_iff_ne,beq_iff_eq] at h
  obtain ⟨⟨hn,ho⟩,hc⟩:=h
  obtain ⟨G,hI,g1,g2⟩:=hG f (by simp)
  obtain ⟨a,b,r,p1,p2,p3,hiff⟩:=hI w cs cs' f.offset g1 g2
  obtain ⟨r',hr',hiff'⟩:=eqFields_run (Gs:=Gs) w cs cs' n hl hl' fs _ hc (fun g hg => hG g (by simp [hg]))
  simp only [Op.eqFields,hn,ne_eq,not_false_eq_true,if_true,Sem.run_bind,p1,p2,p3,Result.andThen_ok]
  rw [drop_eq_iff cs cs' o (P.cellsOf f.type)]
  rw [ho] at hiff
  unfold piece at hiff
  cases r
  ·exact ⟨false,by simp,by simp;intro e;exact absurd (hiff.2 e) (by simp)⟩
  ·refine ⟨r',by simpa using hr',?_⟩
   rw [hiff']
   exact ⟨fun h => ⟨hiff.1 rfl,h⟩,fun h => h.2⟩
theorem ES.struct {d : Nat} {t : TypeId} {G : List Value → Prop} (ht : P.underlying t = some (.struct (P.fieldsOf t))) (hp : P.stoodInHeld t = false) (n : Nat) (hc : contig P (P.fieldsOf t).toList 0 n = true)
  (hG : ∀ cs,G cs → cs.length = n) (hf : ∀ f ∈ (P.fieldsOf t).toList,∃ G',IE P d f.type G' ∧ ∀ cs,G cs → G' (piece P f.type cs f.offset)) : ES P (d + 1) t G:=by
 intro w cs cs' h1 h2
 rw [run_equalIn_struct w d t _ _ ht hp]
 have:=eqFields_run (d:=d) (Gs:=[]) w cs cs' n (hG _ h1) (hG _ h2) (P.fieldsOf t).toList 0 hc (fun f hfm => by
  obtain ⟨G',a,b⟩:=hf f hfm
  exact ⟨G',a,b _ h1,b _ h2⟩)
 simpa using this
theorem eqItems_run {d : Nat} {e : TypeId} {G : List Value → Prop} (hI : IE P d e G) (w : World) (cs cs' : List Value) (n : Nat) (hl : cs.length = n * P.cellsOf e) (hl' : cs'.length = n * P.cellsOf e) : ∀ (m o : Nat),o + m = n →
  (∀ i,i < n → G (piece P e cs (i * P.cellsOf e)) ∧ G (piece P e cs' (i * P.cellsOf e))) →
  ∃ r,(Op.eqItems d e (P.cellsOf e) cs.toArray cs'.toArray (List.range' o m)).run P w = .ok r w ∧ (r = true ↔ cs.drop (o * P.cellsOf e) = cs'.drop (o * P.cellsOf e))
 | 0,o,ho,_ => by
  have : o = n:=by omega
  subst this
  exact ⟨true,by simp [Op.eqItems],by simp [List.drop_of_length_le,hl,hl']⟩
 | m + 1,o,ho,hG => by
  obtain ⟨g1,g2⟩:=hG o (by omega)
  obtain ⟨a,b,r,p1,p2,p3,hiff⟩:=hI w cs cs' (o * P.cellsOf e) g1 g2
  obtain ⟨r',hr',hiff'⟩:=eqItems_run hI w cs cs' n hl hl' m (o + 1) (by omega) hG
  simp only [List.range'_succ,Op.eqItems,Sem.run_bind,p1,p2,p3,Result.andThen_ok]
  rw [drop_eq_iff cs cs' (o * P.cellsOf e) (P.cellsOf e)]
  rw [Nat.succ_mul] at hiff'
  unfold piece at hiff
  cases r
  ·exact ⟨false,by simp,by simp;intro e;exact absurd (hiff.2 e) (by simp)⟩
  ·refine ⟨r',by simpa using hr',?_⟩
   rw [hiff']
   exact ⟨fun h => ⟨hiff.1 rfl,h⟩,fun h => h.2⟩
theorem ES.array {d : Nat} {t e : TypeId} {n : Nat} {i : TypeInfo} {G G' : List Value → Prop} (ht : P.underlying t = some (.array n e)) (hi : P.info? e = some i) (hI : IE P d e G') (hG : ∀ cs,G cs → cs.length = n * P.cellsOf e ∧ ∀ i,i < n → G' (piece P e cs (i * P.cellsOf e))) : ES P (d + 1) t G:=by
 intro w cs cs' h1 h2
 rw [run_equalIn_array w d _ _ ht hi,List.range_eq_range']
 have:=eqItems_run hI w cs cs' n (hG _ h1).1 (hG _ h2).1 n 0 (by omega) (fun i hi => ⟨(hG _ h1).2 i hi,(hG _ h2).2 i hi⟩)
 simpa using this
theorem gInts_piece {t : TypeId} {n off : Nat} {cs : List Value} (h : GInts n cs) (hle : off + P.cellsOf t ≤ n) : GInts (P.cellsOf t) (piece P t cs off):=by
 obtain ⟨zs,rfl,hl⟩:=h
 refine ⟨(zs.drop off).take (P.cellsOf t),?_,by rw [List.length_take,List.length_drop];omega⟩
 unfold piece ints
 rw [List.map_take,List.map_drop]
theorem gInts_one {cs : List Value} (h : GInts 1 cs) : GInt cs:=by
 obtain ⟨zs,rfl,hl⟩:=h
 match zs,hl with
 | [z],_ => exact ⟨z,rfl⟩
theorem IE.ints1 {d : Nat} {t : TypeId} {k : IntKind} (ht : P.underlying t = some (.int k)) : IE P (d + 1) t (GInts 1):=(IE.int ht).mono fun _ => gInts_one
theorem ES.flat {d : Nat} {t : TypeId} (ht : P.underlying t = some (.struct (P.fieldsOf t))) (hp : P.stoodInHeld t = false) (n : Nat) (hc : contig P (P.fieldsOf t).toList 0 n = true)
  (hle : ((P.fieldsOf t).toList.all fun f => decide (f.offset + P.cellsOf f.type ≤ n)) = true)
  (hf : ∀ f ∈ (P.fieldsOf t).toList,IE P d f.type (GInts (P.cellsOf f.type))) : ES P (d + 1) t (GInts n):=by
 refine ES.struct ht hp n hc (fun cs h => ?_) (fun f hfm => ⟨_,hf f hfm,fun cs h => gInts_piece h ?_⟩)
 ·obtain ⟨zs,rfl,hl⟩:=h;rw [ints_length];exact hl
 ·simpa using List.all_eq_true.1 hle f hfm
theorem ES.intArr {d : Nat} {t e : TypeId} {n : Nat} {i : TypeInfo} {k : IntKind} (ht : P.underlying t = some (.array n e)) (hi : P.info? e = some i) (he : P.underlying e = some (.int k)) (h1 : P.cellsOf e = 1) : ES P (d + 2) t (GInts n):=by
 refine ES.array ht hi ((IE.int he).mono (fun _ => id)) (fun cs h => ⟨?_,fun j hj => gInts_one ?_⟩)
 ·obtain ⟨zs,rfl,hl⟩:=h;rw [ints_length,h1];omega
 ·have:=gInts_piece (P:=P) (t:=e) (off:=j * P.cellsOf e) h (by rw [h1];omega)
  rwa [h1] at this ⊢
theorem ints_inj {a b : List Int} : ints a = ints b ↔ a = b:=by
 constructor
 ·intro h
  unfold ints at h
  exact List.map_inj_right (fun x y h => by cases h;rfl) |>.1 h
 ·rintro rfl;rfl
theorem ES.eqlI {t : TypeId} {n : Nat} (h : ES P 10000 t (GInts n)) (w : World) (a b : List Int) (ha : a.length = n) (hb : b.length = n) {x y : Array Value} (hx : x = (ints a).toArray) (hy : y = (ints b).toArray) :
  (binOp .eql t (.agg x) (.agg y)).run P w = .ok (.bool (eqB a b)) w:=by
 subst hx;subst hy
 obtain ⟨r,hr,hiff⟩:=h w (ints a) (ints b) ⟨a,rfl,ha⟩ ⟨b,rfl,hb⟩
 rw [run_eql_struct,hr]
 have : r = eqB a b:=by rw [Bool.eq_iff_iff,hiff,ints_inj];simp [eqB]
 simp [this]
theorem ES.neqI {t : TypeId} {n : Nat} (h : ES P 10000 t (GInts n)) (w : World) (a b : List Int) (ha : a.length = n) (hb : b.length = n) {x y : Array Value} (hx : x = (ints a).toArray) (hy : y = (ints b).toArray) :
  (binOp .neq t (.agg x) (.agg y)).run P w = .ok (.bool (!eqB a b)) w:=by
 subst hx;subst hy
 obtain ⟨r,hr,hiff⟩:=h w (ints a) (ints b) ⟨a,rfl,ha⟩ ⟨b,rfl,hb⟩
 rw [run_neq_struct,hr]
 have : r = eqB a b:=by rw [Bool.eq_iff_iff,hiff,ints_inj];simp [eqB]
 simp [this]
end
theorem ieInt (d : Nat) : IE Tryz.prog (d + 1) 3 (GInts (Tryz.prog.cellsOf 3)):=by
 rw [show Tryz.prog.cellsOf 3 = 1 by kernel_rfl];exact IE.ints1 Tryz.underlying3
theorem esHandle (d : Nat) : ES Tryz.prog (d + 2) 47 (GInts 2):=by
 refine ES.flat (by kernel_rfl) (by kernel_rfl) 2 (by kernel_rfl) (by kernel_rfl) ?_
 intro f hf
 simp only [Program.fieldsOf,Tryz.underlying47,List.mem_cons,List.not_mem_nil,or_false] at hf
 rcases hf with rfl | rfl <;> exact ieInt d
theorem esArr (d : Nat) : ES Tryz.prog (d + 2) 43 (GInts 8):=by
 obtain ⟨i,hi⟩:=Option.isSome_iff_exists.1 (show (Tryz.prog.info? 3).isSome = true by kernel_rfl)
 exact ES.intArr Tryz.underlying43 hi Tryz.underlying3 (by kernel_rfl)
theorem esBeast (d : Nat) : ES Tryz.prog (d + 3) 45 (GInts 9):=by
 refine ES.flat (by kernel_rfl) (by kernel_rfl) 9 (by kernel_rfl) (by kernel_rfl) ?_
 intro f hf
 simp only [Program.fieldsOf,Tryz.underlying45,List.mem_cons,List.not_mem_nil,or_false] at hf
 rcases hf with rfl | rfl
 ·exact ieInt (d + 1)
 ·show IE Tryz.prog (d + 2) 43 (GInts (Tryz.prog.cellsOf 43))
  rw [show Tryz.prog.cellsOf 43 = 8 by kernel_rfl]
  obtain ⟨i,hi⟩:=Option.isSome_iff_exists.1 (show (Tryz.prog.info? 43).isSome = true by kernel_rfl)
  exact (esArr d).part Tryz.underlying43 rfl hi
theorem esSlot (d : Nat) : ES Tryz.prog (d + 2) 166 (fun cs => ∃ z b,cs = [.int .i64 z,.bool b]):=by
 refine ES.struct (by kernel_rfl) (by kernel_rfl) 2 (by kernel_rfl) (fun cs h => by obtain ⟨z,b,rfl⟩:=h;rfl) ?_
 intro f hf
 simp only [Program.fieldsOf,Tryz.underlying166,List.mem_cons,List.not_mem_nil,or_false] at hf
 rcases hf with rfl | rfl
 ·refine ⟨GInt,IE.int Tryz.underlying3,?_⟩
  rintro cs ⟨z,b,rfl⟩
  have e : Tryz.prog.cellsOf 3 = 1:=by kernel_rfl
  simp only [piece,e]
  exact ⟨z,rfl⟩
 ·refine ⟨GBool,IE.bool Tryz.underlying4,?_⟩
  rintro cs ⟨z,b,rfl⟩
  have e : Tryz.prog.cellsOf 4 = 1:=by kernel_rfl
  simp only [piece,e]
  exact ⟨b,rfl⟩
theorem guardSlot : Tryz.prog.eqGuardType Tryz.prog.depth 166 = false:=by kernel_rfl
theorem eqlHandle (w : World) (a b c d : Int) : (binOp .eql 47 (.agg #[.int .i64 a,.int .i64 b]) (.agg #[.int .i64 c,.int .i64 d])).run Tryz.prog w = .ok (.bool (eqB (a,b) (c,d))) w:=by
 have h:=(esHandle 9998).eqlI w [a,b] [c,d] rfl rfl (x:=#[.int .i64 a,.int .i64 b]) (y:=#[.int .i64 c,.int .i64 d]) rfl rfl
 refine h.trans ?_
 have e : eqB [a,b] [c,d] = eqB (a,b) (c,d):=by simp [eqB]
 rw [e]
theorem neqHandle (w : World) (a b c d : Int) : (binOp .neq 47 (.agg #[.int .i64 a,.int .i64 b]) (.agg #[.int .i64 c,.int .i64 d])).run Tryz.prog w = .ok (.bool (!eqB (a,b) (c,d))) w:=by
 have h:=(esHandle 9998).neqI w [a,b] [c,d] rfl rfl (x:=#[.int .i64 a,.int .i64 b]) (y:=#[.int .i64 c,.int .i64 d]) rfl rfl
 refine h.trans ?_
 have e : eqB [a,b] [c,d] = eqB (a,b) (c,d):=by simp [eqB]
 rw [e]
theorem eqlSlot (w : World) (a b : Int) (x y : Bool) : (binOp .eql 166 (.agg #[.int .i64 a,.bool x]) (.agg #[.int .i64 b,.bool y])).run Tryz.prog w = .ok (.bool (eqB (a,x) (b,y))) w:=by
 obtain ⟨r,hr,hiff⟩:=esSlot 9998 w [.int .i64 a,.bool x] [.int .i64 b,.bool y] ⟨_,_,rfl⟩ ⟨_,_,rfl⟩
 rw [run_eql_struct]
 rw [show (10000 : Nat) = 9998 + 2 from rfl,hr]
 have : r = eqB (a,x) (b,y):=by rw [Bool.eq_iff_iff,hiff];simp [eqB]
 simp [this]
end Go.Proofs.YtfdillpofciicaaGreatDoor
