import Derived.Test.YtehjfmjibiafdaaGreatRunSerialsJ30
/- A part of the proof that RunSerials returns true. -/
namespace Go.Proofs.YtehjfmjibiafdaaGreat
open Go Go.RowKit
attribute [local go_sem] AllFrom.cons_eq AllFrom.nil_eq putF_nil putF_cons wantedL_none wantedL_some OpGoalT OpGoalV OpGoalQ OpGoalA OpGoalK YieldsR preF_nil preF_cons
def RepB (vg vl vr : Value) (w : World) (q : Nat) (B : List Bd) (F : List Nat) : Prop :=
 ∃ vB,w.heap[q]? = some (.cells #[vg,vl,vr,vB] 47 (0,0)) ∧ w.ownsRow 0 84 4 vB B.length (B.flatMap bdC) ∧ F = q :: vB.ownBlock.toList ∧ q ∉ vB.ownBlock.toList
section
variable {vg vl vr : Value}
theorem RepB.mod {w w' : World} {q : Nat} {B : List Bd} {F G : List Nat} (h : RepB vg vl vr w q B F) (hm : Mod G w w') (hd : ∀ y ∈ F,y ∉ G) : RepB vg vl vr w' q B F:=by
 obtain ⟨vB,h1,h2,rfl,h4⟩:=h
 exact ⟨vB,hm.keep h1 (hd q (by simp)),row_mod h2 hm (fun k hk => hd k (by simp [hk])),rfl,h4⟩
theorem RepB.below {w w' : World} {q : Nat} {B : List Bd} {F : List Nat} (h : RepB vg vl vr w q B F) (hb : Below w.heap.size w w') : RepB vg vl vr w' q B F:=h.mod (Mod.ofBelow hb) (by simp)
theorem RepB.lt {w : World} {q : Nat} {B : List Bd} {F : List Nat} (h : RepB vg vl vr w q B F) : ∀ y ∈ F,y < w.heap.size:=by
 obtain ⟨vB,h1,h2,rfl,h4⟩:=h
 intro y hy
 rcases List.mem_cons.1 hy with rfl | hy
 ·exact blk_lt h1
 ·exact row_lt h2 y (by simpa using hy)
theorem RepB.open_ {w : World} {q : Nat} {B : List Bd} {F : List Nat} (h : RepB vg vl vr w q B F) : ∃ A cap,w.heap[q]? = some (.cells #[vg,vl,vr,.slice A B.length cap] 47 (0,0)) ∧ w.ownsRow 0 84 4 (.slice A B.length cap) B.length (B.flatMap bdC):=by
 obtain ⟨vB,h1,h2,-,-⟩:=h
 obtain ⟨A,cap,rfl,-,-⟩:=row_slice h2
 exact ⟨A,cap,h1,h2⟩
theorem RepB.put {w w1 : World} {q : Nat} {B B' : List Bd} {F : List Nat} {v' : Value} (h : RepB vg vl vr w q B F) (hb : Below w.heap.size w w1) (hv : w1.ownsRow w.heap.size 84 4 v' B'.length (B'.flatMap bdC)) :
  ∃ F',RepB vg vl vr (w1.setCell ⟨q,3,none⟩ v') q B' F' ∧ Turns w F F' (w1.setCell ⟨q,3,none⟩ v'):=by
 obtain ⟨vB,h1,h2,rfl,h4⟩:=h
 have hq:=(Mod.ofBelow hb).keep h1 (by simp)
 have hql:=blk_lt h1
 have hge:=own_ge hv
 refine ⟨q :: v'.ownBlock.toList,⟨v',blk_set hq 3 _,?_,rfl,?_⟩,?_,?_⟩
 ·refine row_base (row_mod hv ((Mod.refl [q] _).setCell (by simp) _) (fun k hk e => ?_)) (fun k _ => Nat.zero_le k)
  have:=hge k hk
  simp at e;omega
 ·intro e
  have:=hge q (by simpa using e)
  omega
 ·exact ((Mod.ofBelow hb).mono (by simp)).setCell (by simp) _
 ·intro k hk
  rcases List.mem_cons.1 hk with rfl | hk
  ·simp
  ·exact .inr (hge k (by simpa using hk))
theorem parB_succ {B : List Bd} {h : Hd} {n : Nat} (hn : n < B.length) (hno : parB (B.take n) h = none) : parB (B.take (n + 1)) h = if B[n].1 = h then some B[n].2 else none:=by
 unfold parB at *
 rw [Option.map_eq_none_iff] at hno
 rw [take_succ_get B n hn,List.find?_append,hno]
 by_cases e : B[n].1 = h <;> simp [e]
theorem parB_take {B : List Bd} {h p : Hd} {n : Nat} (e : parB (B.take n) h = some p) : parB B h = some p:=by
 unfold parB at *
 conv => lhs;rw [← List.take_append_drop n B]
 rw [List.find?_append]
 cases hf : (B.take n).find? (fun b => decide (b.1 = h)) with
 | none => rw [hf] at e;cases e
 | some b => rw [hf] at e;simpa using e
theorem kids_succ (B : List Bd) (h : Hd) (n : Nat) (hn : n < B.length) : kidsB (B.take (n + 1)) h = kidsB (B.take n) h ++ (if eqB B[n].2 h = true then [B[n].1] else []):=by
 unfold kidsB eqB
 rw [take_succ_get B n hn,List.filter_append,List.map_append,List.filter_cons]
 by_cases e : B[n].2 = h <;> simp [e]
theorem outB_succ (B : List Bd) (h : Hd) (n : Nat) (hn : n < B.length) : outB (B.take (n + 1)) h = outB (B.take n) h ++ (if eqB B[n].1 h = true then [] else [B[n]]):=by
 unfold outB eqB
 rw [take_succ_get B n hn,List.filter_append,List.filter_cons]
 by_cases e : B[n].1 = h <;> simp [e]
theorem goneB_succ (B : List Bd) (h : Hd) (n : Nat) (hn : n < B.length) : goneB (B.take (n + 1)) h = goneB (B.take n) h ++ (if ofH h B[n] = true then [] else [B[n]]):=by
 unfold goneB ofH eqB
 rw [take_succ_get B n hn,List.filter_append,List.filter_cons]
 by_cases e1 : B[n].1 = h <;> by_cases e2 : B[n].2 = h <;> simp [e1,e2]
theorem app_bond1 {w : World} {ops : Array Oper} {rest : List Oper} {o : Oper} {a : Act} {Q : Exit → Act → World → Prop} (hgd : o.guard = none) (s x : Operand)
  (ho : o.op = .call { callee:=.builtin .append,args:=#[s,x],argTypes:=#[24,24] }) (base : Nat) (v : Value) (l : List Bd) (y : Bd) (ad : Addr) (c : Nat)
  (hs : a.eval s = v) (hown : w.ownsRow base 84 4 v l.length (l.flatMap bdC)) (hx : a.eval x = .slice (some ad) 1 c) (hc : ∀ j u,(bdC y)[j]? = some u → w.cell? (ad.add j) = some u)
  (hlen : l.length < 4000000000000) (hbase : base ≤ w.heap.size)
  (h : ∀ v' w',w'.ownsRow base 84 4 v' (l ++ [y]).length ((l ++ [y]).flatMap bdC) → Below base w w' → wpList Tryz.prog ops Q rest (a.put o.dst v') w') : wpList Tryz.prog ops Q (o :: rest) a w :=
 app_bond hgd s x ho base v l y ad c hs hown hx hc hlen hbase (fun v' w' h1 h2 => h v' w' h1 ((Below.refl base w).grown h2 hbase (own_ge hown)))
set_option maxRecDepth 20000 in
set_option maxHeartbeats 2000000 in
theorem cloAdopt_any (b0 b1 b2 b3 s g : Int) (hb : Nat) (w : World) (hh : w.heap[hb]? = some (.cells #[.int .i64 s,.int .i64 g] 41 (0,0))) :
  Calls Tryz.prog 86 #[.agg #[.int .i64 b0,.int .i64 b1,.int .i64 b2,.int .i64 b3],.pointer (some ⟨hb,0,none⟩)] w (BoolPost (eqB (b0,b1) (s,g)) w):=by
 obtain ⟨v0,v1,vl⟩:=cells2 hh
 have hB : ∀ o,Below w.heap.size w (w.alloc o):=fun o => (Below.refl _ _).alloc (Nat.le_refl _) o
 have HB:=Lib.hid hB
 clear hB
 clear hh
 have hq1:=fun w => eqlHandle w b0 b1 s g
 generalize eqB (b0,b1) (s,g) = r1 at *
 go_enter Tryz.func86,Tryz.ntmps86
 go_wp2
 go_ret
 exact ⟨rfl,HB.out _⟩
set_option maxRecDepth 20000 in
set_option maxHeartbeats 2000000 in
theorem cloLoosen_any (b0 b1 b2 b3 s g : Int) (hb : Nat) (w : World) (hh : w.heap[hb]? = some (.cells #[.int .i64 s,.int .i64 g] 41 (0,0))) :
  Calls Tryz.prog 104 #[.agg #[.int .i64 b0,.int .i64 b1,.int .i64 b2,.int .i64 b3],.pointer (some ⟨hb,0,none⟩)] w (BoolPost (eqB (b0,b1) (s,g)) w):=by
 obtain ⟨v0,v1,vl⟩:=cells2 hh
 have hB : ∀ o,Below w.heap.size w (w.alloc o):=fun o => (Below.refl _ _).alloc (Nat.le_refl _) o
 have HB:=Lib.hid hB
 clear hB
 clear hh
 have hq1:=fun w => eqlHandle w b0 b1 s g
 generalize eqB (b0,b1) (s,g) = r1 at *
 go_enter Tryz.func104,Tryz.ntmps104
 go_wp2
 go_ret
 exact ⟨rfl,HB.out _⟩
set_option maxRecDepth 20000 in
set_option maxHeartbeats 2000000 in
theorem cloGone_any (b0 b1 b2 b3 s g : Int) (hb : Nat) (w : World) (hh : w.heap[hb]? = some (.cells #[.int .i64 s,.int .i64 g] 41 (0,0))) :
  Calls Tryz.prog 108 #[.agg #[.int .i64 b0,.int .i64 b1,.int .i64 b2,.int .i64 b3],.pointer (some ⟨hb,0,none⟩)] w (BoolPost (ofH (s,g) ((b0,b1),(b2,b3))) w):=by
 obtain ⟨v0,v1,vl⟩:=cells2 hh
 have hB : ∀ o,Below w.heap.size w (w.alloc o):=fun o => (Below.refl _ _).alloc (Nat.le_refl _) o
 have HB:=Lib.hid hB
 clear hB
 clear hh
 unfold ofH
 have hq1:=fun w => eqlHandle w b0 b1 s g
 have hq2:=fun w => eqlHandle w b2 b3 s g
 generalize eqB (b0,b1) (s,g) = r1 at *
 generalize eqB (b2,b3) (s,g) = r2 at *
 cases r1 with
 | true =>
  go_enter Tryz.func108,Tryz.ntmps108
  go_wp2
  go_ret
  exact ⟨rfl,HB.out _⟩
 | false =>
  go_enter Tryz.func108,Tryz.ntmps108
  go_wp2
  go_ret
  exact ⟨rfl,HB.out _⟩
set_option maxRecDepth 20000 in
set_option maxHeartbeats 4000000 in
theorem withoutAdopt_any {w : World} {B : List Bd} {A : Option Addr} {cap : Nat} (hrow : w.ownsRow 0 84 4 (.slice A B.length cap) B.length (B.flatMap bdC)) (hl : B.length ≤ 1200000000000) (s g : Int) (b : Nat) (h0 : w.heap[b]? = some (.cells #[.int .i64 s,.int .i64 g] 41 (0,0))) :
  Calls Tryz.prog 85 #[.slice A B.length cap,.func (.func 86) #[] #[.pointer (some ⟨b,0,none⟩)]] w (MadeR 84 4 bdC (outB B (s,g)) w):=by
 have hle : B.length ≤ 9223372036854775807:=by omega
 have hbl:=blk_lt h0
 have HLL:=Lib.hid hl
 clear hl
 go_enter Tryz.func85,Tryz.ntmps85
 go_wp2
 go_loopw [5,10] (fun v i wr => ∃ n : Nat,n ≤ B.length ∧ i = .int .i64 n ∧ wr.ownsRow w.heap.size 84 4 v (outB (B.take n) (s,g)).length ((outB (B.take n) (s,g)).flatMap bdC) ∧ Below w.heap.size w wr) (fun _ i _ => B.length - (Go.RowKit.intOf i).toNat)
 case atStart => exact ⟨0,by omega,rfl,⟨rfl,.inl ⟨rfl,rfl⟩⟩,Below.refl _ _⟩
 case round =>
  obtain ⟨n,hn,rfl,hown,hbel⟩:=hrel
  have hsz:=hbel.size
  by_cases hlt : n < B.length
  ·have hro : wr.ownsRow 0 84 4 (.slice A B.length cap) B.length (B.flatMap bdC):=row_mod hrow (Mod.ofBelow hbel) (by simp)
   obtain ⟨g0,cap0,cur0,hv,-,-,-⟩:=row_some hro (by omega)
   cases hv
   have hpc:=row_piece bdC_len hro hlt 0 (bdC B[n]) (fun j u hu => by rw [Nat.zero_add];exact hu)
   have hst:=outB_succ B (s,g) n hlt
   have hlen : (outB (B.take n) (s,g)).length ≤ n:=by
    have h1 : (outB (B.take n) (s,g)).length ≤ (B.take n).length:=List.length_filter_le _ _
    rw [List.length_take] at h1;omega
   have hg0:=row_lt hro g0 rfl
   have hni : (n : Int) < (B.length : Int):=by omega
   generalize outB (B.take n) (s,g) = M at *
   obtain ⟨x,hx⟩ : ∃ x,B[n] = x:=⟨_,rfl⟩
   rw [hx] at hpc hst
   obtain ⟨⟨b0,b1⟩,b2,b3⟩:=x
   have hbz:=(Mod.ofBelow hbel).keep h0 (by simp)
   obtain ⟨w3,hw3,hb3,hz3,hs3⟩:=box1 wr (.cells #[.int .i64 b0,.int .i64 b1,.int .i64 b2,.int .i64 b3] 84)
   have hO3:=hown.alloc (.cells #[.int .i64 b0,.int .i64 b1,.int .i64 b2,.int .i64 b3] 84)
   rw [hw3] at hO3
   have hb03:=hbel.trans (hb3.mono hsz)
   have hbz3:=(Mod.ofBelow hb3).keep hbz (by simp)
   have hk1:=cloAdopt_any b0 b1 b2 b3 s g b w3 hbz3
   have hl3 : wr.heap.size < w3.heap.size:=by omega
   obtain ⟨r0,r1,r2,r3,rl⟩:=cells4 hz3
   obtain ⟨HP,Hst,Hlen,Hown,Hbel,HO3,Hb03,Hk,Hs3,Hz3,Hw3,H0,Hrow⟩:=hid13 hpc hst hlen hown hbel hO3 hb03 hk1 hs3 hz3 hw3 h0 hrow
   clear hpc hst hlen hown hbel hO3 hb03 hk1 hs3 hz3 hw3 h0 hrow
   clear hro hx hbz hbz3 hb3
   have HO:=Lib.hid (bdC_one ((b0,b1),(b2,b3)))
   go_wp2_with (first | (refine wpList_load_flat rfl 84 (.tmp 12) rfl _ rfl [.int .i64 b0,.int .i64 b1,.int .i64 b2,.int .i64 b3] _ Tryz.underlying84 rfl (by kernel_rfl) HP.out ?_) | (refine wpList_store_new rfl 84 (.tmp 7) (.tmp 13) rfl wr (ints [0,0,0,0]) [.int .i64 b0,.int .i64 b1,.int .i64 b2,.int .i64 b3] 84 rfl rfl rfl (by kernel_rfl) HO.out ?_;rw [show ([.int .i64 b0,.int .i64 b1,.int .i64 b2,.int .i64 b3] : List Value).toArray = #[.int .i64 b0,.int .i64 b1,.int .i64 b2,.int .i64 b3] from rfl,Hw3.out];clear HO))
   refine Hk.out.mono ?_
   rintro e w4 ⟨rfl,hb4⟩
   have hz4:=(Mod.ofBelow hb4).keep Hz3.out (by simp)
   have hs4:=hb4.size
   have hs3:=Hs3.out
   have hO4:=row_mod HO3.out (Mod.ofBelow hb4) (by simp)
   have hb04:=Hb03.out.trans (hb4.mono Hb03.out.size)
   have hbs:=Hb03.out.size
   cases hr : eqB (b0,b1) (s,g) with
   | true =>
    have hst:=Hst.out
    rw [if_pos hr,List.append_nil] at hst
    obtain ⟨Hst2,HO4,Hbel4,Hz4,Hs4,Hbs,Hr⟩:=hid7 hst hO4 hb04 hz4 hs4 hbs hr
    clear hst hO4 hb04 hz4 hs4 hbs hr
    clear hs3 hb4 r0 r1 r2 r3 rl
    go_wp2
    go_roundw
    case rel => exact ⟨n + 1,by omega,by go_num,by rw [Hst2.out];exact HO4.out,Hbel4.out⟩
    case measure => simp [Go.RowKit.intOf];omega
   | false =>
    have hst:=Hst.out
    rw [if_neg (by rw [hr];simp)] at hst
    clear r0 r1 r2 r3 rl
    obtain ⟨r0,r1,r2,r3,rl⟩:=cells4 hz4
    obtain ⟨Hst2,Hown4,Hbel4,Hs4,Hbs,Hr⟩:=hid6 hst hO4 hb04 hs4 hbs hr
    clear hst hO4 hb04 hs4 hbs hr
    clear hb4 hz4 hs3
    go_wp2_with (at_builtin;(refine app_bond1 rfl _ _ rfl w.heap.size _ M ((b0,b1),(b2,b3)) ⟨w4.heap.size,0,none⟩ 1 rfl (Hown4.out.alloc _) rfl (new_rec (by simp) rfl) (by have:=HLL.out;have:=Hlen.out;omega) (by have:=Hbel4.out.size;simp;omega) ?_);intro v' w5 hown5 hb5)
    go_roundw
    case rel => exact ⟨n + 1,by omega,by go_num,by rw [Hst2.out];exact hown5,(Hbel4.out.alloc Hbel4.out.size _).trans hb5⟩
    case measure => simp [Go.RowKit.intOf];omega
  ·obtain rfl : n = B.length:=by omega
   rw [List.take_length] at hown
   obtain ⟨Hown,Hbel⟩:=hid2 hown hbel
   clear hown hbel
   clear hrow h0
   go_wp2
   go_ret
   exact ⟨_,rfl,Hown.out,Hbel.out⟩
set_option maxRecDepth 20000 in
set_option maxHeartbeats 4000000 in
theorem withoutLoosen_any {w : World} {B : List Bd} {A : Option Addr} {cap : Nat} (hrow : w.ownsRow 0 84 4 (.slice A B.length cap) B.length (B.flatMap bdC)) (hl : B.length ≤ 1200000000000) (s g : Int) (b : Nat) (h0 : w.heap[b]? = some (.cells #[.int .i64 s,.int .i64 g] 41 (0,0))) :
  Calls Tryz.prog 85 #[.slice A B.length cap,.func (.func 104) #[] #[.pointer (some ⟨b,0,none⟩)]] w (MadeR 84 4 bdC (outB B (s,g)) w):=by
 have hle : B.length ≤ 9223372036854775807:=by omega
 have hbl:=blk_lt h0
 have HLL:=Lib.hid hl
 clear hl
 go_enter Tryz.func85,Tryz.ntmps85
 go_wp2
 go_loopw [5,10] (fun v i wr => ∃ n : Nat,n ≤ B.length ∧ i = .int .i64 n ∧ wr.ownsRow w.heap.size 84 4 v (outB (B.take n) (s,g)).length ((outB (B.take n) (s,g)).flatMap bdC) ∧ Below w.heap.size w wr) (fun _ i _ => B.length - (Go.RowKit.intOf i).toNat)
 case atStart => exact ⟨0,by omega,rfl,⟨rfl,.inl ⟨rfl,rfl⟩⟩,Below.refl _ _⟩
 case round =>
  obtain ⟨n,hn,rfl,hown,hbel⟩:=hrel
  have hsz:=hbel.size
  by_cases hlt : n < B.length
  ·have hro : wr.ownsRow 0 84 4 (.slice A B.length cap) B.length (B.flatMap bdC):=row_mod hrow (Mod.ofBelow hbel) (by simp)
   obtain ⟨g0,cap0,cur0,hv,-,-,-⟩:=row_some hro (by omega)
   cases hv
   have hpc:=row_piece bdC_len hro hlt 0 (bdC B[n]) (fun j u hu => by rw [Nat.zero_add];exact hu)
   have hst:=outB_succ B (s,g) n hlt
   have hlen : (outB (B.take n) (s,g)).length ≤ n:=by
    have h1 : (outB (B.take n) (s,g)).length ≤ (B.take n).length:=List.length_filter_le _ _
    rw [List.length_take] at h1;omega
   have hg0:=row_lt hro g0 rfl
   have hni : (n : Int) < (B.length : Int):=by omega
   generalize outB (B.take n) (s,g) = M at *
   obtain ⟨x,hx⟩ : ∃ x,B[n] = x:=⟨_,rfl⟩
   rw [hx] at hpc hst
   obtain ⟨⟨b0,b1⟩,b2,b3⟩:=x
   have hbz:=(Mod.ofBelow hbel).keep h0 (by simp)
   obtain ⟨w3,hw3,hb3,hz3,hs3⟩:=box1 wr (.cells #[.int .i64 b0,.int .i64 b1,.int .i64 b2,.int .i64 b3] 84)
   have hO3:=hown.alloc (.cells #[.int .i64 b0,.int .i64 b1,.int .i64 b2,.int .i64 b3] 84)
   rw [hw3] at hO3
   have hb03:=hbel.trans (hb3.mono hsz)
   have hbz3:=(Mod.ofBelow hb3).keep hbz (by simp)
   have hk1:=cloLoosen_any b0 b1 b2 b3 s g b w3 hbz3
   have hl3 : wr.heap.size < w3.heap.size:=by omega
   obtain ⟨r0,r1,r2,r3,rl⟩:=cells4 hz3
   obtain ⟨HP,Hst,Hlen,Hown,Hbel,HO3,Hb03,Hk,Hs3,Hz3,Hw3,H0,Hrow⟩:=hid13 hpc hst hlen hown hbel hO3 hb03 hk1 hs3 hz3 hw3 h0 hrow
   clear hpc hst hlen hown hbel hO3 hb03 hk1 hs3 hz3 hw3 h0 hrow
   clear hro hx hbz hbz3 hb3
   have HO:=Lib.hid (bdC_one ((b0,b1),(b2,b3)))
   go_wp2_with (first | (refine wpList_load_flat rfl 84 (.tmp 12) rfl _ rfl [.int .i64 b0,.int .i64 b1,.int .i64 b2,.int .i64 b3] _ Tryz.underlying84 rfl (by kernel_rfl) HP.out ?_) | (refine wpList_store_new rfl 84 (.tmp 7) (.tmp 13) rfl wr (ints [0,0,0,0]) [.int .i64 b0,.int .i64 b1,.int .i64 b2,.int .i64 b3] 84 rfl rfl rfl (by kernel_rfl) HO.out ?_;rw [show ([.int .i64 b0,.int .i64 b1,.int .i64 b2,.int .i64 b3] : List Value).toArray = #[.int .i64 b0,.int .i64 b1,.int .i64 b2,.int .i64 b3] from rfl,Hw3.out];clear HO))
   refine Hk.out.mono ?_
   rintro e w4 ⟨rfl,hb4⟩
   have hz4:=(Mod.ofBelow hb4).keep Hz3.out (by simp)
   have hs4:=hb4.size
   have hs3:=Hs3.out
   have hO4:=row_mod HO3.out (Mod.ofBelow hb4) (by simp)
   have hb04:=Hb03.out.trans (hb4.mono Hb03.out.size)
   have hbs:=Hb03.out.size
   cases hr : eqB (b0,b1) (s,g) with
   | true =>
    have hst:=Hst.out
    rw [if_pos hr,List.append_nil] at hst
    obtain ⟨Hst2,HO4,Hbel4,Hz4,Hs4,Hbs,Hr⟩:=hid7 hst hO4 hb04 hz4 hs4 hbs hr
    clear hst hO4 hb04 hz4 hs4 hbs hr
    clear hs3 hb4 r0 r1 r2 r3 rl
    go_wp2
    go_roundw
    case rel => exact ⟨n + 1,by omega,by go_num,by rw [Hst2.out];exact HO4.out,Hbel4.out⟩
    case measure => simp [Go.RowKit.intOf];omega
   | false =>
    have hst:=Hst.out
    rw [if_neg (by rw [hr];simp)] at hst
    clear r0 r1 r2 r3 rl
    obtain ⟨r0,r1,r2,r3,rl⟩:=cells4 hz4
    obtain ⟨Hst2,Hown4,Hbel4,Hs4,Hbs,Hr⟩:=hid6 hst hO4 hb04 hs4 hbs hr
    clear hst hO4 hb04 hs4 hbs hr
    clear hb4 hz4 hs3
    go_wp2_with (at_builtin;(refine app_bond1 rfl _ _ rfl w.heap.size _ M ((b0,b1),(b2,b3)) ⟨w4.heap.size,0,none⟩ 1 rfl (Hown4.out.alloc _) rfl (new_rec (by simp) rfl) (by have:=HLL.out;have:=Hlen.out;omega) (by have:=Hbel4.out.size;simp;omega) ?_);intro v' w5 hown5 hb5)
    go_roundw
    case rel => exact ⟨n + 1,by omega,by go_num,by rw [Hst2.out];exact hown5,(Hbel4.out.alloc Hbel4.out.size _).trans hb5⟩
    case measure => simp [Go.RowKit.intOf];omega
  ·obtain rfl : n = B.length:=by omega
   rw [List.take_length] at hown
   obtain ⟨Hown,Hbel⟩:=hid2 hown hbel
   clear hown hbel
   clear hrow h0
   go_wp2
   go_ret
   exact ⟨_,rfl,Hown.out,Hbel.out⟩
set_option maxRecDepth 20000 in
set_option maxHeartbeats 4000000 in
theorem withoutGone_any {w : World} {B : List Bd} {A : Option Addr} {cap : Nat} (hrow : w.ownsRow 0 84 4 (.slice A B.length cap) B.length (B.flatMap bdC)) (hl : B.length ≤ 1200000000000) (s g : Int) (b : Nat) (h0 : w.heap[b]? = some (.cells #[.int .i64 s,.int .i64 g] 41 (0,0))) :
  Calls Tryz.prog 85 #[.slice A B.length cap,.func (.func 108) #[] #[.pointer (some ⟨b,0,none⟩)]] w (MadeR 84 4 bdC (goneB B (s,g)) w):=by
 have hle : B.length ≤ 9223372036854775807:=by omega
 have hbl:=blk_lt h0
 have HLL:=Lib.hid hl
 clear hl
 go_enter Tryz.func85,Tryz.ntmps85
 go_wp2
 go_loopw [5,10] (fun v i wr => ∃ n : Nat,n ≤ B.length ∧ i = .int .i64 n ∧ wr.ownsRow w.heap.size 84 4 v (goneB (B.take n) (s,g)).length ((goneB (B.take n) (s,g)).flatMap bdC) ∧ Below w.heap.size w wr) (fun _ i _ => B.length - (Go.RowKit.intOf i).toNat)
 case atStart => exact ⟨0,by omega,rfl,⟨rfl,.inl ⟨rfl,rfl⟩⟩,Below.refl _ _⟩
 case round =>
  obtain ⟨n,hn,rfl,hown,hbel⟩:=hrel
  have hsz:=hbel.size
  by_cases hlt : n < B.length
  ·have hro : wr.ownsRow 0 84 4 (.slice A B.length cap) B.length (B.flatMap bdC):=row_mod hrow (Mod.ofBelow hbel) (by simp)
   obtain ⟨g0,cap0,cur0,hv,-,-,-⟩:=row_some hro (by omega)
   cases hv
   have hpc:=row_piece bdC_len hro hlt 0 (bdC B[n]) (fun j u hu => by rw [Nat.zero_add];exact hu)
   have hst:=goneB_succ B (s,g) n hlt
   have hlen : (goneB (B.take n) (s,g)).length ≤ n:=by
    have h1 : (goneB (B.take n) (s,g)).length ≤ (B.take n).length:=List.length_filter_le _ _
    rw [List.length_take] at h1;omega
   have hg0:=row_lt hro g0 rfl
   have hni : (n : Int) < (B.length : Int):=by omega
   generalize goneB (B.take n) (s,g) = M at *
   obtain ⟨x,hx⟩ : ∃ x,B[n] = x:=⟨_,rfl⟩
   rw [hx] at hpc hst
   obtain ⟨⟨b0,b1⟩,b2,b3⟩:=x
   have hbz:=(Mod.ofBelow hbel).keep h0 (by simp)
   obtain ⟨w3,hw3,hb3,hz3,hs3⟩:=box1 wr (.cells #[.int .i64 b0,.int .i64 b1,.int .i64 b2,.int .i64 b3] 84)
   have hO3:=hown.alloc (.cells #[.int .i64 b0,.int .i64 b1,.int .i64 b2,.int .i64 b3] 84)
   rw [hw3] at hO3
   have hb03:=hbel.trans (hb3.mono hsz)
   have hbz3:=(Mod.ofBelow hb3).keep hbz (by simp)
   have hk1:=cloGone_any b0 b1 b2 b3 s g b w3 hbz3
   have hl3 : wr.heap.size < w3.heap.size:=by omega
   obtain ⟨r0,r1,r2,r3,rl⟩:=cells4 hz3
   obtain ⟨HP,Hst,Hlen,Hown,Hbel,HO3,Hb03,Hk,Hs3,Hz3,Hw3,H0,Hrow⟩:=hid13 hpc hst hlen hown hbel hO3 hb03 hk1 hs3 hz3 hw3 h0 hrow
   clear hpc hst hlen hown hbel hO3 hb03 hk1 hs3 hz3 hw3 h0 hrow
   clear hro hx hbz hbz3 hb3
   have HO:=Lib.hid (bdC_one ((b0,b1),(b2,b3)))
   go_wp2_with (first | (refine wpList_load_flat rfl 84 (.tmp 12) rfl _ rfl [.int .i64 b0,.int .i64 b1,.int .i64 b2,.int .i64 b3] _ Tryz.underlying84 rfl (by kernel_rfl) HP.out ?_) | (refine wpList_store_new rfl 84 (.tmp 7) (.tmp 13) rfl wr (ints [0,0,0,0]) [.int .i64 b0,.int .i64 b1,.int .i64 b2,.int .i64 b3] 84 rfl rfl rfl (by kernel_rfl) HO.out ?_;rw [show ([.int .i64 b0,.int .i64 b1,.int .i64 b2,.int .i64 b3] : List Value).toArray = #[.int .i64 b0,.int .i64 b1,.int .i64 b2,.int .i64 b3] from rfl,Hw3.out];clear HO))
   refine Hk.out.mono ?_
   rintro e w4 ⟨rfl,hb4⟩
   have hz4:=(Mod.ofBelow hb4).keep Hz3.out (by simp)
   have hs4:=hb4.size
   have hs3:=Hs3.out
   have hO4:=row_mod HO3.out (Mod.ofBelow hb4) (by simp)
   have hb04:=Hb03.out.trans (hb4.mono Hb03.out.size)
   have hbs:=Hb03.out.size
   cases hr : ofH (s,g) ((b0,b1),(b2,b3)) with
   | true =>
    have hst:=Hst.out
    rw [if_pos hr,List.append_nil] at hst
    obtain ⟨Hst2,HO4,Hbel4,Hz4,Hs4,Hbs,Hr⟩:=hid7 hst hO4 hb04 hz4 hs4 hbs hr
    clear hst hO4 hb04 hz4 hs4 hbs hr
    clear hs3 hb4 r0 r1 r2 r3 rl
    go_wp2
    go_roundw
    case rel => exact ⟨n + 1,by omega,by go_num,by rw [Hst2.out];exact HO4.out,Hbel4.out⟩
    case measure => simp [Go.RowKit.intOf];omega
   | false =>
    have hst:=Hst.out
    rw [if_neg (by rw [hr];simp)] at hst
    clear r0 r1 r2 r3 rl
    obtain ⟨r0,r1,r2,r3,rl⟩:=cells4 hz4
    obtain ⟨Hst2,Hown4,Hbel4,Hs4,Hbs,Hr⟩:=hid6 hst hO4 hb04 hs4 hbs hr
    clear hst hO4 hb04 hs4 hbs hr
    clear hb4 hz4 hs3
    go_wp2_with (at_builtin;(refine app_bond1 rfl _ _ rfl w.heap.size _ M ((b0,b1),(b2,b3)) ⟨w4.heap.size,0,none⟩ 1 rfl (Hown4.out.alloc _) rfl (new_rec (by simp) rfl) (by have:=HLL.out;have:=Hlen.out;omega) (by have:=Hbel4.out.size;simp;omega) ?_);intro v' w5 hown5 hb5)
    go_roundw
    case rel => exact ⟨n + 1,by omega,by go_num,by rw [Hst2.out];exact hown5,(Hbel4.out.alloc Hbel4.out.size _).trans hb5⟩
    case measure => simp [Go.RowKit.intOf];omega
  ·obtain rfl : n = B.length:=by omega
   rw [List.take_length] at hown
   obtain ⟨Hown,Hbel⟩:=hid2 hown hbel
   clear hown hbel
   clear hrow h0
   go_wp2
   go_ret
   exact ⟨_,rfl,Hown.out,Hbel.out⟩
end
section
variable {vg vl vr : Value} {w : World} {q : Nat} {B : List Bd} {F : List Nat}
def RFRet (vg vl vr : Value) (B' : List Bd) (r : Value) (q : Nat) (F : List Nat) (w : World) (e : Ending) (w' : World) : Prop:=e = .returned r ∧ ∃ F',RepB vg vl vr w' q B' F' ∧ Turns w F F' w'
set_option maxRecDepth 20000 in
set_option maxHeartbeats 4000000 in
theorem rgone_any (h : RepB vg vl vr w q B F) (hl : B.length ≤ 1200000000000) (s g : Int) : Calls Tryz.prog 54 #[.pointer (some ⟨q,0,none⟩),.agg #[.int .i64 s,.int .i64 g]] w (RFRet vg vl vr (goneB B (s,g)) (.tuple #[]) q F w):=by
 obtain ⟨w0,hw0,hb0,hz0,hs0⟩:=box1 w (.cells #[.int .i64 s,.int .i64 g] 41)
 have h0:=h.below hb0
 obtain ⟨A,cap,hq,hrow⟩:=h0.open_
 have H1:=Lib.hid (withoutGone_any hrow hl s g w.heap.size hz0)
 obtain ⟨c0,c1,c2,c3,cl⟩:=cells4 hq
 have hlt:=h.lt
 obtain ⟨H,Hb0,HZ0,Hq,Hlt⟩:=hid5 h hb0 h0 hq hlt
 clear h hb0 h0 hq hlt
 clear hz0 hs0 hrow
 go_enter Tryz.func54,Tryz.ntmps54
 go_wp2_with fail
 clear hw0
 refine H1.out.mono ?_
 rintro e w1 ⟨v,rfl,hv,hb1⟩
 have hq1:=(Mod.ofBelow hb1).keep Hq.out (by simp)
 clear c0 c1 c2 c3 cl
 obtain ⟨c0,c1,c2,c3,cl⟩:=cells4 hq1
 have f3:=blk_free hq1 3
 obtain ⟨A2,cap2,rfl,-,-⟩:=row_slice hv
 obtain ⟨F',h2,hT⟩:=HZ0.out.put hb1 hv
 have hfin : RFRet vg vl vr (goneB B (s,g)) (.tuple #[]) q F w (.returned (.tuple #[])) (w1.setCell ⟨q,3,none⟩ (.slice A2 (goneB B (s,g)).length cap2)):=⟨rfl,F',h2,Turns.after Hb0.out hT⟩
 have Hfin:=Lib.hid hfin
 clear hfin
 clear hv hb1 hq1 h2 hT
 go_wp2
 refine bodyPost_end (v:=.tuple #[]) ?_ rfl Hfin.out
 unfold results;try go_simp
set_option maxRecDepth 20000 in
set_option maxHeartbeats 4000000 in
theorem rpar_any (h : RepB vg vl vr w q B F) (hl : B.length ≤ 1200000000000) (s g : Int) : Calls Tryz.prog 20 #[.pointer (some ⟨q,0,none⟩),.agg #[.int .i64 s,.int .i64 g]] w (ParPost (parB B (s,g)) w):=by
 obtain ⟨w0,hw0,hb0,hz0,hs0⟩:=box1 w (.cells #[.int .i64 s,.int .i64 g] 41)
 obtain ⟨w1,hw1,hb1,hz1,hs1⟩:=box1 w0 (.cells #[.int .i64 0,.int .i64 0] 41)
 have hB1:=hb0.trans (hb1.mono hb0.size)
 have hz01:=(Mod.ofBelow hb1).keep hz0 (by simp)
 obtain ⟨A,cap,hq,hrow⟩:=(h.below hB1).open_
 have hle : B.length ≤ 9223372036854775807:=by omega
 obtain ⟨c0,c1,c2,c3,cl⟩:=cells4 hq
 obtain ⟨H,HB1,Hz01,Hz1,Hs0,Hs1,Hq,Hrow⟩:=hid8 h hB1 hz01 hz1 hs0 hs1 hq hrow
 clear h hB1 hz01 hz1 hs0 hs1 hq hrow
 clear hb0 hb1 hz0
 go_enter Tryz.func20,Tryz.ntmps20
 go_wp2_with fail
 clear hw0 hw1 c0 c1 c2 c3 cl
 go_loopw [13] (fun i wr => ∃ n : Nat,n ≤ B.length ∧ i = .int .i64 n ∧ parB (B.take n) (s,g) = none ∧ Below w1.heap.size w1 wr) (fun i _ => B.length - (Go.RowKit.intOf i).toNat)
 case atStart => exact ⟨0,by omega,rfl,rfl,Below.refl _ _⟩
 case round =>
  obtain ⟨n,hn,rfl,hno,hbel⟩:=hrel
  have hsz:=hbel.size
  have hzr:=(Mod.ofBelow hbel).keep Hz01.out (by simp)
  have hyr:=(Mod.ofBelow hbel).keep Hz1.out (by simp)
  have hwb : w.heap.size < w1.heap.size ∧ w0.heap.size < w1.heap.size:=⟨blk_lt Hz01.out,blk_lt Hz1.out⟩
  have hne1 : w0.heap.size ≠ wr.heap.size:=by omega
  have hne2 : wr.heap.size ≠ w0.heap.size:=by omega
  have hle0 : w.heap.size ≤ w0.heap.size:=by have:=Hs0.out;omega
  obtain ⟨q0,q1,ql⟩:=cells2 hzr
  obtain ⟨y0,y1,yl⟩:=cells2 hyr
  have f0:=blk_free hyr 0
  have f1:=blk_free hyr 1
  by_cases hlt : n < B.length
  ·have hro : wr.ownsRow 0 84 4 (.slice A B.length cap) B.length (B.flatMap bdC):=row_mod Hrow.out (Mod.ofBelow hbel) (by simp)
   obtain ⟨g0,cap0,cur0,hv,-,-,-⟩:=row_some hro (by omega)
   cases hv
   have hpc:=row_piece bdC_len hro hlt 0 (bdC B[n]) (fun j u hu => by rw [Nat.zero_add];exact hu)
   have hg0:=row_lt hro g0 rfl
   have hni : (n : Int) < (B.length : Int):=by omega
   have hst:=parB_succ hlt hno
   obtain ⟨x,hx⟩ : ∃ x,B[n] = x:=⟨_,rfl⟩
   rw [hx] at hpc hst
   obtain ⟨⟨b0,b1⟩,b2,b3⟩:=x
   obtain ⟨w3,hw3,hb3,hz3,hs3⟩:=box1 wr (.cells #[.int .i64 b0,.int .i64 b1,.int .i64 b2,.int .i64 b3] 84)
   have hzr3:=(Mod.ofBelow hb3).keep hzr (by simp)
   have hyr3:=(Mod.ofBelow hb3).keep hyr (by simp)
   have heq:=fun w => eqlHandle w b0 b1 s g
   have hbf:=hbel.trans (hb3.mono hsz)
   have HO:=Lib.hid (bdC_one ((b0,b1),(b2,b3)))
   clear q0 q1 ql y0 y1 yl f0 f1
   obtain ⟨r0,r1,r2,r3,rl⟩:=cells4 hz3
   obtain ⟨q0,q1,ql⟩:=cells2 hzr3
   obtain ⟨y0,y1,yl⟩:=cells2 hyr3
   have f0:=blk_free hyr3 0
   have f1:=blk_free hyr3 1
   cases hr : eqB (b0,b1) (s,g) with
   | true =>
    rw [hr] at heq
    have he : (b0,b1) = (s,g):=by simpa [eqB] using hr
    simp only at hst
    rw [if_pos he] at hst
    have hp:=parB_take hst
    unfold ParPost
    rw [hp]
    simp only [parV,Option.getD_some,Option.isSome_some,hdV,handleC]
    have hBw:=HB1.out.trans (hbf.mono HB1.out.size)
    obtain ⟨HP,Hbel,Hbf,Hs3,Hw3,HBw,Hle0⟩:=hid7 hpc hbel hbf hs3 hw3 hBw hle0
    clear hpc hbel hbf hs3 hw3 hBw hle0
    clear hro hx hb3 hzr hyr hz3 hzr3 hyr3 hr he hst hp hno
    go_wp2_with (first | (refine wpList_load_flat rfl 84 (.tmp 15) rfl _ rfl [.int .i64 b0,.int .i64 b1,.int .i64 b2,.int .i64 b3] _ Tryz.underlying84 rfl (by kernel_rfl) HP.out ?_) | (refine wpList_store_new rfl 84 (.tmp 7) (.tmp 16) rfl wr (ints [0,0,0,0]) [.int .i64 b0,.int .i64 b1,.int .i64 b2,.int .i64 b3] 84 rfl rfl rfl (by kernel_rfl) HO.out ?_;rw [show ([.int .i64 b0,.int .i64 b1,.int .i64 b2,.int .i64 b3] : List Value).toArray = #[.int .i64 b0,.int .i64 b1,.int .i64 b2,.int .i64 b3] from rfl,Hw3.out];clear HO))
    refine bodyPost_ret (v:=.tuple #[.agg #[.int .i64 b2,.int .i64 b3],.bool true]) (by unfold results;try go_simp) rfl ?_
    refine ⟨rfl,?_⟩
    repeat (refine Below.setCell ?_ Hle0.out _)
    exact HBw.out
   | false =>
    rw [hr] at heq
    simp only at hst
    rw [if_neg (fun e => by rw [e,eqB_self] at hr;cases hr)] at hst
    obtain ⟨HP,Hbel,Hbf,Hs3,Hw3,Hst⟩:=hid6 hpc hbel hbf hs3 hw3 hst
    clear hpc hbel hbf hs3 hw3 hst
    clear hro hx hb3 hzr hyr hz3 hzr3 hyr3 hr hno
    go_wp2_with (first | (refine wpList_load_flat rfl 84 (.tmp 15) rfl _ rfl [.int .i64 b0,.int .i64 b1,.int .i64 b2,.int .i64 b3] _ Tryz.underlying84 rfl (by kernel_rfl) HP.out ?_) | (refine wpList_store_new rfl 84 (.tmp 7) (.tmp 16) rfl wr (ints [0,0,0,0]) [.int .i64 b0,.int .i64 b1,.int .i64 b2,.int .i64 b3] 84 rfl rfl rfl (by kernel_rfl) HO.out ?_;rw [show ([.int .i64 b0,.int .i64 b1,.int .i64 b2,.int .i64 b3] : List Value).toArray = #[.int .i64 b0,.int .i64 b1,.int .i64 b2,.int .i64 b3] from rfl,Hw3.out];clear HO))
    go_roundw
    case rel => exact ⟨n + 1,by omega,by go_num,Hst.out,Hbf.out⟩
    case measure => simp [Go.RowKit.intOf];omega
  ·obtain rfl : n = B.length:=by omega
   rw [List.take_length] at hno
   have hBw:=HB1.out.trans (hbel.mono HB1.out.size)
   obtain ⟨HBw,Hle0,Hno⟩:=hid3 hBw hle0 hno
   clear hBw hle0 hno
   clear hzr hyr hbel
   go_wp2
   refine bodyPost_ret (v:=.tuple #[.agg #[.int .i64 0,.int .i64 0],.bool false]) (by unfold results;try go_simp) rfl ?_
   unfold ParPost
   rw [Hno.out]
   refine ⟨rfl,?_⟩
   repeat (refine Below.setCell ?_ Hle0.out _)
   exact HBw.out
set_option maxRecDepth 20000 in
set_option maxHeartbeats 4000000 in
theorem rkids_any (h : RepB vg vl vr w q B F) (hl : B.length ≤ 1200000000000) (s g : Int) : Calls Tryz.prog 105 #[.pointer (some ⟨q,0,none⟩),.agg #[.int .i64 s,.int .i64 g]] w (MadeRecs 41 2 handleC (kidsB B (s,g)) w):=by
 obtain ⟨w0,hw0,hb0,hz0,hs0⟩:=box1 w (.cells #[.int .i64 s,.int .i64 g] 41)
 obtain ⟨A,cap,hq,hrow⟩:=(h.below hb0).open_
 have hle : B.length ≤ 9223372036854775807:=by omega
 obtain ⟨c0,c1,c2,c3,cl⟩:=cells4 hq
 have HLL:=Lib.hid hl
 obtain ⟨H,Hb0,Hz0,Hs0,Hq,Hrow⟩:=hid6 h hb0 hz0 hs0 hq hrow
 clear h hb0 hz0 hs0 hq hrow
 clear hl
 go_enter Tryz.func105,Tryz.ntmps105
 go_wp2_with fail
 clear hw0 c0 c1 c2 c3 cl
 go_loopw [5,13] (fun v i wr => ∃ n : Nat,n ≤ B.length ∧ i = .int .i64 n ∧ wr.ownsRow w0.heap.size 41 2 v (kidsB (B.take n) (s,g)).length ((kidsB (B.take n) (s,g)).flatMap handleC) ∧ Below w0.heap.size w0 wr) (fun _ i _ => B.length - (Go.RowKit.intOf i).toNat)
 case atStart => exact ⟨0,by omega,rfl,⟨rfl,.inl ⟨rfl,rfl⟩⟩,Below.refl _ _⟩
 case round =>
  obtain ⟨n,hn,rfl,hown,hbel⟩:=hrel
  have hsz:=hbel.size
  have hwb:=Hs0.out
  have hzr:=(Mod.ofBelow hbel).keep Hz0.out (by simp)
  by_cases hlt : n < B.length
  ·have hro : wr.ownsRow 0 84 4 (.slice A B.length cap) B.length (B.flatMap bdC):=row_mod Hrow.out (Mod.ofBelow hbel) (by simp)
   obtain ⟨g0,cap0,cur0,hv,-,-,-⟩:=row_some hro (by omega)
   cases hv
   have hpc:=row_piece bdC_len hro hlt 0 (bdC B[n]) (fun j u hu => by rw [Nat.zero_add];exact hu)
   have hg0:=row_lt hro g0 rfl
   have hni : (n : Int) < (B.length : Int):=by omega
   have hst:=kids_succ B (s,g) n hlt
   have hlen : (kidsB (B.take n) (s,g)).length ≤ n:=by
    unfold kidsB
    rw [List.length_map]
    have h1 : ((B.take n).filter (fun b => decide (b.2 = (s,g)))).length ≤ (B.take n).length:=List.length_filter_le _ _
    rw [List.length_take] at h1;omega
   generalize kidsB (B.take n) (s,g) = M at *
   obtain ⟨x,hx⟩ : ∃ x,B[n] = x:=⟨_,rfl⟩
   rw [hx] at hpc hst
   obtain ⟨⟨b0,b1⟩,b2,b3⟩:=x
   obtain ⟨w3,hw3,hb3,hz3,hs3⟩:=box1 wr (.cells #[.int .i64 b0,.int .i64 b1,.int .i64 b2,.int .i64 b3] 84)
   have hzr3:=(Mod.ofBelow hb3).keep hzr (by simp)
   have heq:=fun w => eqlHandle w b2 b3 s g
   have hbf:=hbel.trans (hb3.mono hsz)
   have hO3:=hown.alloc (.cells #[.int .i64 b0,.int .i64 b1,.int .i64 b2,.int .i64 b3] 84)
   rw [hw3] at hO3
   have HO:=Lib.hid (bdC_one ((b0,b1),(b2,b3)))
   obtain ⟨r0,r1,r2,r3,rl⟩:=cells4 hz3
   obtain ⟨q0,q1,ql⟩:=cells2 hzr3
   cases hr : eqB (b2,b3) (s,g) with
   | false =>
    rw [hr] at heq
    simp only at hst
    rw [if_neg (by rw [hr];simp),List.append_nil] at hst
    obtain ⟨HP,Hbel,Hbf,Hs3,Hw3,Hst,HO3,Hlen⟩:=hid8 hpc hbel hbf hs3 hw3 hst hO3 hlen
    clear hpc hbel hbf hs3 hw3 hst hO3 hlen
    clear hro hx hb3 hzr hz3 hzr3 hr hown
    go_wp2_with (first | (refine wpList_load_flat rfl 84 (.tmp 15) rfl _ rfl [.int .i64 b0,.int .i64 b1,.int .i64 b2,.int .i64 b3] _ Tryz.underlying84 rfl (by kernel_rfl) HP.out ?_) | (refine wpList_store_new rfl 84 (.tmp 7) (.tmp 16) rfl wr (ints [0,0,0,0]) [.int .i64 b0,.int .i64 b1,.int .i64 b2,.int .i64 b3] 84 rfl rfl rfl (by kernel_rfl) HO.out ?_;rw [show ([.int .i64 b0,.int .i64 b1,.int .i64 b2,.int .i64 b3] : List Value).toArray = #[.int .i64 b0,.int .i64 b1,.int .i64 b2,.int .i64 b3] from rfl,Hw3.out];clear HO))
    go_roundw
    case rel => exact ⟨n + 1,by omega,by go_num,by rw [Hst.out];exact HO3.out,Hbf.out⟩
    case measure => simp [Go.RowKit.intOf];omega
   | true =>
    rw [hr] at heq
    simp only at hst
    rw [if_pos hr] at hst
    have hb0w : w0.heap.size ≤ w3.heap.size:=by omega
    obtain ⟨HP,Hbel,Hbf,Hs3,Hw3,Hst,HO3,Hlen,Hb0w⟩:=hid9 hpc hbel hbf hs3 hw3 hst hO3 hlen hb0w
    clear hpc hbel hbf hs3 hw3 hst hO3 hlen hb0w
    clear hro hx hb3 hzr hz3 hzr3 hr hown
    go_wp2_with (first | (refine wpList_load_flat rfl 84 (.tmp 15) rfl _ rfl [.int .i64 b0,.int .i64 b1,.int .i64 b2,.int .i64 b3] _ Tryz.underlying84 rfl (by kernel_rfl) HP.out ?_) | (refine wpList_store_new rfl 84 (.tmp 7) (.tmp 16) rfl wr (ints [0,0,0,0]) [.int .i64 b0,.int .i64 b1,.int .i64 b2,.int .i64 b3] 84 rfl rfl rfl (by kernel_rfl) HO.out ?_;rw [show ([.int .i64 b0,.int .i64 b1,.int .i64 b2,.int .i64 b3] : List Value).toArray = #[.int .i64 b0,.int .i64 b1,.int .i64 b2,.int .i64 b3] from rfl,Hw3.out];clear HO) | (at_builtin;(refine app_handle rfl _ _ rfl w0.heap.size _ M (b0,b1) ⟨w3.heap.size,0,none⟩ 1 rfl (HO3.out.alloc _) rfl (new_rec (by simp) rfl) (by have:=HLL.out;have:=Hlen.out;omega) (by have:=Hb0w.out;simp;omega) ?_);intro v' w5 hown5 hb5))
    go_roundw
    case rel => exact ⟨n + 1,by omega,by go_num,by rw [Hst.out];exact hown5,(Hbf.out.alloc Hb0w.out _).trans hb5⟩
    case measure => simp [Go.RowKit.intOf];omega
  ·obtain rfl : n = B.length:=by omega
   rw [List.take_length] at hown
   have hBf:=Hb0.out.trans (hbel.mono Hb0.out.size)
   have hown:=row_base hown (B':=w.heap.size) (fun k hk => by have:=own_ge hown k hk;omega)
   obtain ⟨Hown,HBf⟩:=hid2 hown hBf
   clear hown hBf
   clear hzr hbel
   go_wp2
   go_ret
   exact ⟨_,rfl,Hown.out,HBf.out⟩
end
end Go.Proofs.YtehjfmjibiafdaaGreat
