import Derived.Test.YtfdillpofciicaaGreatDoorTextPrintsJ17
/- A part of the proof that TextPrints returns true. -/
namespace Go.Proofs.YtfdillpofciicaaGreatDoor
open Go Go.RowKit
attribute [local go_sem] AllFrom.cons_eq AllFrom.nil_eq putF_nil putF_cons wantedL_none wantedL_some OpGoalT OpGoalV OpGoalQ OpGoalA OpGoalK YieldsR preF_nil preF_cons
def RepB (vg vl vr : Value) (w : World) (q : Nat) (B : List Bd) (F : List Nat) : Prop :=
 ∃ vB,w.heap[q]? = some (.cells #[vg,vl,vr,vB] 82 (0,0)) ∧ w.ownsRow 0 60 4 vB B.length (B.flatMap bdC) ∧ F = q :: vB.ownBlock.toList ∧ q ∉ vB.ownBlock.toList
section
variable {vg vl vr : Value}
theorem RepB.mod {w w' : World} {q : Nat} {B : List Bd} {F G : List Nat} (h : RepB vg vl vr w q B F) (hm : Mod G w w') (hd : ∀ y ∈ F,y ∉ G) : RepB vg vl vr w' q B F:=by
 obtain ⟨vB,h1,h2,rfl,h4⟩:=h
 exact ⟨vB,hm.keep h1 (hd q (by simp)),row_mod h2 hm (fun k hk => hd k (by simp [hk])),rfl,h4⟩
theorem RepB.below {w w' : World} {q : Nat} {B : List Bd} {F : List Nat} (h : RepB vg vl vr w q B F) (hb : Below w.heap.size w w') : RepB vg vl vr w' q B F:=h.mod (Mod.ofBelow hb) (by simp)
theorem RepB.open_ {w : World} {q : Nat} {B : List Bd} {F : List Nat} (h : RepB vg vl vr w q B F) : ∃ A cap,w.heap[q]? = some (.cells #[vg,vl,vr,.slice A B.length cap] 82 (0,0)) ∧ w.ownsRow 0 60 4 (.slice A B.length cap) B.length (B.flatMap bdC):=by
 obtain ⟨vB,h1,h2,-,-⟩:=h
 obtain ⟨A,cap,rfl,-,-⟩:=row_slice h2
 exact ⟨A,cap,h1,h2⟩
theorem RepB.put {w w1 : World} {q : Nat} {B B' : List Bd} {F : List Nat} {v' : Value} (h : RepB vg vl vr w q B F) (hb : Below w.heap.size w w1) (hv : w1.ownsRow w.heap.size 60 4 v' B'.length (B'.flatMap bdC)) :
  ∃ F',RepB vg vl vr (w1.setCell ⟨q,3,none⟩ v') q B' F' ∧ Turns w F F' (w1.setCell ⟨q,3,none⟩ v'):=by
 obtain ⟨vB,h1,h2,rfl,h4⟩:=h
 have hq:=(Mod.ofBelow hb).keep h1 (by simp)
 have hql:=blk_lt h1
 have hge:=own_ge hv
 refine ⟨q :: v'.ownBlock.toList,⟨v',blk_set hq 3 _,?_,rfl,?_⟩,?_,?_⟩
 ·refine row_base (row_mod hv ((Mod.refl [q] _).setCell (by simp) _) (fun k hk e => ?_)) (fun k _ => Nat.zero_le k)
  have:=hge k hk
  simp at e;omega
 ·intro e
  have:=hge q (by simpa using e)
  omega
 ·exact ((Mod.ofBelow hb).mono (by simp)).setCell (by simp) _
 ·intro k hk
  rcases List.mem_cons.1 hk with rfl | hk
  ·simp
  ·exact .inr (hge k (by simpa using hk))
theorem parB_succ {B : List Bd} {h : Hd} {n : Nat} (hn : n < B.length) (hno : parB (B.take n) h = none) : parB (B.take (n + 1)) h = if B[n].1 = h then some B[n].2 else none:=by
 unfold parB at *
 rw [Option.map_eq_none_iff] at hno
 rw [take_succ_get B n hn,List.find?_append,hno]
 by_cases e : B[n].1 = h <;> simp [e]
theorem parB_take {B : List Bd} {h p : Hd} {n : Nat} (e : parB (B.take n) h = some p) : parB B h = some p:=by
 unfold parB at *
 conv => lhs;rw [← List.take_append_drop n B]
 rw [List.find?_append]
 cases hf : (B.take n).find? (fun b => decide (b.1 = h)) with
 | none => rw [hf] at e;cases e
 | some b => rw [hf] at e;simpa using e
theorem kids_succ (B : List Bd) (h : Hd) (n : Nat) (hn : n < B.length) : kidsB (B.take (n + 1)) h = kidsB (B.take n) h ++ (if eqB B[n].2 h = true then [B[n].1] else []):=by
 unfold kidsB eqB
 rw [take_succ_get B n hn,List.filter_append,List.map_append,List.filter_cons]
 by_cases e : B[n].2 = h <;> simp [e]
theorem outB_succ (B : List Bd) (h : Hd) (n : Nat) (hn : n < B.length) : outB (B.take (n + 1)) h = outB (B.take n) h ++ (if eqB B[n].1 h = true then [] else [B[n]]):=by
 unfold outB eqB
 rw [take_succ_get B n hn,List.filter_append,List.filter_cons]
 by_cases e : B[n].1 = h <;> simp [e]
theorem app_bond1 {w : World} {ops : Array Oper} {rest : List Oper} {o : Oper} {a : Act} {Q : Exit → Act → World → Prop} (hgd : o.guard = none) (s x : Operand)
  (ho : o.op = .call { callee:=.builtin .append,args:=#[s,x],argTypes:=#[24,24] }) (base : Nat) (v : Value) (l : List Bd) (y : Bd) (ad : Addr) (c : Nat)
  (hs : a.eval s = v) (hown : w.ownsRow base 60 4 v l.length (l.flatMap bdC)) (hx : a.eval x = .slice (some ad) 1 c) (hc : ∀ j u,(bdC y)[j]? = some u → w.cell? (ad.add j) = some u)
  (hlen : l.length < 4000000000000) (hbase : base ≤ w.heap.size)
  (h : ∀ v' w',w'.ownsRow base 60 4 v' (l ++ [y]).length ((l ++ [y]).flatMap bdC) → Below base w w' → wpList Tryz.prog ops Q rest (a.put o.dst v') w') : wpList Tryz.prog ops Q (o :: rest) a w :=
 app_bond hgd s x ho base v l y ad c hs hown hx hc hlen hbase (fun v' w' h1 h2 => h v' w' h1 ((Below.refl base w).grown h2 hbase (own_ge hown)))
set_option maxRecDepth 20000 in
set_option maxHeartbeats 2000000 in
theorem cloAdopt_any (b0 b1 b2 b3 s g : Int) (hb : Nat) (w : World) (hh : w.heap[hb]? = some (.cells #[.int .i64 s,.int .i64 g] 47 (0,0))) :
  Calls Tryz.prog 115 #[.agg #[.int .i64 b0,.int .i64 b1,.int .i64 b2,.int .i64 b3],.pointer (some ⟨hb,0,none⟩)] w (BoolPost (eqB (b0,b1) (s,g)) w):=by
 obtain ⟨v0,v1,vl⟩:=cells2 hh
 have hB : ∀ o,Below w.heap.size w (w.alloc o):=fun o => (Below.refl _ _).alloc (Nat.le_refl _) o
 have HB:=Lib.hid hB
 clear hB
 clear hh
 have hq1:=fun w => eqlHandle w b0 b1 s g
 generalize eqB (b0,b1) (s,g) = r1 at *
 go_enter Tryz.func115,Tryz.ntmps115
 go_wp2
 go_ret
 exact ⟨rfl,HB.out _⟩
set_option maxRecDepth 20000 in
set_option maxHeartbeats 4000000 in
theorem withoutAdopt_any {w : World} {B : List Bd} {A : Option Addr} {cap : Nat} (hrow : w.ownsRow 0 60 4 (.slice A B.length cap) B.length (B.flatMap bdC)) (hl : B.length ≤ 1200000000000) (s g : Int) (b : Nat) (h0 : w.heap[b]? = some (.cells #[.int .i64 s,.int .i64 g] 47 (0,0))) :
  Calls Tryz.prog 114 #[.slice A B.length cap,.func (.func 115) #[] #[.pointer (some ⟨b,0,none⟩)]] w (MadeR 60 4 bdC (outB B (s,g)) w):=by
 have hle : B.length ≤ 9223372036854775807:=by omega
 have hbl:=blk_lt h0
 have HLL:=Lib.hid hl
 clear hl
 go_enter Tryz.func114,Tryz.ntmps114
 go_wp2
 go_loopw [5,10] (fun v i wr => ∃ n : Nat,n ≤ B.length ∧ i = .int .i64 n ∧ wr.ownsRow w.heap.size 60 4 v (outB (B.take n) (s,g)).length ((outB (B.take n) (s,g)).flatMap bdC) ∧ Below w.heap.size w wr) (fun _ i _ => B.length - (Go.RowKit.intOf i).toNat)
 case atStart => exact ⟨0,by omega,rfl,⟨rfl,.inl ⟨rfl,rfl⟩⟩,Below.refl _ _⟩
 case round =>
  obtain ⟨n,hn,rfl,hown,hbel⟩:=hrel
  have hsz:=hbel.size
  by_cases hlt : n < B.length
  ·have hro : wr.ownsRow 0 60 4 (.slice A B.length cap) B.length (B.flatMap bdC):=row_mod hrow (Mod.ofBelow hbel) (by simp)
   obtain ⟨g0,cap0,cur0,hv,-,-,-⟩:=row_some hro (by omega)
   cases hv
   have hpc:=row_piece bdC_len hro hlt 0 (bdC B[n]) (fun j u hu => by rw [Nat.zero_add];exact hu)
   have hst:=outB_succ B (s,g) n hlt
   have hlen : (outB (B.take n) (s,g)).length ≤ n:=by
    have h1 : (outB (B.take n) (s,g)).length ≤ (B.take n).length:=List.length_filter_le _ _
    rw [List.length_take] at h1;omega
   have hg0:=row_lt hro g0 rfl
   have hni : (n : Int) < (B.length : Int):=by omega
   generalize outB (B.take n) (s,g) = M at *
   obtain ⟨x,hx⟩ : ∃ x,B[n] = x:=⟨_,rfl⟩
   rw [hx] at hpc hst
   obtain ⟨⟨b0,b1⟩,b2,b3⟩:=x
   have hbz:=(Mod.ofBelow hbel).keep h0 (by simp)
   obtain ⟨w3,hw3,hb3,hz3,hs3⟩:=box1 wr (.cells #[.int .i64 b0,.int .i64 b1,.int .i64 b2,.int .i64 b3] 60)
   have hO3:=hown.alloc (.cells #[.int .i64 b0,.int .i64 b1,.int .i64 b2,.int .i64 b3] 60)
   rw [hw3] at hO3
   have hb03:=hbel.trans (hb3.mono hsz)
   have hbz3:=(Mod.ofBelow hb3).keep hbz (by simp)
   have hk1:=cloAdopt_any b0 b1 b2 b3 s g b w3 hbz3
   have hl3 : wr.heap.size < w3.heap.size:=by omega
   obtain ⟨r0,r1,r2,r3,rl⟩:=cells4 hz3
   obtain ⟨HP,Hst,Hlen,Hown,Hbel,HO3,Hb03,Hk,Hs3,Hz3,Hw3,H0,Hrow⟩:=hid13 hpc hst hlen hown hbel hO3 hb03 hk1 hs3 hz3 hw3 h0 hrow
   clear hpc hst hlen hown hbel hO3 hb03 hk1 hs3 hz3 hw3 h0 hrow
   clear hro hx hbz hbz3 hb3
   have HO:=Lib.hid (bdC_one ((b0,b1),(b2,b3)))
   go_wp2_with (first | (refine wpList_load_flat rfl 60 (.tmp 12) rfl _ rfl [.int .i64 b0,.int .i64 b1,.int .i64 b2,.int .i64 b3] _ Tryz.underlying60 rfl (by kernel_rfl) HP.out ?_) | (refine wpList_store_new rfl 60 (.tmp 7) (.tmp 13) rfl wr (ints [0,0,0,0]) [.int .i64 b0,.int .i64 b1,.int .i64 b2,.int .i64 b3] 60 rfl rfl rfl (by kernel_rfl) HO.out ?_;rw [show ([.int .i64 b0,.int .i64 b1,.int .i64 b2,.int .i64 b3] : List Value).toArray = #[.int .i64 b0,.int .i64 b1,.int .i64 b2,.int .i64 b3] from rfl,Hw3.out];clear HO))
   refine Hk.out.mono ?_
   rintro e w4 ⟨rfl,hb4⟩
   have hz4:=(Mod.ofBelow hb4).keep Hz3.out (by simp)
   have hs4:=hb4.size
   have hs3:=Hs3.out
   have hO4:=row_mod HO3.out (Mod.ofBelow hb4) (by simp)
   have hb04:=Hb03.out.trans (hb4.mono Hb03.out.size)
   have hbs:=Hb03.out.size
   cases hr : eqB (b0,b1) (s,g) with
   | true =>
    have hst:=Hst.out
    rw [if_pos hr,List.append_nil] at hst
    obtain ⟨Hst2,HO4,Hbel4,Hz4,Hs4,Hbs,Hr⟩:=hid7 hst hO4 hb04 hz4 hs4 hbs hr
    clear hst hO4 hb04 hz4 hs4 hbs hr
    clear hs3 hb4 r0 r1 r2 r3 rl
    go_wp2
    go_roundw
    case rel => exact ⟨n + 1,by omega,by go_num,by rw [Hst2.out];exact HO4.out,Hbel4.out⟩
    case measure => simp [Go.RowKit.intOf];omega
   | false =>
    have hst:=Hst.out
    rw [if_neg (by rw [hr];simp)] at hst
    clear r0 r1 r2 r3 rl
    obtain ⟨r0,r1,r2,r3,rl⟩:=cells4 hz4
    obtain ⟨Hst2,Hown4,Hbel4,Hs4,Hbs,Hr⟩:=hid6 hst hO4 hb04 hs4 hbs hr
    clear hst hO4 hb04 hs4 hbs hr
    clear hb4 hz4 hs3
    go_wp2_with (at_builtin;(refine app_bond1 rfl _ _ rfl w.heap.size _ M ((b0,b1),(b2,b3)) ⟨w4.heap.size,0,none⟩ 1 rfl (Hown4.out.alloc _) rfl (new_rec (by simp) rfl) (by have:=HLL.out;have:=Hlen.out;omega) (by have:=Hbel4.out.size;simp;omega) ?_);intro v' w5 hown5 hb5)
    go_roundw
    case rel => exact ⟨n + 1,by omega,by go_num,by rw [Hst2.out];exact hown5,(Hbel4.out.alloc Hbel4.out.size _).trans hb5⟩
    case measure => simp [Go.RowKit.intOf];omega
  ·obtain rfl : n = B.length:=by omega
   rw [List.take_length] at hown
   obtain ⟨Hown,Hbel⟩:=hid2 hown hbel
   clear hown hbel
   clear hrow h0
   go_wp2
   go_ret
   exact ⟨_,rfl,Hown.out,Hbel.out⟩
end
section
variable {vg vl vr : Value} {w : World} {q : Nat} {B : List Bd} {F : List Nat}
def RFRet (vg vl vr : Value) (B' : List Bd) (r : Value) (q : Nat) (F : List Nat) (w : World) (e : Ending) (w' : World) : Prop:=e = .returned r ∧ ∃ F',RepB vg vl vr w' q B' F' ∧ Turns w F F' w'
set_option maxRecDepth 20000 in
set_option maxHeartbeats 4000000 in
theorem rpar_any (h : RepB vg vl vr w q B F) (hl : B.length ≤ 1200000000000) (s g : Int) : Calls Tryz.prog 67 #[.pointer (some ⟨q,0,none⟩),.agg #[.int .i64 s,.int .i64 g]] w (ParPost (parB B (s,g)) w):=by
 obtain ⟨w0,hw0,hb0,hz0,hs0⟩:=box1 w (.cells #[.int .i64 s,.int .i64 g] 47)
 obtain ⟨w1,hw1,hb1,hz1,hs1⟩:=box1 w0 (.cells #[.int .i64 0,.int .i64 0] 47)
 have hB1:=hb0.trans (hb1.mono hb0.size)
 have hz01:=(Mod.ofBelow hb1).keep hz0 (by simp)
 obtain ⟨A,cap,hq,hrow⟩:=(h.below hB1).open_
 have hle : B.length ≤ 9223372036854775807:=by omega
 obtain ⟨c0,c1,c2,c3,cl⟩:=cells4 hq
 obtain ⟨H,HB1,Hz01,Hz1,Hs0,Hs1,Hq,Hrow⟩:=hid8 h hB1 hz01 hz1 hs0 hs1 hq hrow
 clear h hB1 hz01 hz1 hs0 hs1 hq hrow
 clear hb0 hb1 hz0
 go_enter Tryz.func67,Tryz.ntmps67
 go_wp2_with fail
 clear hw0 hw1 c0 c1 c2 c3 cl
 go_loopw [13] (fun i wr => ∃ n : Nat,n ≤ B.length ∧ i = .int .i64 n ∧ parB (B.take n) (s,g) = none ∧ Below w1.heap.size w1 wr) (fun i _ => B.length - (Go.RowKit.intOf i).toNat)
 case atStart => exact ⟨0,by omega,rfl,rfl,Below.refl _ _⟩
 case round =>
  obtain ⟨n,hn,rfl,hno,hbel⟩:=hrel
  have hsz:=hbel.size
  have hzr:=(Mod.ofBelow hbel).keep Hz01.out (by simp)
  have hyr:=(Mod.ofBelow hbel).keep Hz1.out (by simp)
  have hwb : w.heap.size < w1.heap.size ∧ w0.heap.size < w1.heap.size:=⟨blk_lt Hz01.out,blk_lt Hz1.out⟩
  have hne1 : w0.heap.size ≠ wr.heap.size:=by omega
  have hne2 : wr.heap.size ≠ w0.heap.size:=by omega
  have hle0 : w.heap.size ≤ w0.heap.size:=by have:=Hs0.out;omega
  obtain ⟨q0,q1,ql⟩:=cells2 hzr
  obtain ⟨y0,y1,yl⟩:=cells2 hyr
  have f0:=blk_free hyr 0
  have f1:=blk_free hyr 1
  by_cases hlt : n < B.length
  ·have hro : wr.ownsRow 0 60 4 (.slice A B.length cap) B.length (B.flatMap bdC):=row_mod Hrow.out (Mod.ofBelow hbel) (by simp)
   obtain ⟨g0,cap0,cur0,hv,-,-,-⟩:=row_some hro (by omega)
   cases hv
   have hpc:=row_piece bdC_len hro hlt 0 (bdC B[n]) (fun j u hu => by rw [Nat.zero_add];exact hu)
   have hg0:=row_lt hro g0 rfl
   have hni : (n : Int) < (B.length : Int):=by omega
   have hst:=parB_succ hlt hno
   obtain ⟨x,hx⟩ : ∃ x,B[n] = x:=⟨_,rfl⟩
   rw [hx] at hpc hst
   obtain ⟨⟨b0,b1⟩,b2,b3⟩:=x
   obtain ⟨w3,hw3,hb3,hz3,hs3⟩:=box1 wr (.cells #[.int .i64 b0,.int .i64 b1,.int .i64 b2,.int .i64 b3] 60)
   have hzr3:=(Mod.ofBelow hb3).keep hzr (by simp)
   have hyr3:=(Mod.ofBelow hb3).keep hyr (by simp)
   have heq:=fun w => eqlHandle w b0 b1 s g
   have hbf:=hbel.trans (hb3.mono hsz)
   have HO:=Lib.hid (bdC_one ((b0,b1),(b2,b3)))
   clear q0 q1 ql y0 y1 yl f0 f1
   obtain ⟨r0,r1,r2,r3,rl⟩:=cells4 hz3
   obtain ⟨q0,q1,ql⟩:=cells2 hzr3
   obtain ⟨y0,y1,yl⟩:=cells2 hyr3
   have f0:=blk_free hyr3 0
   have f1:=blk_free hyr3 1
   cases hr : eqB (b0,b1) (s,g) with
   | true =>
    rw [hr] at heq
    have he : (b0,b1) = (s,g):=by simpa [eqB] using hr
    simp only at hst
    rw [if_pos he] at hst
    have hp:=parB_take hst
    unfold ParPost
    rw [hp]
    simp only [parV,Option.getD_some,Option.isSome_some,hdV,handleC]
    have hBw:=HB1.out.trans (hbf.mono HB1.out.size)
    obtain ⟨HP,Hbel,Hbf,Hs3,Hw3,HBw,Hle0⟩:=hid7 hpc hbel hbf hs3 hw3 hBw hle0
    clear hpc hbel hbf hs3 hw3 hBw hle0
    clear hro hx hb3 hzr hyr hz3 hzr3 hyr3 hr he hst hp hno
    go_wp2_with (first | (refine wpList_load_flat rfl 60 (.tmp 15) rfl _ rfl [.int .i64 b0,.int .i64 b1,.int .i64 b2,.int .i64 b3] _ Tryz.underlying60 rfl (by kernel_rfl) HP.out ?_) | (refine wpList_store_new rfl 60 (.tmp 7) (.tmp 16) rfl wr (ints [0,0,0,0]) [.int .i64 b0,.int .i64 b1,.int .i64 b2,.int .i64 b3] 60 rfl rfl rfl (by kernel_rfl) HO.out ?_;rw [show ([.int .i64 b0,.int .i64 b1,.int .i64 b2,.int .i64 b3] : List Value).toArray = #[.int .i64 b0,.int .i64 b1,.int .i64 b2,.int .i64 b3] from rfl,Hw3.out];clear HO))
    refine bodyPost_ret (v:=.tuple #[.agg #[.int .i64 b2,.int .i64 b3],.bool true]) (by unfold results;try go_simp) rfl ?_
    refine ⟨rfl,?_⟩
    repeat (refine Below.setCell ?_ Hle0.out _)
    exact HBw.out
   | false =>
    rw [hr] at heq
    simp only at hst
    rw [if_neg (fun e => by rw [e,eqB_self] at hr;cases hr)] at hst
    obtain ⟨HP,Hbel,Hbf,Hs3,Hw3,Hst⟩:=hid6 hpc hbel hbf hs3 hw3 hst
    clear hpc hbel hbf hs3 hw3 hst
    clear hro hx hb3 hzr hyr hz3 hzr3 hyr3 hr hno
    go_wp2_with (first | (refine wpList_load_flat rfl 60 (.tmp 15) rfl _ rfl [.int .i64 b0,.int .i64 b1,.int .i64 b2,.int .i64 b3] _ Tryz.underlying60 rfl (by kernel_rfl) HP.out ?_) | (refine wpList_store_new rfl 60 (.tmp 7) (.tmp 16) rfl wr (ints [0,0,0,0]) [.int .i64 b0,.int .i64 b1,.int .i64 b2,.int .i64 b3] 60 rfl rfl rfl (by kernel_rfl) HO.out ?_;rw [show ([.int .i64 b0,.int .i64 b1,.int .i64 b2,.int .i64 b3] : List Value).toArray = #[.int .i64 b0,.int .i64 b1,.int .i64 b2,.int .i64 b3] from rfl,Hw3.out];clear HO))
    go_roundw
    case rel => exact ⟨n + 1,by omega,by go_num,Hst.out,Hbf.out⟩
    case measure => simp [Go.RowKit.intOf];omega
  ·obtain rfl : n = B.length:=by omega
   rw [List.take_length] at hno
   have hBw:=HB1.out.trans (hbel.mono HB1.out.size)
   obtain ⟨HBw,Hle0,Hno⟩:=hid3 hBw hle0 hno
   clear hBw hle0 hno
   clear hzr hyr hbel
   go_wp2
   refine bodyPost_ret (v:=.tuple #[.agg #[.int .i64 0,.int .i64 0],.bool false]) (by unfold results;try go_simp) rfl ?_
   unfold ParPost
   rw [Hno.out]
   refine ⟨rfl,?_⟩
   repeat (refine Below.setCell ?_ Hle0.out _)
   exact HBw.out
set_option maxRecDepth 20000 in
set_option maxHeartbeats 4000000 in
theorem rkids_any (h : RepB vg vl vr w q B F) (hl : B.length ≤ 1200000000000) (s g : Int) : Calls Tryz.prog 162 #[.pointer (some ⟨q,0,none⟩),.agg #[.int .i64 s,.int .i64 g]] w (MadeRecs 47 2 handleC (kidsB B (s,g)) w):=by
 obtain ⟨w0,hw0,hb0,hz0,hs0⟩:=box1 w (.cells #[.int .i64 s,.int .i64 g] 47)
 obtain ⟨A,cap,hq,hrow⟩:=(h.below hb0).open_
 have hle : B.length ≤ 9223372036854775807:=by omega
 obtain ⟨c0,c1,c2,c3,cl⟩:=cells4 hq
 have HLL:=Lib.hid hl
 obtain ⟨H,Hb0,Hz0,Hs0,Hq,Hrow⟩:=hid6 h hb0 hz0 hs0 hq hrow
 clear h hb0 hz0 hs0 hq hrow
 clear hl
 go_enter Tryz.func162,Tryz.ntmps162
 go_wp2_with fail
 clear hw0 c0 c1 c2 c3 cl
 go_loopw [5,13] (fun v i wr => ∃ n : Nat,n ≤ B.length ∧ i = .int .i64 n ∧ wr.ownsRow w0.heap.size 47 2 v (kidsB (B.take n) (s,g)).length ((kidsB (B.take n) (s,g)).flatMap handleC) ∧ Below w0.heap.size w0 wr) (fun _ i _ => B.length - (Go.RowKit.intOf i).toNat)
 case atStart => exact ⟨0,by omega,rfl,⟨rfl,.inl ⟨rfl,rfl⟩⟩,Below.refl _ _⟩
 case round =>
  obtain ⟨n,hn,rfl,hown,hbel⟩:=hrel
  have hsz:=hbel.size
  have hwb:=Hs0.out
  have hzr:=(Mod.ofBelow hbel).keep Hz0.out (by simp)
  by_cases hlt : n < B.length
  ·have hro : wr.ownsRow 0 60 4 (.slice A B.length cap) B.length (B.flatMap bdC):=row_mod Hrow.out (Mod.ofBelow hbel) (by simp)
   obtain ⟨g0,cap0,cur0,hv,-,-,-⟩:=row_some hro (by omega)
   cases hv
   have hpc:=row_piece bdC_len hro hlt 0 (bdC B[n]) (fun j u hu => by rw [Nat.zero_add];exact hu)
   have hg0:=row_lt hro g0 rfl
   have hni : (n : Int) < (B.length : Int):=by omega
   have hst:=kids_succ B (s,g) n hlt
   have hlen : (kidsB (B.take n) (s,g)).length ≤ n:=by
    unfold kidsB
    rw [List.length_map]
    have h1 : ((B.take n).filter (fun b => decide (b.2 = (s,g)))).length ≤ (B.take n).length:=List.length_filter_le _ _
    rw [List.length_take] at h1;omega
   generalize kidsB (B.take n) (s,g) = M at *
   obtain ⟨x,hx⟩ : ∃ x,B[n] = x:=⟨_,rfl⟩
   rw [hx] at hpc hst
   obtain ⟨⟨b0,b1⟩,b2,b3⟩:=x
   obtain ⟨w3,hw3,hb3,hz3,hs3⟩:=box1 wr (.cells #[.int .i64 b0,.int .i64 b1,.int .i64 b2,.int .i64 b3] 60)
   have hzr3:=(Mod.ofBelow hb3).keep hzr (by simp)
   have heq:=fun w => eqlHandle w b2 b3 s g
   have hbf:=hbel.trans (hb3.mono hsz)
   have hO3:=hown.alloc (.cells #[.int .i64 b0,.int .i64 b1,.int .i64 b2,.int .i64 b3] 60)
   rw [hw3] at hO3
   have HO:=Lib.hid (bdC_one ((b0,b1),(b2,b3)))
   obtain ⟨r0,r1,r2,r3,rl⟩:=cells4 hz3
   obtain ⟨q0,q1,ql⟩:=cells2 hzr3
   cases hr : eqB (b2,b3) (s,g) with
   | false =>
    rw [hr] at heq
    simp only at hst
    rw [if_neg (by rw [hr];simp),List.append_nil] at hst
    obtain ⟨HP,Hbel,Hbf,Hs3,Hw3,Hst,HO3,Hlen⟩:=hid8 hpc hbel hbf hs3 hw3 hst hO3 hlen
    clear hpc hbel hbf hs3 hw3 hst hO3 hlen
    clear hro hx hb3 hzr hz3 hzr3 hr hown
    go_wp2_with (first | (refine wpList_load_flat rfl 60 (.tmp 15) rfl _ rfl [.int .i64 b0,.int .i64 b1,.int .i64 b2,.int .i64 b3] _ Tryz.underlying60 rfl (by kernel_rfl) HP.out ?_) | (refine wpList_store_new rfl 60 (.tmp 7) (.tmp 16) rfl wr (ints [0,0,0,0]) [.int .i64 b0,.int .i64 b1,.int .i64 b2,.int .i64 b3] 60 rfl rfl rfl (by kernel_rfl) HO.out ?_;rw [show ([.int .i64 b0,.int .i64 b1,.int .i64 b2,.int .i64 b3] : List Value).toArray = #[.int .i64 b0,.int .i64 b1,.int .i64 b2,.int .i64 b3] from rfl,Hw3.out];clear HO))
    go_roundw
    case rel => exact ⟨n + 1,by omega,by go_num,by rw [Hst.out];exact HO3.out,Hbf.out⟩
    case measure => simp [Go.RowKit.intOf];omega
   | true =>
    rw [hr] at heq
    simp only at hst
    rw [if_pos hr] at hst
    have hb0w : w0.heap.size ≤ w3.heap.size:=by omega
    obtain ⟨HP,Hbel,Hbf,Hs3,Hw3,Hst,HO3,Hlen,Hb0w⟩:=hid9 hpc hbel hbf hs3 hw3 hst hO3 hlen hb0w
    clear hpc hbel hbf hs3 hw3 hst hO3 hlen hb0w
    clear hro hx hb3 hzr hz3 hzr3 hr hown
    go_wp2_with (first | (refine wpList_load_flat rfl 60 (.tmp 15) rfl _ rfl [.int .i64 b0,.int .i64 b1,.int .i64 b2,.int .i64 b3] _ Tryz.underlying60 rfl (by kernel_rfl) HP.out ?_) | (refine wpList_store_new rfl 60 (.tmp 7) (.tmp 16) rfl wr (ints [0,0,0,0]) [.int .i64 b0,.int .i64 b1,.int .i64 b2,.int .i64 b3] 60 rfl rfl rfl (by kernel_rfl) HO.out ?_;rw [show ([.int .i64 b0,.int .i64 b1,.int .i64 b2,.int .i64 b3] : List Value).toArray = #[.int .i64 b0,.int .i64 b1,.int .i64 b2,.int .i64 b3] from rfl,Hw3.out];clear HO) | (at_builtin;(refine app_handle rfl _ _ rfl w0.heap.size _ M (b0,b1) ⟨w3.heap.size,0,none⟩ 1 rfl (HO3.out.alloc _) rfl (new_rec (by simp) rfl) (by have:=HLL.out;have:=Hlen.out;omega) (by have:=Hb0w.out;simp;omega) ?_);intro v' w5 hown5 hb5))
    go_roundw
    case rel => exact ⟨n + 1,by omega,by go_num,by rw [Hst.out];exact hown5,(Hbf.out.alloc Hb0w.out _).trans hb5⟩
    case measure => simp [Go.RowKit.intOf];omega
  ·obtain rfl : n = B.length:=by omega
   rw [List.take_length] at hown
   have hBf:=Hb0.out.trans (hbel.mono Hb0.out.size)
   have hown:=row_base hown (B':=w.heap.size) (fun k hk => by have:=own_ge hown k hk;omega)
   obtain ⟨Hown,HBf⟩:=hid2 hown hBf
   clear hown hBf
   clear hzr hbel
   go_wp2
   go_ret
   exact ⟨_,rfl,Hown.out,HBf.out⟩
end
theorem Turns.same {w w' : World} {F : List Nat} (hb : Below w.heap.size w w') : Turns w F F w':=⟨(Mod.ofBelow hb).mono (by simp),fun _ h => .inl h⟩
theorem app_handleG {w : World} {ops : Array Oper} {rest : List Oper} {o : Oper} {a : Act} {Q : Exit → Act → World → Prop} (hgd : o.guard = none) (s x : Operand)
  (ho : o.op = .call { callee:=.builtin .append,args:=#[s,x],argTypes:=#[156,156] }) (base : Nat) (v : Value) (l : List Hd) (y : Hd) (ad : Addr) (c : Nat)
  (hs : a.eval s = v) (hown : w.ownsRow base 47 2 v l.length (l.flatMap handleC)) (hx : a.eval x = .slice (some ad) 1 c) (hc : ∀ j u,(handleC y)[j]? = some u → w.cell? (ad.add j) = some u)
  (hlen : l.length < 8796093022207) (hbase : base ≤ w.heap.size)
  (h : ∀ v' w',w'.ownsRow base 47 2 v' (l ++ [y]).length ((l ++ [y]).flatMap handleC) → w.grownBy w' v.ownBlock → wpList Tryz.prog ops Q rest (a.put o.dst v') w') : wpList Tryz.prog ops Q (o :: rest) a w:=by
 refine app_rec (enc:=handleC) (n:=2) (z:=.agg #[.int .i64 0,.int .i64 0]) (bytes:=16) hgd s x 156 47 ho Tryz.underlying156 info_handle rfl (by omega) (by omega) handleC_one handleC_len base v l y ad c hs hown hx hc (by omega) hbase ?_
 intro v' w' h1 h2 _
 exact h v' w' h1 h2
theorem wpList_app {P : Program} {w w' : World} {ops : Array Oper} {rest : List Oper} {o : Oper} {a : Act} {Q : Exit → Act → World → Prop} (hgd : o.guard = none) (s x : Operand) (T : TypeId)
  (ho : o.op = .call { callee:=.builtin .append,args:=#[s,x],argTypes:=#[T,T] }) {v1 v2 v' : Value} (hs : a.eval s = v1) (hx : a.eval x = v2)
  (hr : (Builtin.append_ #[T,T] o.type #[v1,v2]).run P w = .ok v' w') (h : wpList P ops Q rest (a.put o.dst v') w') : wpList P ops Q (o :: rest) a w:=by
 refine wpList_plain hgd fun K hK => ?_
 unfold Oper.wp execOp
 simp only [ho,resolve,invoke,builtin,Sem.run_bind,Sem.run_pure,Result.andThen_ok,List.map_toArray,mC,mN,hs,hx,hr]
 exact hK _ _ h
theorem run_appH {w : World} (base B2 : Nat) (v v2 : Value) (l l2 : List Hd) (ty : TypeId) (hown : w.ownsRow base 47 2 v l.length (l.flatMap handleC)) (hrow : w.ownsRow B2 47 2 v2 l2.length (l2.flatMap handleC))
  (hlen : l.length + l2.length < 8796093022207) (hbase : base ≤ w.heap.size) :
  ∃ v' w',(Builtin.append_ #[156,156] ty #[v,v2]).run Tryz.prog w = .ok v' w' ∧ w'.ownsRow base 47 2 v' (l ++ l2).length ((l ++ l2).flatMap handleC) ∧ w.grownBy w' v.ownBlock:=by
 obtain ⟨i0,hi,hz0,hz1,hz2⟩:=info_parts info_handle
 rcases hrow with ⟨hx,⟨rfl,h2⟩ | ⟨g,cap2,cur,rfl,h3⟩⟩
 ·have hl2 : l2 = []:=List.eq_nil_of_length_eq_zero h2
  subst hl2
  exact ⟨v,w,run_append_owned_none (P:=Tryz.prog) w base 156 ty 47 i0 2 Tryz.underlying156 hi v l.length _ hown,by simpa using hown,⟨rfl,rfl,rfl,Nat.le_refl _,fun _ _ _ => rfl⟩⟩
 ·have hrow2 : w.ownsRow B2 47 2 (.slice (some ⟨g,0,none⟩) l2.length cap2) l2.length (l2.flatMap handleC):=⟨hx,.inr ⟨g,cap2,cur,rfl,h3⟩⟩
  obtain ⟨v',w',hr,h4,h5,-,-⟩:=run_append_own_at (P:=Tryz.prog) w base 156 ty 47 i0 _ 2 16 Tryz.underlying156 hi hz0 hz1 hz2 rfl (by omega) v l.length _ hown ⟨g,0,none⟩ l2.length cap2 (l2.flatMap handleC) (flatV_length handleC_len l2) (fun j u hu => by
   have h5:=row_cell hrow2 hu
   rw [Addr.add_mid,Nat.zero_add];exact h5) (flat_one handleC_one _) (by unfold maxLen;omega) (by omega) hbase
  refine ⟨v',w',hr,?_,h5⟩
  rw [List.length_append,List.flatMap_append]
  exact h4
theorem app_list {w : World} {ops : Array Oper} {rest : List Oper} {o : Oper} {a : Act} {Q : Exit → Act → World → Prop} (hgd : o.guard = none) (s x : Operand)
  (ho : o.op = .call { callee:=.builtin .append,args:=#[s,x],argTypes:=#[156,156] }) (base B2 : Nat) (v v2 : Value) (l l2 : List Hd)
  (hs : a.eval s = v) (hown : w.ownsRow base 47 2 v l.length (l.flatMap handleC)) (hx : a.eval x = v2) (hrow : w.ownsRow B2 47 2 v2 l2.length (l2.flatMap handleC))
  (hlen : l.length + l2.length < 8796093022207) (hbase : base ≤ w.heap.size)
  (h : ∀ v' w',w'.ownsRow base 47 2 v' (l ++ l2).length ((l ++ l2).flatMap handleC) → w.grownBy w' v.ownBlock → wpList Tryz.prog ops Q rest (a.put o.dst v') w') : wpList Tryz.prog ops Q (o :: rest) a w:=by
 obtain ⟨v',w',hr,h1,h2⟩:=run_appH base B2 v v2 l l2 o.type hown hrow hlen hbase
 exact wpList_app hgd s x _ ho hs hx hr (h v' w' h1 h2)
theorem underN_len {B : List Bd} (h : FamOk B) {n : Nat} {x : Hd} (hl : Low B n x) : (underN B n x).length ≤ B.length:=by
 have h1:=nodup_le (under_nodup h hl) (ys:=B.map (·.1)) (fun y hy => by
  obtain ⟨p,h1,-⟩:=(mem_under hl).1 hy
  exact List.mem_map.2 ⟨_,h1,rfl⟩)
 rw [List.length_map] at h1
 exact h1
def undP (B : List Bd) (n : Nat) (ks : List Hd) (k : Nat) : List Hd:=(ks.take k).flatMap (fun c => c :: underN B n c)
theorem undP_succ (B : List Bd) (n : Nat) (ks : List Hd) (k : Nat) (hk : k < ks.length) : undP B n ks (k + 1) = (undP B n ks k ++ [ks[k]]) ++ underN B n ks[k]:=by
 unfold undP;rw [take_succ_get ks k hk,List.flatMap_append];simp
theorem undP_all (B : List Bd) (n : Nat) (h : Hd) : undP B n (kidsB B h) (kidsB B h).length = underN B (n + 1) h:=by
 unfold undP;rw [List.take_length];rfl
theorem undP_len (B : List Bd) (n : Nat) (ks : List Hd) (k : Nat) : (undP B n ks k).length ≤ (undP B n ks ks.length).length:=by
 unfold undP
 rw [List.take_length]
 conv => rhs;rw [← List.take_append_drop k ks]
 rw [List.flatMap_append,List.length_append];omega
section
variable {vg vl vr : Value} {w : World} {q : Nat} {B : List Bd} {F : List Nat}
set_option maxRecDepth 20000 in
set_option maxHeartbeats 4000000 in
theorem less_any (s g t u : Int) (w : World) : Calls Tryz.prog 116 #[.agg #[.int .i64 s,.int .i64 g],.agg #[.int .i64 t,.int .i64 u]] w (BoolPost (ltH (s,g) (t,u)) w):=by
 have hB : Below w.heap.size w ((w.alloc (.cells #[.int .i64 s,.int .i64 g] 47)).alloc (.cells #[.int .i64 t,.int .i64 u] 47)):=((Below.refl _ _).alloc (Nat.le_refl _) _).alloc (by simp) _
 have HB:=Lib.hid hB
 clear hB
 unfold ltH
 simp only
 by_cases h1 : s < t
 ·rw [show (decide (s < t) || (decide (s = t) && decide (g < u))) = true by simp [h1]]
  go_enter Tryz.func116,Tryz.ntmps116
  go_wp2
  go_ret
  exact ⟨rfl,HB.out⟩
 ·by_cases h2 : s = t
  ·subst h2
   by_cases h3 : g < u
   ·rw [show (decide (s < s) || (decide (s = s) && decide (g < u))) = true by simp [h3]]
    go_enter Tryz.func116,Tryz.ntmps116
    go_wp2
    go_ret
    exact ⟨rfl,HB.out⟩
   ·rw [show (decide (s < s) || (decide (s = s) && decide (g < u))) = false by simp [h3]]
    go_enter Tryz.func116,Tryz.ntmps116
    go_wp2
    go_ret
    exact ⟨rfl,HB.out⟩
  ·rw [show (decide (s < t) || (decide (s = t) && decide (g < u))) = false by simp [h1,h2]]
   go_enter Tryz.func116,Tryz.ntmps116
   go_wp2
   go_ret
   exact ⟨rfl,HB.out⟩
set_option maxRecDepth 20000 in
set_option maxHeartbeats 4000000 in
theorem runder_any (hO : FamOk B) (hl : B.length ≤ 1200000000000) : ∀ (n : Nat) (s g : Int) (w : World),Low B n (s,g) → RepB vg vl vr w q B F → Calls Tryz.prog 113 #[.pointer (some ⟨q,0,none⟩),.agg #[.int .i64 s,.int .i64 g]] w (MadeRecs 47 2 handleC (underN B n (s,g)) w):=by
 intro n
 induction n with
 | zero => intro s g w hl0;exact hl0.elim
 | succ n ih =>
  intro s g w hlow h
  obtain ⟨w0,hw0,hb0,hz0,hs0⟩:=box1 w (.cells #[.int .i64 s,.int .i64 g] 47)
  have h0:=h.below hb0
  have H1:=Lib.hid (rkids_any h0 hl s g)
  have hlen:=underN_len hO hlow
  have hall:=undP_all B n (s,g)
  have hplen:=undP_len B n (kidsB B (s,g))
  rw [hall] at hplen
  obtain ⟨q0,q1,ql⟩:=cells2 hz0
  obtain ⟨HZ0,Hb0,HLB,Hs0,IH,Hlow,Hlen,Hall,Hplen⟩:=hid9 h0 hb0 hl hs0 ih hlow hlen hall hplen
  clear h0 hb0 hl hs0 ih hlow hlen hall hplen
  clear h hz0
  go_enter Tryz.func113,Tryz.ntmps113
  go_wp2_with fail
  clear hw0 q0 q1 ql
  refine H1.out.mono ?_
  rintro e w2 ⟨vk,rfl,hk,hb2⟩
  have h2:=HZ0.out.below hb2
  have hkl : (kidsB B (s,g)).length ≤ 1200000000000:=by
   unfold kidsB
   rw [List.length_map]
   have h1 : (B.filter (fun b => decide (b.2 = (s,g)))).length ≤ B.length:=List.length_filter_le _ _
   have:=HLB.out
   omega
  have hBw2:=Hb0.out.trans (hb2.mono Hb0.out.size)
  have hkl2 : (kidsB B (s,g)).length ≤ 9223372036854775807:=by omega
  have hlow' : ∀ c ∈ kidsB B (s,g),Low B n c:=Hlow.out
  generalize kidsB B (s,g) = ks at *
  obtain ⟨A,cap,rfl,-,-⟩:=row_slice hk
  obtain ⟨H2,Hk,HBw2,Hlow',HKL⟩:=hid5 h2 hk hBw2 hlow' hkl
  clear h2 hk hBw2 hlow' hkl
  clear hb2 H1
  go_wp2_with fail
  go_loopw [5,12] (fun v i wr => ∃ k : Nat,k ≤ ks.length ∧ i = .int .i64 k ∧ wr.ownsRow w2.heap.size 47 2 v (undP B n ks k).length ((undP B n ks k).flatMap handleC) ∧ Below w2.heap.size w2 wr) (fun _ i _ => ks.length - (Go.RowKit.intOf i).toNat)
  case atStart => exact ⟨0,by omega,rfl,⟨rfl,.inl ⟨rfl,rfl⟩⟩,Below.refl _ _⟩
  case round =>
   obtain ⟨k,hkk,rfl,hown,hbel⟩:=hrel
   have hsz:=hbel.size
   by_cases hlt : k < ks.length
   ·have hro:=row_mod Hk.out (Mod.ofBelow hbel) (by simp)
    obtain ⟨g0,cap0,cur0,hv,-,-,-⟩:=row_some hro (by omega)
    cases hv
    have hpc:=row_piece handleC_len hro hlt 0 (handleC ks[k]) (fun j u hu => by rw [Nat.zero_add];exact hu)
    have hg0:=row_lt hro g0 rfl
    have hki : (k : Int) < (ks.length : Int):=by omega
    have hst:=undP_succ B n ks k hlt
    have hlowx:=Hlow'.out _ (List.getElem_mem hlt)
    have hl1:=Hplen.out (k + 1)
    have hl0:=Hplen.out k
    obtain ⟨A5,cap5,rfl,-,-⟩:=row_slice hown
    rw [hst,List.length_append,List.length_append] at hl1
    generalize undP B n ks k = M at *
    generalize ks[k] = x at *
    obtain ⟨c0,c1⟩:=x
    obtain ⟨w3,hw3,hb3,hz3,hs3⟩:=box1 wr (.cells #[.int .i64 c0,.int .i64 c1] 47)
    have hO3:=hown.alloc (.cells #[.int .i64 c0,.int .i64 c1] 47)
    rw [hw3] at hO3
    have hb03:=hbel.trans (hb3.mono hsz)
    have hvlt : ∀ y,(Value.slice A5 M.length cap5).ownBlock = some y → y < wr.heap.size:=row_lt hown
    obtain ⟨r0,r1,rl⟩:=cells2 hz3
    obtain ⟨HP,Hst,Hlowx,Hl1,Hl0,HO3,Hb03,Hs3,Hz3,Hvlt⟩:=hid10 hpc hst hlowx hl1 hl0 hO3 hb03 hs3 hz3 hvlt
    clear hpc hst hlowx hl1 hl0 hO3 hb03 hs3 hz3 hvlt
    clear hro hown hbel hb3
    go_wp2_with (first | (refine wpList_load_flat rfl 47 (.tmp 14) rfl _ rfl [.int .i64 c0,.int .i64 c1] _ Tryz.underlying47 rfl (by kernel_rfl) HP.out ?_) | (at_builtin;refine app_handleG rfl _ _ rfl w2.heap.size (.slice A5 M.length cap5) M (c0,c1) ⟨w3.heap.size,0,none⟩ 1 rfl (HO3.out.alloc _) rfl (new_rec (by simp) rfl) (by have:=Hl0.out;have:=Hlen.out;have:=HLB.out;omega) (by have:=Hb03.out.size;simp;omega) ?_;intro v5 w5 hown5 hg5;have hz5:=(grown_mod hg5).keep (blk_alloc Hz3.out _) (by intro e;have:=Hvlt.out _ (by simpa using e);omega);have z0:=blk_cell hz5 0;have z1:=blk_cell hz5 1;simp only [eA,eZ,eS] at z0 z1;have zl:=blk_lt hz5))
    have hb05 : Below w2.heap.size w2 w5:=(Hb03.out.alloc Hb03.out.size _).trans ((Below.refl _ _).grown hg5 (by have:=Hb03.out.size;simp;omega) (own_ge HO3.out))
    have h5:=H2.out.mod (Mod.ofBelow hb05) (by simp)
    obtain ⟨A55,cap55,rfl,-,-⟩:=row_slice hown5
    have H6:=Lib.hid (IH.out c0 c1 w5 Hlowx.out h5)
    obtain ⟨Hb05,Hown5⟩:=hid2 hb05 hown5
    clear hb05 hown5
    clear r0 r1 rl z0 z1 zl hz5 hg5 hw3 h5
    refine H6.out.mono ?_
    rintro e w6 ⟨v6,rfl,hown6,hb6⟩
    have hown56:=row_mod Hown5.out (Mod.ofBelow hb6) (by simp)
    have hb06:=Hb05.out.trans (hb6.mono Hb05.out.size)
    obtain ⟨Hown6,Hb06,Hown56⟩:=hid3 hown6 hb06 hown56
    clear hown6 hb06 hown56
    clear hb6
    go_wp2_with (at_builtin;refine app_list rfl _ _ rfl w2.heap.size w5.heap.size (.slice A55 (M ++ [(c0,c1)]).length cap55) _ (M ++ [(c0,c1)]) (underN B n (c0,c1)) (by rw [List.length_append,List.length_singleton];rfl) Hown56.out rfl Hown6.out (by have:=Hl1.out;have:=Hlen.out;have:=HLB.out;rw [List.length_append];omega) Hb06.out.size ?_;intro v7 w7 hown7 hg7)
    go_roundw
    case rel => exact ⟨k + 1,by omega,by go_num,by rw [Hst.out];exact hown7,Hb06.out.trans ((Below.refl _ _).grown hg7 Hb06.out.size (own_ge Hown56.out))⟩
    case measure => simp [Go.RowKit.intOf];omega
   ·obtain rfl : k = ks.length:=by omega
    rw [Hall.out] at hown
    have hBf:=HBw2.out.trans (hbel.mono HBw2.out.size)
    have hown:=row_base hown (B':=w.heap.size) (fun k hk => by have:=own_ge hown k hk;have:=HBw2.out.size;omega)
    obtain ⟨Hown,HBf⟩:=hid2 hown hBf
    clear hown hBf
    clear hbel
    go_wp2
    go_ret
    exact ⟨_,rfl,Hown.out,HBf.out⟩
end
end Go.Proofs.YtfdillpofciicaaGreatDoor
