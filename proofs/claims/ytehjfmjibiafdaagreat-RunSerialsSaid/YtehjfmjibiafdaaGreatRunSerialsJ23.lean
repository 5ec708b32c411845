import Derived.Test.YtehjfmjibiafdaaGreatRunSerialsJ22
import Derived.Test.YtehjfmjibiafdaaGreatRunSerialsJ20
/- A part of the proof that RunSerials returns true. -/
namespace Go.Proofs.YtehjfmjibiafdaaGreat
open Go Go.RowKit
theorem box2 (w : World) (o1 o2 : Obj) : ∃ w0,(w.alloc o1).alloc o2 = w0 ∧ Below w.heap.size w w0 ∧ w0.heap[w.heap.size]? = some o1 ∧ w0.heap[w.heap.size + 1]? = some o2 ∧ w0.heap.size = w.heap.size + 2 :=
 ⟨_,rfl,((Below.refl _ _).alloc (Nat.le_refl _) _).alloc (by simp) _,blk_alloc (MapKept.heap_alloc w o1).1 _,by have:=(MapKept.heap_alloc (w.alloc o1) o2).1;simpa using this,by simp⟩
theorem box1 (w : World) (o1 : Obj) : ∃ w0,w.alloc o1 = w0 ∧ Below w.heap.size w w0 ∧ w0.heap[w.heap.size]? = some o1 ∧ w0.heap.size = w.heap.size + 1 :=
 ⟨_,rfl,(Below.refl _ _).alloc (Nat.le_refl _) _,(MapKept.heap_alloc w o1).1,by simp⟩
theorem rep_fin {w w1 w8 w9 : World} {p : Nat} {sl : Sl} {L : List Rw} {F F' Z : List Nat} (hb : Below w.heap.size w w1) (hZ : ∀ z ∈ Z,w.heap.size ≤ z ∧ z < w1.heap.size) (hF : ∀ y ∈ F,y < w.heap.size) (h : RepW w8 p sl L F') (hT : Turns w1 F F' w8) (hm : Mod Z w8 w9) :
  RepW w9 p sl L F' ∧ Turns w F F' w9:=by
 refine ⟨h.mod hm (fun y hy e => ?_),(Turns.after hb hT).mod.trans hm (fun x hx => .inr (hZ x hx).1),(Turns.after hb hT).new⟩
 have:=hZ y e
 rcases hT.new y hy with h1 | h1
 ·have:=hF _ h1;omega
 ·omega
attribute [local go_sem] AllFrom.cons_eq AllFrom.nil_eq putF_nil putF_cons wantedL_none wantedL_some OpGoalT OpGoalV OpGoalQ OpGoalA YieldsR preF_nil preF_cons
section
variable {w : World} {p : Nat} {sl : Sl} {L : List Rw} {F : List Nat}
set_option maxRecDepth 20000 in
set_option maxHeartbeats 4000000 in
theorem spawn_bad (h : RepW w p sl L F) (K a0 a1 a2 a3 a4 a5 a6 a7 : Int) (hb : beastZ (K,a0,a1,a2,a3,a4,a5,a6,a7) ≠ 0) :
  Calls Tryz.prog 43 #[.pointer (some ⟨p,0,none⟩),.agg #[.int .i64 K,.int .i64 a0,.int .i64 a1,.int .i64 a2,.int .i64 a3,.int .i64 a4,.int .i64 a5,.int .i64 a6,.int .i64 a7]] w (WRet p sl L F w (.tuple #[.agg #[.int .i64 0,.int .i64 0],.int .i64 (beastZ (K,a0,a1,a2,a3,a4,a5,a6,a7))])):=by
 have h1:=fun w => checkBeast_any K a0 a1 a2 a3 a4 a5 a6 a7 w
 rw [show beastE K [a0,a1,a2,a3,a4,a5,a6,a7] = beastZ (K,a0,a1,a2,a3,a4,a5,a6,a7) from rfl] at h1
 generalize beastZ (K,a0,a1,a2,a3,a4,a5,a6,a7) = z at *
 have hq : (z != 0) = true:=by simpa using hb
 obtain ⟨w0,hw0,hb0,hz0,hz1,hs0⟩:=box2 w (.cells #[.int .i64 K,.int .i64 a0,.int .i64 a1,.int .i64 a2,.int .i64 a3,.int .i64 a4,.int .i64 a5,.int .i64 a6,.int .i64 a7] 50) (.cells #[.int .i64 0,.int .i64 0] 41)
 obtain ⟨q0,q1,q2,q3,q4,q5,q6,q7,q8,ql⟩:=cells9 hz0
 obtain ⟨H,H1,Hb0,Hz1,Hs0⟩:=hid5 h h1 hb0 hz1 hs0
 clear h h1 hb0 hz1 hs0
 clear hb hz0
 go_enter Tryz.func43,Tryz.ntmps43
 go_wp2_with fail
 clear hw0
 refine (H1.out _).mono ?_
 rintro e w1 ⟨rfl,hb1⟩
 have hy1:=(Mod.ofBelow hb1).keep Hz1.out (by simp)
 obtain ⟨r0,r1,rl⟩:=cells2 hy1
 have f0:=blk_free hy1 0
 have f1:=blk_free hy1 1
 have hb01:=Hb0.out.trans (hb1.mono Hb0.out.size)
 have hsz:=hb1.size
 have hs0:=Hs0.out
 have HFin:=Lib.hid (fun w9 (hm : Mod [w.heap.size + 1] w1 w9) => rep_fin hb01 (Z:=[w.heap.size + 1]) (by simp;omega) H.out.lt (H.out.below hb01) (Turns.refl _ _) hm)
 clear hb1 hb01 hy1 q0 q1 q2 q3 q4 q5 q6 q7 q8 ql hs0
 go_wp2
 refine bodyPost_ret (v:=.tuple #[.agg #[.int .i64 0,.int .i64 0],.int .i64 z]) (by unfold results;try go_simp) rfl ?_
 refine ⟨rfl,F,HFin.out _ ?_⟩
 repeat (refine Mod.setCell ?_ (.inl (by simp)) _)
 exact Mod.refl _ _
set_option maxRecDepth 20000 in
set_option maxHeartbeats 4000000 in
theorem spawn_full (h : RepW w p sl L F) (K a0 a1 a2 a3 a4 a5 a6 a7 : Int) (hb : beastZ (K,a0,a1,a2,a3,a4,a5,a6,a7) = 0) (ht : takeE sl ≠ 0) :
  Calls Tryz.prog 43 #[.pointer (some ⟨p,0,none⟩),.agg #[.int .i64 K,.int .i64 a0,.int .i64 a1,.int .i64 a2,.int .i64 a3,.int .i64 a4,.int .i64 a5,.int .i64 a6,.int .i64 a7]] w (WRet p (takeL sl) L F w (.tuple #[.agg #[.int .i64 (takeK sl),.int .i64 (takeG sl)],.int .i64 (takeE sl)])):=by
 have h1:=fun w => checkBeast_any K a0 a1 a2 a3 a4 a5 a6 a7 w
 rw [show beastE K [a0,a1,a2,a3,a4,a5,a6,a7] = beastZ (K,a0,a1,a2,a3,a4,a5,a6,a7) from rfl,hb] at h1
 have hq : (takeE sl == 0) = false:=by simpa using ht
 have htl : takeL sl = sl:=by
  unfold takeE at ht;unfold takeL
  cases hf : sl.findIdx? freeB with
  | some k => rw [hf] at ht;simp at ht
  | none =>
   rw [hf] at ht
   simp only at ht ⊢
   by_cases h60 : sl.length = 60
   ·rw [if_pos h60]
   ·rw [if_neg h60] at ht;simp at ht
 obtain ⟨w0,hw0,hb0,hz0,hz1,hs0⟩:=box2 w (.cells #[.int .i64 K,.int .i64 a0,.int .i64 a1,.int .i64 a2,.int .i64 a3,.int .i64 a4,.int .i64 a5,.int .i64 a6,.int .i64 a7] 50) (.cells #[.int .i64 0,.int .i64 0] 41)
 obtain ⟨q0,q1,q2,q3,q4,q5,q6,q7,q8,ql⟩:=cells9 hz0
 have hFlt:=h.lt
 obtain ⟨ps,mt,mp,tb,rw,pl,FS,Fs,c,hW,hC,hO,rfl⟩:=h
 obtain ⟨HW,HC,HO,H1,Hb0,Hz1,Hs0,Htl,HFlt⟩:=hid9 hW hC hO h1 hb0 hz1 hs0 htl hFlt
 clear hW hC hO h1 hb0 hz1 hs0 htl hFlt
 clear hb hz0 ht
 go_enter Tryz.func43,Tryz.ntmps43
 go_wp2_with fail
 clear hw0
 refine (H1.out _).mono ?_
 rintro e w1 ⟨rfl,hb1⟩
 have hb01:=Hb0.out.trans (hb1.mono Hb0.out.size)
 have hW1:=HW.out.below hb01
 have e0:=blk_cell hW1.blk 0
 simp only [eA,eZ,eS] at e0
 have hpl:=blk_lt hW1.blk
 have hy1:=(Mod.ofBelow hb1).keep Hz1.out (by simp)
 have H2:=Lib.hid (take_any ps sl FS w1 hW1.sl HO.out.ok)
 obtain ⟨Hb01,HW1,Hy1⟩:=hid3 hb01 hW1 hy1
 clear hb01 hW1 hy1
 clear hb1 q0 q1 q2 q3 q4 q5 q6 q7 q8 ql
 go_wp2_with fail
 refine H2.out.mono ?_
 rintro e w2 ⟨rfl,F2,hs2,hT2⟩
 obtain ⟨hW2,hT⟩:=HW1.out.turnSl hs2 hT2
 have hFS : ∀ y,w.heap.size ≤ y → y ∉ FS:=fun y hy e => by have:=HFlt.out y (mem_wF.2 (.inr (.inr (.inr (.inl e)))));omega
 have hy2:=hT2.mod.keep Hy1.out (hFS _ (by omega))
 obtain ⟨r0,r1,rl⟩:=cells2 hy2
 have f0:=blk_free hy2 0
 have f1:=blk_free hy2 1
 have hs0:=Hs0.out
 have hb:=Hb01.out
 have hl1:=blk_lt Hy1.out
 rw [Htl.out] at hW2
 have HFin:=Lib.hid (fun w9 (hm : Mod [w.heap.size + 1] w2 w9) => rep_fin hb (Z:=[w.heap.size + 1]) (by simp;omega) HFlt.out ⟨ps,mt,mp,tb,rw,pl,F2,Fs,_,hW2,HC.out,HO.out,rfl⟩ hT hm)
 clear hs2 hT2 hW2 hT hFS hy2 e0 hs0 hb
 go_wp2
 refine bodyPost_ret (v:=.tuple #[.agg #[.int .i64 (takeK sl),.int .i64 (takeG sl)],.int .i64 (takeE sl)]) (by unfold results;try go_simp) rfl ?_
 rw [Htl.out]
 refine ⟨rfl,_,HFin.out _ ?_⟩
 refine Mod.alloc ?_ _
 repeat (refine Mod.setCell ?_ (.inl (by simp)) _)
 exact Mod.refl _ _
set_option maxRecDepth 20000 in
set_option maxHeartbeats 4000000 in
theorem spawn_ok (h : RepW w p sl L F) (K a0 a1 a2 a3 a4 a5 a6 a7 : Int) (hb : beastZ (K,a0,a1,a2,a3,a4,a5,a6,a7) = 0) (ht : takeE sl = 0) :
  Calls Tryz.prog 43 #[.pointer (some ⟨p,0,none⟩),.agg #[.int .i64 K,.int .i64 a0,.int .i64 a1,.int .i64 a2,.int .i64 a3,.int .i64 a4,.int .i64 a5,.int .i64 a6,.int .i64 a7]] w (WRet p (takeL sl) (insR L ((takeK sl,takeG sl),K,a0,a1,a2,a3,a4,a5,a6,a7)) F w (.tuple #[.agg #[.int .i64 (takeK sl),.int .i64 (takeG sl)],.int .i64 0])):=by
 have h1:=fun w => checkBeast_any K a0 a1 a2 a3 a4 a5 a6 a7 w
 rw [show beastE K [a0,a1,a2,a3,a4,a5,a6,a7] = beastZ (K,a0,a1,a2,a3,a4,a5,a6,a7) from rfl,hb] at h1
 obtain ⟨w0,hw0,hb0,hz0,hz1,hs0⟩:=box2 w (.cells #[.int .i64 K,.int .i64 a0,.int .i64 a1,.int .i64 a2,.int .i64 a3,.int .i64 a4,.int .i64 a5,.int .i64 a6,.int .i64 a7] 50) (.cells #[.int .i64 0,.int .i64 0] 41)
 obtain ⟨q0,q1,q2,q3,q4,q5,q6,q7,q8,ql⟩:=cells9 hz0
 have hFlt:=h.lt
 obtain ⟨ps,mt,mp,tb,rw,pl,FS,Fs,c,hW,hC,hO,rfl⟩:=h
 obtain ⟨k,hk60,hk,hkn,-⟩:=take_spec hO.ok ht
 have hTk:=take_any ps sl FS
 unfold TakePost at hTk
 rw [ht,hk] at hTk
 rw [hk]
 have hO2:=hO.spawn ht hb
 rw [hk] at hO2
 generalize takeK sl = tk at *
 generalize takeG sl = tg at *
 obtain ⟨HW,HC,HO,H1,Hb0,Hz0,Hz1,Hs0,HFlt,HTk,HO2,Hkn,Hb,Hk60⟩:=hid14 hW hC hO h1 hb0 hz0 hz1 hs0 hFlt hTk hO2 hkn hb hk60
 clear hW hC hO h1 hb0 hz0 hz1 hs0 hFlt hTk hO2 hkn hb hk60
 clear ht hk
 go_enter Tryz.func43,Tryz.ntmps43
 go_wp2_with fail
 clear hw0
 refine (H1.out _).mono ?_
 rintro e w1 ⟨rfl,hb1⟩
 have hb01:=Hb0.out.trans (hb1.mono Hb0.out.size)
 have hW1:=HW.out.below hb01
 have e0:=blk_cell hW1.blk 0
 simp only [eA,eZ,eS] at e0
 have hpl:=blk_lt hW1.blk
 have hy0:=(Mod.ofBelow hb1).keep Hz0.out (by simp)
 have hy1:=(Mod.ofBelow hb1).keep Hz1.out (by simp)
 have H2:=Lib.hid (HTk.out w1 hW1.sl HO.out.ok)
 have hsz01 : w0.heap.size ≤ w1.heap.size:=hb1.size
 obtain ⟨Hb01,HW1,Hy0,Hy1⟩:=hid4 hb01 hW1 hy0 hy1
 clear hb01 hW1 hy0 hy1
 clear hb1 q0 q1 q2 q3 q4 q5 q6 q7 q8 ql
 go_wp2_with fail
 refine H2.out.mono ?_
 rintro e w2 ⟨rfl,F2,hs2,hT2⟩
 obtain ⟨hW2,hT⟩:=HW1.out.turnSl hs2 hT2
 have hFS : ∀ y,w.heap.size ≤ y → y ∉ FS:=fun y hy e => by have:=HFlt.out y (mem_wF.2 (.inr (.inr (.inr (.inl e)))));omega
 obtain ⟨w3,hw3,hb3,hx3,hs3⟩:=box1 w2 (.cells #[.int .i64 (k : Int),.int .i64 tg] 41)
 have hy2:=(Mod.ofBelow hb3).keep (hT2.mod.keep Hy0.out (hFS _ (by omega))) (by simp)
 have hy3:=(Mod.ofBelow hb3).keep (hT2.mod.keep Hy1.out (hFS _ (by omega))) (by simp)
 obtain ⟨q0,q1,q2,q3,q4,q5,q6,q7,q8,ql⟩:=cells9 hy2
 obtain ⟨r0,r1,rl⟩:=cells2 hx3
 have hT3:=hT.below hb3
 have hW3:=hW2.below hb3
 have H4:=Lib.hid (lay_core (L:=L) hW3 HC.out (fun y hy => hy) HO.out.len k (by have:=Hk60.out;omega) tg K a0 a1 a2 a3 a4 a5 a6 a7 Hb.out (fun y hy e => Hkn.out y.1 (by rw [← HO.out.hs];exact List.mem_map.2 ⟨y,hy,rfl⟩) e))
 have hlw:=hW2.lt
 have hsz12 : w1.heap.size ≤ w2.heap.size:=hT2.mod.size
 obtain ⟨HT3,HW3,Hx3,Hy3,Hlw,Hs3⟩:=hid6 hT3 hW3 hx3 hy3 hlw hs3
 clear hT3 hW3 hx3 hy3 hlw hs3
 clear hs2 hT2 hW2 hT hFS hy2 e0 hb3
 go_wp2_with fail
 clear hw3
 refine H4.out.mono ?_
 rintro e w4 ⟨rfl,tb4,rw4,pl4,FS4,Fs4,c4,hW4,hC4,hT4⟩
 have hno : ∀ y,y ∈ wF p mt mp tb F2 Fs → (w.heap.size ≤ y ∧ y < w1.heap.size → False):=fun y hy ⟨e1,e2⟩ => by
  rcases HT3.out.new y hy with h1 | h1
  ·have:=HFlt.out y h1;omega
  ·omega
 have hs0:=Hs0.out
 have hl1:=blk_lt Hy1.out
 have hx4:=hT4.mod.keep Hx3.out (fun e => by have:=Hlw.out _ e;omega)
 have hy4:=hT4.mod.keep Hy3.out (fun e => hno _ e ⟨by omega,by omega⟩)
 obtain ⟨r0,r1,rl⟩:=cells2 hx4
 obtain ⟨u0,u1,ul⟩:=cells2 hy4
 have f0:=blk_free hy4 0
 have f1:=blk_free hy4 1
 have hsw2 : w0.heap.size ≤ w2.heap.size:=by omega
 have n1 : w2.heap.size ≠ w.heap.size + 1:=by omega
 have n2 : w.heap.size + 1 ≠ w2.heap.size:=by omega
 have hR4 : RepW w4 p (takeL sl) (insR L (((k : Int),tg),K,a0,a1,a2,a3,a4,a5,a6,a7)) (wF p mt mp tb4 FS4 Fs4):=⟨ps,mt,mp,tb4,rw4,pl4,FS4,Fs4,c4,hW4,hC4.congr (fun x => mem_insR.symm),HO2.out,rfl⟩
 have hb:=Hb01.out
 have HFin:=Lib.hid (fun w9 (hm : Mod [w.heap.size + 1] w4 w9) => rep_fin hb (Z:=[w.heap.size + 1]) (by simp;omega) HFlt.out hR4 (HT3.out.trans hT4) hm)
 clear hW4 hC4 hT4 hno hx4 hy4 hs0 hR4 hb q0 q1 q2 q3 q4 q5 q6 q7 q8 ql
 go_wp2
 refine bodyPost_ret (v:=.tuple #[.agg #[.int .i64 (k : Int),.int .i64 tg],.int .i64 0]) (by unfold results;try go_simp) rfl ?_
 refine ⟨rfl,_,HFin.out _ ?_⟩
 repeat (refine Mod.setCell ?_ (.inl (by simp)) _)
 exact Mod.refl _ _
end
end Go.Proofs.YtehjfmjibiafdaaGreat
namespace Go.Proofs.YtehjfmjibiafdaaGreat
open Go Go.RowKit
variable {vB : Value}
attribute [local go_sem] AllFrom.cons_eq AllFrom.nil_eq putF_nil putF_cons wantedL_none wantedL_some OpGoalT OpGoalV OpGoalQ YieldsR preF_nil preF_cons
set_option maxRecDepth 20000 in
set_option maxHeartbeats 2000000 in
theorem kill1_any (s1 g1 K a0 a1 a2 a3 a4 a5 a6 a7 s g : Int) (b : Nat) (w : World) (h0 : w.cell? ⟨b,0,none⟩ = some (.int .i64 s)) (h1 : w.cell? ⟨b,1,none⟩ = some (.int .i64 g)) (hb : b < w.heap.size) :
  Calls Tryz.prog 106 #[.agg #[.int .i64 s1,.int .i64 g1,.int .i64 K,.int .i64 a0,.int .i64 a1,.int .i64 a2,.int .i64 a3,.int .i64 a4,.int .i64 a5,.int .i64 a6,.int .i64 a7],.pointer (some ⟨b,0,none⟩)] w (fun e w' => e = .returned (.bool (eqB (s1,g1) (s,g))) ∧ Below w.heap.size w w'):=by
 have he:=fun w => eqlHandle w s1 g1 s g
 generalize eqB (s1,g1) (s,g) = r at *
 have hB : ∀ o,Below w.heap.size w (w.alloc o):=fun o => (Below.refl _ _).alloc (Nat.le_refl _) o
 go_enter Tryz.func106,Tryz.ntmps106
 go_wp2
 go_ret
 exact ⟨rfl,hB _⟩
theorem app_row {w : World} {ops : Array Oper} {rest : List Oper} {o : Oper} {a : Act} {Q : Exit → Act → World → Prop} (hgd : o.guard = none) (s x : Operand)
  (ho : o.op = .call { callee:=.builtin .append,args:=#[s,x],argTypes:=#[23,23] }) (base : Nat) (v : Value) (l : List Rw) (y : Rw) (ad : Addr) (c : Nat)
  (hs : a.eval s = v) (hown : w.ownsRow base 69 11 v l.length (l.flatMap rwC)) (hx : a.eval x = .slice (some ad) 1 c) (hc : ∀ j u,(rwC y)[j]? = some u → w.cell? (ad.add j) = some u)
  (hlen : l.length < 1200000000000) (hbase : base ≤ w.heap.size)
  (h : ∀ v' w',w'.ownsRow base 69 11 v' (l ++ [y]).length ((l ++ [y]).flatMap rwC) → Below base w w' → wpList Tryz.prog ops Q rest (a.put o.dst v') w') : wpList Tryz.prog ops Q (o :: rest) a w:=by
 refine app_rec (enc:=rwC) (n:=11) (z:=.agg (ints zero11).toArray) (bytes:=88) hgd s x 23 69 ho Tryz.underlying23 inf_Row rfl (by omega) (by omega) rwC_one rwC_len base v l y ad c hs hown hx hc (by omega) hbase ?_
 intro v' w' h1 h2 _
 exact h v' w' h1 ((Below.refl base w).grown h2 hbase (own_ge hown))
set_option maxRecDepth 20000 in
set_option maxHeartbeats 4000000 in
theorem without_any {w : World} {L : List Rw} {A : Option Addr} {cap : Nat} (hrow : w.ownsRow 0 69 11 (.slice A L.length cap) L.length (L.flatMap rwC)) (hl : L.length ≤ 1200000000000) (s g : Int) (b : Nat) (h0 : w.heap[b]? = some (.cells #[.int .i64 s,.int .i64 g] 41 (0,0))) :
  Calls Tryz.prog 66 #[.slice A L.length cap,.func (.func 106) #[] #[.pointer (some ⟨b,0,none⟩)]] w (MadeR 69 11 rwC (killL L (s,g)) w):=by
 have hle : L.length ≤ 9223372036854775807:=by omega
 have hbl:=blk_lt h0
 have HLL:=Lib.hid hl
 clear hl
 go_enter Tryz.func66,Tryz.ntmps66
 go_wp2
 go_loopw [5,10] (fun v i wr => ∃ n : Nat,n ≤ L.length ∧ i = .int .i64 n ∧ wr.ownsRow w.heap.size 69 11 v (killL (L.take n) (s,g)).length ((killL (L.take n) (s,g)).flatMap rwC) ∧ Below w.heap.size w wr) (fun _ i _ => L.length - (Go.RowKit.intOf i).toNat)
 case atStart => exact ⟨0,by omega,rfl,⟨rfl,.inl ⟨rfl,rfl⟩⟩,Below.refl _ _⟩
 case round =>
  obtain ⟨n,hn,rfl,hown,hbel⟩:=hrel
  have hsz:=hbel.size
  by_cases hlt : n < L.length
  ·have hro : wr.ownsRow 0 69 11 (.slice A L.length cap) L.length (L.flatMap rwC):=row_mod hrow (Mod.ofBelow hbel) (by simp)
   obtain ⟨g0,cap0,cur0,hv,-,-,-⟩:=row_some hro (by omega)
   cases hv
   have hpc:=row_piece rwC_len hro hlt 0 (rwC L[n]) (fun j u hu => by rw [Nat.zero_add];exact hu)
   have hst : killL (L.take (n + 1)) (s,g) = killL (L.take n) (s,g) ++ (if L[n].1 = (s,g) then [] else [L[n]]):=by
    unfold killL
    rw [take_succ_get L n hlt,List.filter_append,List.filter_cons]
    by_cases e : L[n].1 = (s,g) <;> simp [e]
   have hlen : (killL (L.take n) (s,g)).length ≤ n:=by
    have h1 : (killL (L.take n) (s,g)).length ≤ (L.take n).length:=List.length_filter_le _ _
    rw [List.length_take] at h1;omega
   have hg0:=row_lt hro g0 rfl
   have hni : (n : Int) < (L.length : Int):=by omega
   generalize killL (L.take n) (s,g) = M at *
   obtain ⟨x,hx⟩ : ∃ x,L[n] = x:=⟨_,rfl⟩
   rw [hx] at hpc hst
   obtain ⟨⟨s1,g1⟩,K,a0,a1,a2,a3,a4,a5,a6,a7⟩:=x
   have hbz:=(Mod.ofBelow hbel).keep h0 (by simp)
   obtain ⟨w3,hw3,hb3,hz3,hs3⟩:=box1 wr (.cells #[.int .i64 s1,.int .i64 g1,.int .i64 K,.int .i64 a0,.int .i64 a1,.int .i64 a2,.int .i64 a3,.int .i64 a4,.int .i64 a5,.int .i64 a6,.int .i64 a7] 69)
   have hO3:=hown.alloc (.cells #[.int .i64 s1,.int .i64 g1,.int .i64 K,.int .i64 a0,.int .i64 a1,.int .i64 a2,.int .i64 a3,.int .i64 a4,.int .i64 a5,.int .i64 a6,.int .i64 a7] 69)
   rw [hw3] at hO3
   have hb03:=hbel.trans (hb3.mono hsz)
   have hbz3:=(Mod.ofBelow hb3).keep hbz (by simp)
   have hk1:=kill1_any s1 g1 K a0 a1 a2 a3 a4 a5 a6 a7 s g b w3 (by rw [blk_cell hbz3];rfl) (by rw [blk_cell hbz3];rfl) (blk_lt hbz3)
   have hl3 : wr.heap.size < w3.heap.size:=by omega
   obtain ⟨r0,r1,r2,r3,r4,r5,r6,r7,r8,r9,r10,rl⟩:=cells11 hz3
   obtain ⟨HP,Hst,Hlen,Hown,Hbel,HO3,Hb03,Hk,Hs3,Hz3,Hw3,H0,Hrow⟩:=hid13 hpc hst hlen hown hbel hO3 hb03 hk1 hs3 hz3 hw3 h0 hrow
   clear hpc hst hlen hown hbel hO3 hb03 hk1 hs3 hz3 hw3 h0 hrow
   clear hro hx hbz hbz3 hb3
   have HO:=Lib.hid (rwC_one ((s1,g1),K,a0,a1,a2,a3,a4,a5,a6,a7))
   go_wp2_with (first | (refine wpList_load_flat rfl 69 (.tmp 12) rfl _ rfl [.int .i64 s1,.int .i64 g1,.int .i64 K,.int .i64 a0,.int .i64 a1,.int .i64 a2,.int .i64 a3,.int .i64 a4,.int .i64 a5,.int .i64 a6,.int .i64 a7] _ Tryz.underlying69 rfl (by kernel_rfl) HP.out ?_) | (refine wpList_store_new rfl 69 (.tmp 7) (.tmp 13) rfl wr (ints zero11) [.int .i64 s1,.int .i64 g1,.int .i64 K,.int .i64 a0,.int .i64 a1,.int .i64 a2,.int .i64 a3,.int .i64 a4,.int .i64 a5,.int .i64 a6,.int .i64 a7] 69 rfl rfl rfl (sz_Row ((s1,g1),K,a0,a1,a2,a3,a4,a5,a6,a7)) HO.out ?_;rw [show ([.int .i64 s1,.int .i64 g1,.int .i64 K,.int .i64 a0,.int .i64 a1,.int .i64 a2,.int .i64 a3,.int .i64 a4,.int .i64 a5,.int .i64 a6,.int .i64 a7] : List Value).toArray = #[.int .i64 s1,.int .i64 g1,.int .i64 K,.int .i64 a0,.int .i64 a1,.int .i64 a2,.int .i64 a3,.int .i64 a4,.int .i64 a5,.int .i64 a6,.int .i64 a7] from rfl,Hw3.out];clear HO))
   refine Hk.out.mono ?_
   rintro e w4 ⟨rfl,hb4⟩
   have hz4:=(Mod.ofBelow hb4).keep Hz3.out (by simp)
   have hs4:=hb4.size
   have hs3:=Hs3.out
   have hO4:=row_mod HO3.out (Mod.ofBelow hb4) (by simp)
   have hb04:=Hb03.out.trans (hb4.mono Hb03.out.size)
   have hbs:=Hb03.out.size
   cases hr : eqB (s1,g1) (s,g) with
   | true =>
    have hst:=Hst.out
    rw [if_pos (by simpa [eqB] using hr),List.append_nil] at hst
    obtain ⟨Hst2,HO4,Hbel4,Hz4,Hs4,Hbs,Hr⟩:=hid7 hst hO4 hb04 hz4 hs4 hbs hr
    clear hst hO4 hb04 hz4 hs4 hbs hr
    clear hs3 hb4 r0 r1 r2 r3 r4 r5 r6 r7 r8 r9 r10 rl
    go_wp2
    go_roundw
    case rel => exact ⟨n + 1,by omega,by go_num,by rw [Hst2.out];exact HO4.out,Hbel4.out⟩
    case measure => simp [Go.RowKit.intOf];omega
   | false =>
    have hst:=Hst.out
    rw [if_neg (by simpa [eqB] using hr)] at hst
    clear r0 r1 r2 r3 r4 r5 r6 r7 r8 r9 r10 rl
    obtain ⟨r0,r1,r2,r3,r4,r5,r6,r7,r8,r9,r10,rl⟩:=cells11 hz4
    obtain ⟨Hst2,Hown4,Hbel4,Hs4,Hbs,Hr⟩:=hid6 hst hO4 hb04 hs4 hbs hr
    clear hst hO4 hb04 hs4 hbs hr
    clear hb4 hz4 hs3
    go_wp2_with (at_builtin;(refine app_row rfl _ _ rfl w.heap.size _ M ((s1,g1),K,a0,a1,a2,a3,a4,a5,a6,a7) ⟨w4.heap.size,0,none⟩ 1 rfl (Hown4.out.alloc _) rfl (new_rec (by simp) rfl) (by have:=HLL.out;have:=Hlen.out;omega) (by have:=Hbel4.out.size;simp;omega) ?_);intro v' w5 hown5 hb5)
    go_roundw
    case rel => exact ⟨n + 1,by omega,by go_num,by rw [Hst2.out];exact hown5,(Hbel4.out.alloc Hbel4.out.size _).trans hb5⟩
    case measure => simp [Go.RowKit.intOf];omega
  ·obtain rfl : n = L.length:=by omega
   rw [List.take_length] at hown
   obtain ⟨Hown,Hbel⟩:=hid2 hown hbel
   clear hown hbel
   clear hrow h0
   go_wp2
   go_ret
   exact ⟨_,rfl,Hown.out,Hbel.out⟩
end Go.Proofs.YtehjfmjibiafdaaGreat
namespace Go.Proofs.YtehjfmjibiafdaaGreat
open Go Go.RowKit
variable {vB : Value}
attribute [local go_sem] AllFrom.cons_eq AllFrom.nil_eq putF_nil putF_cons wantedL_none wantedL_some OpGoalT OpGoalV OpGoalQ YieldsR preF_nil preF_cons
def ZRet (vB : Value) (q : Nat) (sl : Sl) (L : List Rw) (F : List Nat) (w : World) (r : Value) (e : Ending) (w' : World) : Prop:=e = .returned r ∧ ∃ F',RepZ vB w' q sl L F' ∧ Turns w F F' w'
section
variable {w w1 : World} {q : Nat} {sl : Sl} {L L' : List Rw} {F : List Nat} {v : Value}
theorem RepZ.nodup (h : RepZ vB w q sl L F) : F.Nodup:=by
 obtain ⟨_,_,_,_,_,hn⟩:=h
 exact hn
theorem RepZ.turn (h : RepZ vB w q sl L F) (hb : Below w.heap.size w w1) (hown : w1.ownsRow w.heap.size 69 11 v L'.length (L'.flatMap rwC)) :
  ∃ FS,RepZS v vB (w1.setCell ⟨q,2,none⟩ v) q sl FS ∧ (w1.setCell ⟨q,2,none⟩ v).ownsRow w.heap.size 69 11 v L'.length (L'.flatMap rwC) ∧ (∀ k ∈ FS,k ∈ F ∧ k < w.heap.size) ∧ FS.Nodup ∧ Turns w F (FS ++ v.ownBlock.toList) (w1.setCell ⟨q,2,none⟩ v) ∧ RepZ vB (w1.setCell ⟨q,2,none⟩ v) q sl L' (FS ++ v.ownBlock.toList):=by
 have hlt:=h.lt
 obtain ⟨vL,FS,h1,h2,rfl,h3⟩:=h
 have hq : q ∈ FS:=by obtain ⟨_,_,_,_,_,rfl,_⟩:=h1;simp
 have hn : FS.Nodup:=(List.nodup_append.1 h3).1
 have hFl : ∀ k ∈ FS,k < w.heap.size:=fun k hk => hlt k (by simp [hk])
 have hvl : ∀ k,v.ownBlock = some k → w.heap.size ≤ k:=fun k hk => (hown.lt k hk).1
 have hM : Mod [q] w1 (w1.setCell ⟨q,2,none⟩ v):=(Mod.refl _ _).setCell (.inl (by simp)) v
 have hz:=h1.turnL (vL':=v) (Mod.ofBelow hb) (by simp)
 have ho:=row_mod hown hM (fun k hk e => by have:=hvl k hk;have:=hFl q hq;simp at e;omega)
 have hT : Turns w (FS ++ vL.ownBlock.toList) (FS ++ v.ownBlock.toList) (w1.setCell ⟨q,2,none⟩ v):=by
  refine ⟨((Mod.ofBelow hb).mono (by simp)).setCell (.inl (by simp [hq])) v,fun k hk => ?_⟩
  rcases List.mem_append.1 hk with hk | hk
  ·exact .inl (by simp [hk])
  ·exact .inr (hvl k (by simpa using hk))
 refine ⟨FS,hz,ho,fun k hk => ⟨by simp [hk],hFl k hk⟩,hn,hT,v,FS,hz,row_base ho (by omega),rfl,?_⟩
 rw [List.nodup_append]
 refine ⟨hn,by cases v.ownBlock <;> simp,fun a ha b hb' e => ?_⟩
 subst e
 have:=hFl a ha
 have:=hvl a (by simpa using hb')
 omega
theorem killLz_none {h : Hd} (hi : idxL L h = none) : killL L h = L:=by
 unfold killL
 rw [List.filter_eq_self]
 intro x hx
 have:=idx_none hi x hx
 simpa using this
theorem freeL_deadR {s g : Int} (h : liveB sl s g = false) : freeL sl s g = sl:=by unfold freeL;rw [h];rfl
theorem freeE_live {s g : Int} (h : liveB sl s g = true) : freeE sl s g = 0:=by unfold freeE;rw [h];rfl
theorem killE_none {h : Hd} (hi : idxL L h = none) : killE L h = 7:=by unfold killE;rw [hi]
theorem killE_some {h : Hd} {i : Nat} (hi : idxL L h = some i) : killE L h = 0:=by unfold killE;rw [hi]
set_option maxRecDepth 20000 in
set_option maxHeartbeats 4000000 in
theorem zkill_any (h : RepZ vB w q sl L F) (hO : WOk sl L) (s g : Int) :
  Calls Tryz.prog 53 #[.pointer (some ⟨q,0,none⟩),.agg #[.int .i64 s,.int .i64 g]] w (ZRet vB q (freeL sl s g) (killL L (s,g)) F w (.int .i64 (killE L (s,g)))):=by
 obtain ⟨w0,hw0,hb0,hz0,hs0⟩:=box1 w (.cells #[.int .i64 s,.int .i64 g] 41)
 have hl:=hO.len
 have h1:=at_any (h.below hb0) hl s g
 obtain ⟨q0,q1,ql⟩:=cells2 hz0
 rcases hO.idx s g with ⟨hv,i,hi⟩ | ⟨hv,hi⟩
 ·rw [killE_some hi]
  rw [atI_some hi] at h1
  have hin : (decide ((i : Int) < 0)) = false:=by simp
  have hmf : ∀ (fn : Fn) (first cap : Array Value) (w : World),(Instr.makeFunc fn first cap).run Tryz.prog w = .ok (.func fn first cap) w:=fun _ _ _ _ => rfl
  obtain ⟨vg,vl,A,cap,hq,hrow⟩:=h.open_
  obtain ⟨H,H1,Hb,Hz,HS,Hq,Hrow,HO,Hv⟩:=hid9 h h1 hb0 hz0 hs0 hq hrow hO hv
  clear h h1 hb0 hz0 hs0 hq hrow hO hv
  clear hi
  go_enter Tryz.func53,Tryz.ntmps53
  go_wp2_with fail
  clear hw0
  refine H1.out.mono ?_
  rintro e w1 ⟨rfl,hb1⟩
  have hb01 : Below w.heap.size w w1:=Hb.out.trans (hb1.mono Hb.out.size)
  have hy1:=(Mod.ofBelow hb1).keep Hz.out (by simp)
  have hq1:=(Mod.ofBelow hb01).keep Hq.out (by simp)
  have c2:=blk_cell hq1 2
  simp only [eA,eZ,eS] at c2
  have hql:=blk_lt hq1
  have h2:=without_any (row_mod Hrow.out (Mod.ofBelow hb01) (by simp)) (by omega) s g w.heap.size hy1
  clear q0 q1 ql
  obtain ⟨q0,q1,ql⟩:=cells2 hy1
  obtain ⟨Hb1,Hy1,H2⟩:=hid3 hb01 hy1 h2
  clear hb01 hy1 h2
  clear hb1 hq1
  go_wp2_with fail
  refine H2.out.mono ?_
  rintro e w2 ⟨v,rfl,hown,hb2⟩
  obtain ⟨A2,cap2,hv2,-,-⟩:=row_slice hown
  have hb02 : Below w.heap.size w w2:=Hb1.out.trans (hb2.mono Hb1.out.size)
  obtain ⟨FS,hz,ho,hFl,hn,hT,hR⟩:=RepZ.turn H.out hb02 (row_base hown (B':=w.heap.size) (fun k hk => by have:=(hown.lt k hk).1;have:=Hb1.out.size;omega))
  have hq2:=(Mod.ofBelow hb02).keep Hq.out (by simp)
  have hy2:=(Mod.ofBelow hb2).keep Hy1.out (by simp)
  have hqw : q < w.heap.size:=blk_lt Hq.out
  subst hv2
  obtain ⟨v,hv2⟩ : ∃ v,v = Value.slice A2 (killL L (s,g)).length cap2:=⟨_,rfl⟩
  rw [← hv2] at hown hz ho hT hR
  obtain ⟨w3,hw3⟩ : ∃ w3,(w2.setCell ⟨q,2,none⟩ v).drew = w3:=⟨_,rfl⟩
  have hM : Mod [q] w2 w3:=by rw [← hw3];exact ((Mod.refl _ _).setCell (.inl (by simp)) v).drew
  have hy3:=hM.keep hy2 (by simp;omega)
  have hB3 : Below (w2.setCell ⟨q,2,none⟩ v).heap.size (w2.setCell ⟨q,2,none⟩ v) w3:=by rw [← hw3];exact below_drew
  have hz3:=hz.mod (Mod.ofBelow hB3) (by simp)
  have ho3:=row_mod ho (Mod.ofBelow hB3) (by simp)
  have hT3:=hT.below hB3
  have h3:=zfree_any q sl FS s g w3 hz3 HO.out.ok
  have c2:=blk_cell hq2 2
  simp only [eA,eZ,eS] at c2
  have f2:=blk_free hq2 2
  have hql:=blk_lt hq2
  clear q0 q1 ql
  have hqn : q ≠ w.heap.size:=by omega
  have hnq : w.heap.size ≠ q:=by omega
  obtain ⟨q0,q1,ql⟩:=cells2 hy2
  have Hown:=Lib.hid hown;have Hb2:=Lib.hid hb2;have Hb02:=Lib.hid hb02;have HZ:=Lib.hid hz;have Ho:=Lib.hid ho;have HFl:=Lib.hid hFl;have Hn:=Lib.hid hn;have HT:=Lib.hid hT;have HR:=Lib.hid hR;have Hw3:=Lib.hid hw3;have HM:=Lib.hid hM;have Hy3:=Lib.hid hy3;have HZ3:=Lib.hid hz3;have Ho3:=Lib.hid ho3;have HT3:=Lib.hid hT3;have H3:=Lib.hid h3;have Hv2:=Lib.hid hv2
  clear hown hb2 hb02 hz ho hFl hn hT hR hw3 hM hy3 hz3 ho3 hT3 h3 hv2
  clear hq2 hy2 hB3
  go_wp2_with fail
  refine wp_planR 4 [0] [some 18,some 19,some 20,some 21,some 22,some 4] [[],[0],[0,1],[],[0,1,2,3],[0,1,2,3,4]] [0,1,2,3] mixed rfl (by kernel_rfl) (by decide) (by decide) rfl ?_
  iterate 4 apply Exists.intro
  refine ⟨rfl,?_,?_⟩
  ·simp only [tS,List.take_zero,AllFrom.cons_eq,AllFrom.nil_eq,OpGoalQ]
   refine ⟨?_,?_,?_,?_,trivial⟩
   all_goals (intro σ hp;(try simp only [gZ,gS,mC,mN,preF_cons,preF_nil,isV,and_true] at hp);(first | (have hq : True:=hp;clear hq hp) | skip))
   all_goals (go_simp;exact ⟨rfl,rfl⟩)
  intro σ hp
  simp only [gZ,gS,mC,mN,preF_cons,preF_nil,isV,and_true] at hp
  simp only [dS,List.drop_zero]
  go_simp
  clear hp
  rw [← Hv2.out,Hw3.out]
  go_wp2_with fail
  refine H3.out.mono ?_
  rintro e w4 ⟨rfl,hz4,hm4⟩
  obtain ⟨HZ4,HM4⟩:=hid2 hz4 hm4
  clear hz4 hm4
  go_wp2_with fail
  refine ⟨rfl,?_⟩
  go_wp2
  go_ret
  have hz4:=HZ4.out
  have hm4:=HM4.out
  rw [freeE_live Hv.out]
  have hvl : ∀ k,v.ownBlock = some k → w.heap.size ≤ k:=fun k hk => (Ho.out.lt k hk).1
  have ho4:=row_mod Ho3.out hm4 (fun k hk e => by have:=hvl k hk;have:=(HFl.out k e).2;omega)
  have hT4 : Turns w3 (FS ++ v.ownBlock.toList) (FS ++ v.ownBlock.toList) w4:=⟨hm4.mono (fun x hx => .inl (List.mem_append_left _ hx)),fun k hk => .inl hk⟩
  exact ⟨rfl,_,⟨v,FS,hz4,row_base ho4 (fun k _ => Nat.zero_le k),rfl,HR.out.nodup⟩,HT3.out.trans hT4⟩
 ·rw [killE_none hi,killLz_none hi,freeL_deadR hv]
  rw [atI_none hi] at h1
  obtain ⟨H,H1,Hb,HS⟩:=hid4 h h1 hb0 hs0
  clear h h1 hb0 hs0
  clear hz0 hi hv
  go_enter Tryz.func53,Tryz.ntmps53
  go_wp2_with fail
  clear hw0
  refine H1.out.mono ?_
  rintro e w1 ⟨rfl,hb1⟩
  have HB:=Lib.hid (Hb.out.trans (hb1.mono Hb.out.size))
  clear hb1 q0 q1 ql
  go_wp2
  go_ret
  exact ⟨rfl,F,H.out.below HB.out,Turns.ofBelow HB.out⟩
end
end Go.Proofs.YtehjfmjibiafdaaGreat
