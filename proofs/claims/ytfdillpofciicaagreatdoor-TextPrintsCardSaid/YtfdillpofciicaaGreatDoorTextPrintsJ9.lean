import Derived.Test.YtfdillpofciicaaGreatDoorTextPrintsJ8
import Derived.Maps.RangeRun
import Derived.Maps.Keyed
/- A part of the proof that TextPrints returns true. -/
namespace Go.Proofs.YtfdillpofciicaaGreatDoor
open Go.RowKit
theorem flat2_set {α : Type} {enc : α → List Value} (hf : ∀ x,(enc x).length = 2) (y : α) (u v : Value) (hy : enc y = [u,v]) : ∀ (l : List α) (k : Nat),k < l.length →
  ((l.flatMap enc).set (k * 2) u).set (k * 2 + 1) v = (l.set k y).flatMap enc
 | x :: l,0,_ => by
  obtain ⟨a,b,hx⟩ : ∃ a b,enc x = [a,b]:=by
   match h : enc x,hf x with
   | [a,b],_ => exact ⟨a,b,rfl⟩
  simp [hx,hy]
 | x :: l,k + 1,hk => by
  have ih:=flat2_set hf y u v hy l k (by simpa using hk)
  have hx:=hf x
  simp only [List.flatMap_cons,List.set_cons_succ]
  rw [List.set_append_right _ _ (by omega),List.set_append_right _ _ (by omega),hx,show (k + 1) * 2 - 2 = k * 2 by omega,show (k + 1) * 2 + 1 - 2 = k * 2 + 1 by omega,ih]
theorem RepS.at_ {w : World} {p : Nat} {l : Sl} {F : List Nat} (h : RepS w p l F) {n : Nat} (hn : n < l.length) : ∃ g0 cap,w.heap[p]? = some (.cells #[.slice (some ⟨g0,0,none⟩) l.length cap] 164 (0,0)) ∧ g0 ∈ F ∧ g0 < w.heap.size ∧
  w.cell? ⟨g0,n * 2,none⟩ = some (.int .i64 l[n].1) ∧ w.cell? ⟨g0,n * 2 + 1,none⟩ = some (.bool l[n].2) ∧ (∀ i,w.frozen? ⟨g0,i,none⟩ = false) ∧
  (∀ y : Int × Bool,RepS ((w.setCell ⟨g0,n * 2,none⟩ (.int .i64 y.1)).setCell ⟨g0,n * 2 + 1,none⟩ (.bool y.2)) p (l.set n y) F) ∧ (∀ b : Bool,RepS (w.setCell ⟨g0,n * 2 + 1,none⟩ (.bool b)) p (l.set n (l[n].1,b)) F):=by
 obtain ⟨v,hp,hrow,rfl,hne⟩:=h
 obtain ⟨g0,cap,cur,rfl,-,hblk,-⟩:=row_some hrow (by omega)
 obtain ⟨g0',cap',he,hcell⟩:=row_rec slotC_len hrow hn
 cases he
 have hpg : p ≠ g0:=by
  intro e
  simp [Value.ownBlock,e] at hne
 refine ⟨g0,cap,hp,by simp [Value.ownBlock],blk_lt hblk,hcell 0 _ rfl,hcell 1 _ rfl,blk_free hblk,fun y => ?_,fun b => ?_⟩
 ·refine ⟨_,?_,?_,rfl,hne⟩
  ·rw [blk_set_ne (by simpa using hpg),blk_set_ne (by simpa using hpg)];exact hp
  ·have h2:=row_set (row_set hrow (n * 2) (.int .i64 y.1)) (n * 2 + 1) (.bool y.2)
   rw [flat2_set slotC_len y _ _ rfl l n hn] at h2
   rw [List.length_set];exact h2
 ·refine ⟨_,?_,?_,rfl,hne⟩
  ·rw [blk_set_ne (by simpa using hpg)];exact hp
  ·have h2:=row_set hrow (n * 2 + 1) (.bool b)
   rw [flatV_set slotC_len l n hn 1 _ (l[n].1,b) (by omega) rfl] at h2
   rw [List.length_set];exact h2
def bools (bs : List Bool) : List Value:=bs.map (.bool ·)
def RepRS (w : World) (q : Nat) (l : Sl) (F : List Nat) : Prop :=
 ∃ vg vl,w.heap[q]? = some (.cells #[vg,vl] 80 (0,0)) ∧ w.ownsRow 0 3 1 vg l.length (ints (gensS l)) ∧ w.ownsRow 0 4 1 vl l.length (bools (livesS l)) ∧
  F = q :: (vg.ownBlock.toList ++ vl.ownBlock.toList) ∧ F.Nodup
theorem gens_get (l : Sl) (k : Nat) (h : k < l.length) : (ints (gensS l))[k]? = some (.int .i64 l[k].1):=by simp [ints,gensS,h]
theorem lives_get (l : Sl) (k : Nat) (h : k < l.length) : (bools (livesS l))[k]? = some (.bool l[k].2):=by simp [bools,livesS,h]
attribute [local go_sem] AllFrom.cons_eq AllFrom.nil_eq putF_nil putF_cons wantedL_none wantedL_some OpGoalT YieldsR preF_nil preF_cons
end Go.Proofs.YtfdillpofciicaaGreatDoor
namespace Go.Proofs.YtfdillpofciicaaGreatDoor
open Go.RowKit
attribute [local go_sem] AllFrom.cons_eq AllFrom.nil_eq putF_nil putF_cons wantedL_none wantedL_some OpGoalT OpGoalS YieldsR preF_nil preF_cons
theorem wrapSmall (z : Int) (h1 : 0 ≤ z) (h2 : z ≤ 1000000) : IntKind.i64.wrap z = z:=by
 have e : z % 2 ^ 64 = z:=Int.emod_eq_of_lt h1 (by omega)
 simp only [IntKind.wrap,IntKind.bits,IntKind.signed,e,Bool.true_and,decide_eq_true_eq]
 split <;> omega
theorem slotsNew_any (w : World) : Calls Tryz.prog 130 #[] w fun e w' => ∃ p,e = .returned (.pointer (some ⟨p,0,none⟩)) ∧ Below w.heap.size w w' ∧ RepS w' p [] [p] ∧ w.heap.size ≤ p:=by
 go_enter Tryz.func130,Tryz.ntmps130
 go_wp2
 go_ret
 refine ⟨w.heap.size,rfl,(Below.refl _ _).alloc (Nat.le_refl _) _,⟨.slice none 0 0,heap_alloc_new w _,⟨rfl,.inl ⟨rfl,rfl⟩⟩,rfl,by simp⟩,Nat.le_refl _⟩
structure Turns (w : World) (F : List Nat) (F' : List Nat) (w' : World) : Prop where
 mod : Mod F w w'
 new : ∀ k ∈ F',k ∈ F ∨ w.heap.size ≤ k
set_option maxHeartbeats 1000000 in
theorem free_any (p : Nat) (l : Sl) (F : List Nat) (s g : Int) (w : World) (h : RepS w p l F) (hok : SlOk l) :
  Calls Tryz.prog 150 #[.pointer (some ⟨p,0,none⟩),.agg #[.int .i64 s,.int .i64 g]] w fun e w' => e = .returned (.int .i64 (freeE l s g)) ∧ RepS w' p (freeL l s g) F ∧ Mod F w w':=by
 have hlive:=fun w1 (hb : Below w.heap.size w w1) => live_any p l F s g w1 (h.mod (Mod.ofBelow hb) (by simp))
 have HL:=Lib.hid hlive
 clear hlive
 by_cases hv : liveB l s g = true
 ·have hE : freeE l s g = 0:=by unfold freeE;rw [if_pos hv]
  have hF : freeL l s g = l.set s.toNat (g + 1,false):=by unfold freeL;rw [if_pos hv]
  obtain ⟨h0,hk,hx⟩:=liveB_lt hv
  obtain ⟨n,rfl⟩:=Int.eq_ofNat_of_zero_le h0
  simp only [Int.toNat_natCast] at hk hx hF
  have hg:=hok.at_ hk
  rw [hx] at hg
  simp only at hg
  have hgb:=hg.2.2 trivial
  have hg0:=hg.1
  rw [hv] at HL
  obtain ⟨HE,HF,HR⟩:=hid3 hE hF h
  clear hE hF hx hg h hv hok h0
  go_enter Tryz.func150,Tryz.ntmps150
  go_wp2_with fail
  refine (HL.out _ ((Below.refl _ _).alloc (Nat.le_refl _) _)).mono ?_
  rintro e w1 ⟨rfl,hb1⟩
  simp only [World.size_alloc] at hb1
  have d0 : w1.cell? ⟨w.heap.size,0,none⟩ = some (.int .i64 n):=(hb1.cell (p:=⟨w.heap.size,0,none⟩) (by simp)).trans (by simp)
  have d1 : w1.cell? ⟨w.heap.size,1,none⟩ = some (.int .i64 g):=(hb1.cell (p:=⟨w.heap.size,1,none⟩) (by simp)).trans (by simp)
  have hb:=((Below.refl w.heap.size w).alloc (Nat.le_refl _) (.cells #[.int .i64 n,.int .i64 g] 47)).trans (hb1.mono (by omega))
  obtain ⟨g0,cap,hp,hgF,hgl,e0,e1,hfz,hset,-⟩:=(HR.out.mod (Mod.ofBelow hb) (by simp)).at_ hk
  generalize l[n].1 = x0 at e0
  generalize l[n].2 = x1 at e1
  have hw:=wrapSmall (g + 1) (by omega) (by omega)
  have hc:=blk_cell hp 0
  simp at hc
  have f0:=hfz (n * 2)
  have f1:=hfz (n * 2 + 1)
  have hpl:=blk_lt hp
  have hin : (n : Int) < (l.length : Int):=by omega
  have HS:=Lib.hid (hset (g + 1,false))
  have HB:=Lib.hid hb
  have HG:=Lib.hid hgF
  clear HL hb1 hset hfz hp hb hgF
  go_wp2
  refine wp_planS [some 9,some 10,some 11,some 12,some 13,some 14,some 15,some 16,some 17,some 18,some 19,none] [[],[0],[0,1],[0,1,2],[],[4],[],[6],[6,7],[6,7,8],[0,1,2,3,4,5,6,7,8,9],[0,1,2,3,4,5,6,7,8,9,10]] [0,1,2,3,4,5,6,7,8,9,10,11] 12 11 mixed rfl (by kernel_rfl) (by decide) rfl ?_ (by decide)
  iterate 13 apply Exists.intro
  refine ⟨rfl,?_,?_⟩
  ·simp only [AllFrom.cons_eq,AllFrom.nil_eq,OpGoalS]
   refine ⟨?_,?_,?_,?_,?_,?_,?_,?_,?_,?_,?_,?_,trivial⟩
   all_goals (intro σ hp;(try simp only [gZ,gS,mC,mN,preF_cons,preF_nil,isV,and_true] at hp);(first | (have hq : True:=hp;clear hq hp) | skip))
   all_goals (go_simp;exact ⟨rfl,rfl⟩)
  ·intro σ hp
   simp only [gZ,gS,mC,mN,preF_cons,preF_nil,isV,and_true] at hp
   go_simp
   go_wp2
   go_ret
   exact ⟨by rw [HE.out];rfl,by rw [HF.out];exact HS.out,((((Mod.ofBelow HB.out).mono (by simp)).setCell (.inl HG.out) _).setCell (.inl HG.out) _).drew⟩
 ·have hE : freeE l s g = 7:=by unfold freeE;rw [if_neg hv]
  have hF : freeL l s g = l:=by unfold freeL;rw [if_neg hv]
  rw [Bool.not_eq_true] at hv
  rw [hv] at HL
  obtain ⟨HE,HF,HR⟩:=hid3 hE hF h
  clear hE hF h hv hok
  go_enter Tryz.func150,Tryz.ntmps150
  go_wp2_with (go_at_call 92;refine (HL.out _ ((Below.refl _ _).alloc (Nat.le_refl _) _)).mono ?_;rintro e w1 ⟨rfl,hb1⟩)
  go_ret
  have hb:=((Below.refl w.heap.size w).alloc (Nat.le_refl _) (.cells #[.int .i64 s,.int .i64 g] 47)).trans (hb1.mono (by simp))
  exact ⟨by rw [HE.out];rfl,by rw [HF.out];exact HR.out.mod (Mod.ofBelow hb) (by simp),(Mod.ofBelow hb).mono (by simp)⟩
theorem app_slot {w : World} {ops : Array Oper} {rest : List Oper} {o : Oper} {a : Act} {Q : Exit → Act → World → Prop} (hgd : o.guard = none) (s x : Operand)
  (ho : o.op = .call { callee:=.builtin .append,args:=#[s,x],argTypes:=#[162,162] }) (base : Nat) (v : Value) (l : Sl) (y : Int × Bool) (ad : Addr) (c : Nat)
  (hs : a.eval s = v) (hown : w.ownsRow base 166 2 v l.length (l.flatMap slotC)) (hx : a.eval x = .slice (some ad) 1 c) (hc : ∀ j u,(slotC y)[j]? = some u → w.cell? (ad.add j) = some u)
  (hlen : l.length < 8796093022207) (hbase : base ≤ w.heap.size)
  (h : ∀ v' w',w'.ownsRow base 166 2 v' (l ++ [y]).length ((l ++ [y]).flatMap slotC) → w.grownBy w' v.ownBlock → (v'.ownBlock = v.ownBlock ∨ v'.ownBlock = some w.heap.size) → wpList Tryz.prog ops Q rest (a.put o.dst v') w') : wpList Tryz.prog ops Q (o :: rest) a w :=
 app_rec (enc:=slotC) (n:=2) (z:=.agg #[.int .i64 0,.bool false]) (bytes:=16) hgd s x 162 166 ho Tryz.underlying162 info_slot rfl (by omega) (by omega) slotC_one slotC_len base v l y ad c hs hown hx hc (by omega) hbase h
end Go.Proofs.YtfdillpofciicaaGreatDoor
namespace Go.Proofs.YtfdillpofciicaaGreatDoor
open Go.RowKit
theorem Lies.rec_at {α : Type} {enc : α → List Value} {n : Nat} {w : World} {B : Nat} {A : Option Addr} {l : List α} (h : Lies w B A (l.flatMap enc)) (hf : ∀ x,(enc x).length = n) (hn : 0 < n) {k : Nat} (hk : k < l.length) :
  ∃ b o,A = some ⟨b,o,none⟩ ∧ b < B ∧ ∀ j u,(enc l[k])[j]? = some u → w.cell? ⟨b,o + k * n + j,none⟩ = some u:=by
 obtain ⟨a,rfl,hb,hc⟩:=h.rec_ hf hn hk
 obtain ⟨a0,e,-,h0⟩:=h 0 ((l.flatMap enc)[0]'(by rw [flatV_length hf];exact Nat.mul_pos (by omega) hn)) (List.getElem?_eq_getElem _)
 cases e
 obtain ⟨b,o,s⟩:=a
 have hs : s = none:=by
  cases s with
  | none => rfl
  | some x =>
   rw [add_zero] at h0
   simp only [World.cell?] at h0
   split at h0
   ·simp at h0
   ·cases h0
 subst hs
 refine ⟨b,o,rfl,hb,fun j u hu => ?_⟩
 have:=hc j u hu
 rw [add_add_] at this
 have e : (⟨b,o,none⟩ : Addr).add (k * n + j) = ⟨b,o + k * n + j,none⟩:=by
  unfold Addr.add
  split
  ·next h0 => simp only [Addr.mk.injEq,true_and,and_true];omega
  ·simp only [Addr.mk.injEq,true_and,and_true];omega
 rw [e] at this
 exact this
attribute [local go_sem] AllFrom.cons_eq AllFrom.nil_eq putF_nil putF_cons wantedL_none wantedL_some OpGoalT OpGoalS YieldsR preF_nil preF_cons
end Go.Proofs.YtfdillpofciicaaGreatDoor
namespace Go.Proofs.YtfdillpofciicaaGreatDoor
open Go Go.RowKit
abbrev Hd:=Int × Int
abbrev Bt:=Int × Int × Int × Int × Int × Int × Int × Int × Int
abbrev Rw:=Hd × Bt
abbrev Cg:=Hd × Bt × Bt
abbrev Bd:=Hd × Hd
def hdI : Hd → List Int | (a,b) => [a,b]
def btI : Bt → List Int | (k,a0,a1,a2,a3,a4,a5,a6,a7) => [k,a0,a1,a2,a3,a4,a5,a6,a7]
def rwI (r : Rw) : List Int:=hdI r.1 ++ btI r.2
def cgI (c : Cg) : List Int:=hdI c.1 ++ (btI c.2.1 ++ btI c.2.2)
def bdI (b : Bd) : List Int:=hdI b.1 ++ hdI b.2
def rwC (r : Rw) : List Value:=ints (rwI r)
def bdC (b : Bd) : List Value:=ints (bdI b)
theorem rwC_len (b : Rw) : (rwC b).length = 11:=rfl
theorem bdC_len (b : Bd) : (bdC b).length = 4:=rfl
theorem ints_one (l : List Int) : ∀ u ∈ ints l,u.oneCell' = true:=by
 intro u hu
 unfold ints at hu
 obtain ⟨z,-,rfl⟩:=List.mem_map.1 hu
 rfl
theorem rwC_one (b : Rw) : ∀ u ∈ rwC b,u.oneCell' = true:=ints_one _
theorem bdC_one (b : Bd) : ∀ u ∈ bdC b,u.oneCell' = true:=ints_one _
theorem hdI_mk : ∀ zs : List Int,zs.length = 2 → ∃ x,hdI x = zs
 | [a,b],_ => ⟨(a,b),rfl⟩
theorem btI_mk : ∀ zs : List Int,zs.length = 9 → ∃ x,btI x = zs
 | [k,a0,a1,a2,a3,a4,a5,a6,a7],_ => ⟨(k,a0,a1,a2,a3,a4,a5,a6,a7),rfl⟩
theorem rwI_mk (zs : List Int) (h : zs.length = 11) : ∃ x,rwI x = zs:=by
 obtain ⟨a,ha⟩:=hdI_mk (zs.take 2) (by rw [List.length_take];omega)
 obtain ⟨b,hb⟩:=btI_mk (zs.drop 2) (by rw [List.length_drop];omega)
 exact ⟨(a,b),by unfold rwI;rw [ha,hb,List.take_append_drop]⟩
theorem hdI_inj {a b : Hd} (h : hdI a = hdI b) : a = b:=by
 obtain ⟨a0,a1⟩:=a;obtain ⟨b0,b1⟩:=b
 simpa [hdI] using h
theorem btI_inj {a b : Bt} (h : btI a = btI b) : a = b:=by
 obtain ⟨a0,a1,a2,a3,a4,a5,a6,a7,a8⟩:=a;obtain ⟨b0,b1,b2,b3,b4,b5,b6,b7,b8⟩:=b
 simpa [btI] using h
theorem app_inj {a b c d : List Int} (hl : a.length = c.length) (h : a ++ b = c ++ d) : a = c ∧ b = d:=List.append_inj h hl
theorem rwI_inj {a b : Rw} (h : rwI a = rwI b) : a = b:=by
 obtain ⟨h1,h2⟩:=app_inj (by rfl) h
 exact Prod.ext (hdI_inj h1) (btI_inj h2)
theorem cgI_inj {a b : Cg} (h : cgI a = cgI b) : a = b:=by
 obtain ⟨h1,h2⟩:=app_inj (by rfl) h
 obtain ⟨h3,h4⟩:=app_inj (by rfl) h2
 exact Prod.ext (hdI_inj h1) (Prod.ext (btI_inj h3) (btI_inj h4))
theorem bdI_inj {a b : Bd} (h : bdI a = bdI b) : a = b:=by
 obtain ⟨h1,h2⟩:=app_inj (by rfl) h
 exact Prod.ext (hdI_inj h1) (hdI_inj h2)
instance : DecidableEq Bt:=fun a b => decidable_of_iff (btI a = btI b) ⟨fun h => btI_inj h,fun h => congrArg _ h⟩
instance : DecidableEq Rw:=fun a b => decidable_of_iff (rwI a = rwI b) ⟨fun h => rwI_inj h,fun h => congrArg _ h⟩
instance : DecidableEq Cg:=fun a b => decidable_of_iff (cgI a = cgI b) ⟨fun h => cgI_inj h,fun h => congrArg _ h⟩
theorem eqB_inj {α β : Type} [DecidableEq α] [DecidableEq β] {f : α → β} (hf : ∀ {a b},f a = f b → a = b) (a b : α) : eqB (f a) (f b) = eqB a b:=by
 unfold eqB
 by_cases h : a = b
 ·subst h;simp
 ·rw [decide_eq_false h,decide_eq_false (fun e => h (hf e))]
theorem info_of {P : Program} {t : TypeId} {z : Value} {n b : Nat} (h : (P.info? t).map (fun i => (i.zero,i.size,i.bytes)) = some (some z,n,b)) : (P.info? t).map (·.size) = some n:=by
 cases hq : P.info? t with
 | none => rw [hq] at h;cases h
 | some i => rw [hq] at h;simp only [Option.map_some,Option.some.injEq,Prod.mk.injEq] at h ⊢;exact h.2.1
theorem ieHandle (d : Nat) : IE Tryz.prog (d + 2) 47 (GInts (Tryz.prog.cellsOf 47)):=by
 rw [show Tryz.prog.cellsOf 47 = 2 by kernel_rfl]
 obtain ⟨i,hi⟩:=Option.isSome_iff_exists.1 (show (Tryz.prog.info? 47).isSome = true by kernel_rfl)
 exact (esHandle d).part Tryz.underlying47 rfl hi
theorem ieBeast (d : Nat) : IE Tryz.prog (d + 3) 45 (GInts (Tryz.prog.cellsOf 45)):=by
 rw [show Tryz.prog.cellsOf 45 = 9 by kernel_rfl]
 obtain ⟨i,hi⟩:=Option.isSome_iff_exists.1 (show (Tryz.prog.info? 45).isSome = true by kernel_rfl)
 exact (esBeast d).part Tryz.underlying45 rfl hi
theorem esRow (d : Nat) : ES Tryz.prog (d + 4) 56 (GInts 11):=by
 refine ES.flat (by kernel_rfl) (by kernel_rfl) 11 (by kernel_rfl) (by kernel_rfl) ?_
 intro f hf
 simp only [Program.fieldsOf,Tryz.underlying56,List.mem_cons,List.not_mem_nil,or_false] at hf
 rcases hf with rfl | rfl
 ·exact ieHandle (d + 1)
 ·exact ieBeast d
theorem esBond (d : Nat) : ES Tryz.prog (d + 3) 60 (GInts 4):=by
 refine ES.flat (by kernel_rfl) (by kernel_rfl) 4 (by kernel_rfl) (by kernel_rfl) ?_
 intro f hf
 simp only [Program.fieldsOf,Tryz.underlying60,List.mem_cons,List.not_mem_nil,or_false] at hf
 rcases hf with rfl | rfl <;> exact ieHandle d
theorem neqRow (w : World) (x y : Rw) : (binOp .neq 56 (.agg (rwC x).toArray) (.agg (rwC y).toArray)).run Tryz.prog w = .ok (.bool (!eqB x y)) w:=by
 refine ((esRow 9996).neqI w (rwI x) (rwI y) rfl rfl (x:=(rwC x).toArray) (y:=(rwC y).toArray) rfl rfl).trans ?_
 rw [eqB_inj rwI_inj]
theorem neqBond (w : World) (x y : Bd) : (binOp .neq 60 (.agg (bdC x).toArray) (.agg (bdC y).toArray)).run Tryz.prog w = .ok (.bool (!eqB x y)) w:=by
 refine ((esBond 9997).neqI w (bdI x) (bdI y) rfl rfl (x:=(bdC x).toArray) (y:=(bdC y).toArray) rfl rfl).trans ?_
 rw [eqB_inj bdI_inj]
theorem inf_Row : (Tryz.prog.info? 56).map (fun i => (i.zero,i.size,i.bytes)) = some (some (.agg (Array.replicate 11 (.int .i64 0))),11,88):=by kernel_rfl
theorem inf_Bond : (Tryz.prog.info? 60).map (fun i => (i.zero,i.size,i.bytes)) = some (some (.agg (Array.replicate 4 (.int .i64 0))),4,32):=by kernel_rfl
theorem sz_Row (x : Rw) : (Tryz.prog.info? 56).map (·.size) = some (rwC x).length:=info_of inf_Row
theorem sz_Bond (x : Bd) : (Tryz.prog.info? 60).map (·.size) = some (bdC x).length:=info_of inf_Bond
section
variable {P : Program}
theorem setCells_block {w : World} {b : Nat} {t : TypeId} {f : Nat × Nat} : ∀ (vs : List Value) (i : Nat) (w : World) (xs : List Value),w.heap[b]? = some (.cells xs.toArray t f) → (w.setCells b i vs).heap[b]? = some (.cells (setL xs i vs).toArray t f)
 | [],_,_,_,h => h
 | v :: vs,i,w,xs,h => setCells_block (w:=w) vs (i + 1) _ _ (by
   have:=blk_set h i v
   rw [this];simp)
theorem setCells_rest (b : Nat) : ∀ (vs : List Value) (i : Nat) (w : World),(w.setCells b i vs).os = w.os ∧ (w.setCells b i vs).tape = w.tape ∧ (w.setCells b i vs).output = w.output ∧ (w.setCells b i vs).drawn = w.drawn ∧ ∀ k,k ≠ b → (w.setCells b i vs).heap[k]? = w.heap[k]?
 | [],_,_ => ⟨rfl,rfl,rfl,rfl,fun _ _ => rfl⟩
 | v :: vs,i,w => by
  obtain ⟨h1,h2,h3,h5,h4⟩:=setCells_rest b vs (i + 1) (w.setCell ⟨b,i,none⟩ v)
  exact ⟨h1,h2,h3,h5,fun k hk => (h4 k hk).trans (blk_set_ne (by simpa using hk) v)⟩
theorem world_ext {a b : World} (h1 : a.os = b.os) (h2 : a.tape = b.tape) (h3 : a.output = b.output) (h5 : a.drawn = b.drawn) (h4 : ∀ k : Nat,a.heap[k]? = b.heap[k]?) : a = b:=by
 have : a.heap = b.heap:=Array.ext_getElem? h4
 cases a;cases b;simp_all
theorem store_new (w : World) (cs : List Value) (vs : List Value) (t : TypeId) (h : vs.length = cs.length) : (w.alloc (.cells cs.toArray t)).setCells w.heap.size 0 vs = w.alloc (.cells vs.toArray t):=by
 obtain ⟨h1,h2,h3,h5,h4⟩:=setCells_rest w.heap.size vs 0 (w.alloc (.cells cs.toArray t))
 refine world_ext h1 h2 h3 h5 fun k => ?_
 by_cases hk : k = w.heap.size
 ·subst hk
  rw [setCells_block (w:=w) vs 0 _ cs (heap_alloc_new w _),setL_all vs cs h]
  exact (heap_alloc_new w _).symm
 ·rw [h4 k hk]
  rcases Nat.lt_or_ge k w.heap.size with h | h
  ·rw [Below.heap_alloc _ _ _ h,Below.heap_alloc _ _ _ h]
  ·rw [Array.getElem?_eq_none (by simp;omega),Array.getElem?_eq_none (by simp;omega)]
theorem wpList_store_new {ops : Array Oper} {rest : List Oper} {op : Oper} {a : Act} {Q : Exit → Act → World → Prop} (hgd : op.guard = none) (ty : TypeId) (x y : Operand) (ho : op.op = .store ty x y)
  (w : World) (cs vs : List Value) (t : TypeId) (hx : a.eval x = .pointer (some ⟨w.heap.size,0,none⟩)) (hy : a.eval y = .agg vs.toArray) (hl : vs.length = cs.length) (hi : (P.info? ty).map (·.size) = some vs.length) (h1 : ∀ u ∈ vs,u.oneCell' = true)
  (h : wpList P ops Q rest (a.put op.dst undef) (w.alloc (.cells vs.toArray t))) : wpList P ops Q (op :: rest) a (w.alloc (.cells cs.toArray t)):=by
 refine wpList_store_mid hgd ty x y ho w.heap.size 0 vs.toArray hx hy ?_ (by simpa using hi) (all_oneCell_toArray h1) ?_
 ·intro j hj
  have hb:=heap_alloc_new w (.cells cs.toArray t)
  have hj' : j < cs.length:=by simp at hj;omega
  constructor
  ·rw [Nat.zero_add,blk_cell hb];simp [hj']
  ·exact blk_free hb _
 ·rw [show vs.toArray.toList = vs by simp,store_new w cs vs t hl]
  exact h
end
end Go.Proofs.YtfdillpofciicaaGreatDoor
namespace Go.Proofs.YtfdillpofciicaaGreatDoor
open Go.RowKit
attribute [local go_sem] AllFrom.cons_eq AllFrom.nil_eq putF_nil putF_cons wantedL_none wantedL_some OpGoalT OpGoalS OpGoalP YieldsR preF_nil preF_cons
theorem RepRS.at_ {w : World} {p : Nat} {l : Sl} {F : List Nat} (h : RepRS w p l F) {n : Nat} (hn : n < l.length) : ∃ g0 c0 g1 c1,w.heap[p]? = some (.cells #[.slice (some ⟨g0,0,none⟩) l.length c0,.slice (some ⟨g1,0,none⟩) l.length c1] 80 (0,0)) ∧
  g0 ∈ F ∧ g1 ∈ F ∧ g0 ≠ g1 ∧ g1 ≠ g0 ∧ p ≠ g0 ∧ p ≠ g1 ∧ g0 < w.heap.size ∧ g1 < w.heap.size ∧ w.cell? ⟨g0,n,none⟩ = some (.int .i64 l[n].1) ∧ w.cell? ⟨g1,n,none⟩ = some (.bool l[n].2) ∧ (∀ i,w.frozen? ⟨g0,i,none⟩ = false) ∧ (∀ i,w.frozen? ⟨g1,i,none⟩ = false) ∧
  (∀ g b,RepRS ((w.setCell ⟨g1,n,none⟩ (.bool b)).setCell ⟨g0,n,none⟩ (.int .i64 g)) p (l.set n (g,b)) F) ∧ (∀ b,RepRS (w.setCell ⟨g1,n,none⟩ (.bool b)) p (l.set n (l[n].1,b)) F):=by
 obtain ⟨vg,vl,hp,hg,hl,rfl,hne⟩:=h
 obtain ⟨g0,c0,cur0,rfl,-,hb0,-⟩:=row_some hg (by omega)
 obtain ⟨g1,c1,cur1,rfl,-,hb1,-⟩:=row_some hl (by omega)
 have hne':=hne
 simp [Value.ownBlock] at hne'
 obtain ⟨⟨n1,n2⟩,n3⟩:=hne'
 refine ⟨g0,c0,g1,c1,hp,by simp [Value.ownBlock],by simp [Value.ownBlock],n3,fun e => n3 e.symm,n1,n2,blk_lt hb0,blk_lt hb1,row_cell hg (gens_get l n hn),row_cell hl (lives_get l n hn),blk_free hb0,blk_free hb1,fun g b => ?_,fun b => ?_⟩
 ·refine ⟨_,_,?_,?_,?_,rfl,hne⟩
  ·rw [blk_set_ne (by simpa using n1),blk_set_ne (by simpa using n2)];exact hp
  ·have h2:=row_set (row_mod hg ((Mod.refl [g1] w).setCell (p:=⟨g1,n,none⟩) (.inl (by simp)) (.bool b)) (by simp [Value.ownBlock,n3])) n (.int .i64 g)
   rw [List.length_set]
   rw [show ints (gensS (l.set n (g,b))) = (ints (gensS l)).set n (.int .i64 g) by simp [ints,gensS,List.map_set]]
   exact h2
  ·have h2:=row_mod (row_set hl n (.bool b)) ((Mod.refl [g0] _).setCell (p:=⟨g0,n,none⟩) (.inl (by simp)) (.int .i64 g)) (by simp [Value.ownBlock];exact fun e => n3 e.symm)
   rw [List.length_set]
   rw [show bools (livesS (l.set n (g,b))) = (bools (livesS l)).set n (.bool b) by simp [bools,livesS,List.map_set]]
   exact h2
 ·refine ⟨_,_,?_,?_,?_,rfl,hne⟩
  ·rw [blk_set_ne (by simpa using n2)];exact hp
  ·rw [List.length_set]
   rw [show gensS (l.set n (l[n].1,b)) = gensS l by
    have e : (l.map (·.1))[n]'(by simpa using hn) = l[n].1:=by simp
    simp only [gensS,List.map_set]
    rw [← e]
    exact List.set_getElem_self _]
   exact row_mod hg ((Mod.refl [g1] w).setCell (p:=⟨g1,n,none⟩) (.inl (by simp)) (.bool b)) (by simp [Value.ownBlock,n3])
  ·have h2:=row_set hl n (.bool b)
   rw [List.length_set]
   rw [show bools (livesS (l.set n (l[n].1,b))) = (bools (livesS l)).set n (.bool b) by simp [bools,livesS,List.map_set]]
   exact h2
end Go.Proofs.YtfdillpofciicaaGreatDoor
namespace Go.Proofs.YtfdillpofciicaaGreatDoor
open Go.RowKit
attribute [local go_sem] AllFrom.cons_eq AllFrom.nil_eq putF_nil putF_cons wantedL_none wantedL_some OpGoalT OpGoalS OpGoalP OpGoalV YieldsR preF_nil preF_cons
def intC (z : Int) : List Value:=[.int .i64 z]
theorem ints_flat (l : List Int) : ints l = l.flatMap intC:=by induction l with | nil => rfl | cons x l ih => simp only [List.flatMap_cons,← ih];rfl
theorem intC_one (z : Int) : ∀ u ∈ intC z,u.oneCell' = true:=by intro u hu;simp [intC] at hu;subst hu;rfl
end Go.Proofs.YtfdillpofciicaaGreatDoor
namespace Go.Proofs.YtfdillpofciicaaGreatDoor
open Go Go.RowKit Go.Maps Go.MapKept
open Go.ChangeMaps (setBlock)
open Go.ChangeMaps
def prs (es : Array MapEntry) : List (Value × Value):=es.toList.map fun e => (e.key,e.val)
theorem setBlock_same {w : World} {b : Nat} {o o' : Obj} (hb : w.heap[b]? = some o) : (setBlock w b o').heap[b]? = some o':=by
 have:=blk_lt hb
 simp [setBlock,this]
theorem setBlock_ne {w : World} {b k : Nat} {o' : Obj} (hk : k ≠ b) : (setBlock w b o').heap[k]? = w.heap[k]?:=by
 simp [setBlock,Array.getElem?_setIfInBounds,Ne.symm hk]
theorem setBlock_size (w : World) (b : Nat) (o' : Obj) : (setBlock w b o').heap.size = w.heap.size:=by simp [setBlock]
theorem setBlock_mod (w : World) (b : Nat) (o' : Obj) : Mod [b] w (setBlock w b o') :=
 ⟨rfl,rfl,rfl,by rw [setBlock_size];exact Nat.le_refl _,fun k _ hk => setBlock_ne (by simpa using hk)⟩
section
variable {P : Program} {kt : TypeId} {w : World} {b : Nat} {l : List (Value × Value)}
structure EsOk (P : Program) (kt : TypeId) (es : Array MapEntry) (clock : Nat) (l : List (Value × Value)) : Prop where
 st : Stamped es clock
 keys : ∀ e ∈ es.toList,∃ kl,keyOf P kt e.key = some kl
 prs : prs es = l
def MapAt (P : Program) (kt : TypeId) (w : World) (b : Nat) (l : List (Value × Value)) : Prop:=∃ es clock,w.heap[b]? = some (.map es clock) ∧ EsOk P kt es clock l
theorem MapAt.lt (h : MapAt P kt w b l) : b < w.heap.size:=by obtain ⟨es,c,hb,-⟩:=h;exact blk_lt hb
theorem MapAt.mod {w' : World} {F : List Nat} (h : MapAt P kt w b l) (hm : Mod F w w') (hd : b ∉ F) : MapAt P kt w' b l:=by
 obtain ⟨es,c,hb,hk⟩:=h;exact ⟨es,c,hm.keep hb hd,hk⟩
theorem EsOk.apart {es : Array MapEntry} {clock : Nat} (h : EsOk P kt es clock l) : l.Pairwise (fun p q => p.1 ≠ q.1):=by
 have:=((stamped_iff es clock).1 h.st).2.2
 rw [← h.prs]
 exact List.pairwise_map.2 this
theorem EsOk.mem {es : Array MapEntry} {clock : Nat} (h : EsOk P kt es clock l) {e : MapEntry} (he : e ∈ es.toList) : (e.key,e.val) ∈ l:=by
 rw [← h.prs];exact List.mem_map.2 ⟨e,he,rfl⟩
theorem pair_same : ∀ {l : List (Value × Value)},l.Pairwise (fun p q => p.1 ≠ q.1) → ∀ {k v v' : Value},(k,v) ∈ l → (k,v') ∈ l → v = v'
 | p :: l,hp,k,v,v',h1,h2 => by
  obtain ⟨ha,hb⟩:=List.pairwise_cons.1 hp
  rcases List.mem_cons.1 h1 with e1 | h1
  ·rcases List.mem_cons.1 h2 with e2 | h2
   ·have:=e1.trans e2.symm;cases this;rfl
   ·exact absurd (by rw [← e1]) (ha _ h2)
  ·rcases List.mem_cons.1 h2 with e2 | h2
   ·exact absurd (by rw [← e2]) (ha _ h1)
   ·exact pair_same hb h1 h2
variable {t e : TypeId} {key : Value} {kl : Lit}
theorem MapAt.look_in (K : Keyed P kt) (ht : P.underlying t = some (.map kt e)) (h : MapAt P kt w b l) (hkey : keyOf P kt key = some kl) {v : Value} (hv : (key,v) ∈ l) (c : Bool) :
  (Instr.lookup t (.map (some b)) key c).run P w = .ok (if c then .tuple #[v,.bool true] else v) w:=by
 obtain ⟨es,clock,hb,hok⟩:=h
 rcases K.find w hkey es.toList hok.keys with ⟨_,h2⟩ | ⟨j,e0,h1,h2,h3⟩
 ·rw [← hok.prs] at hv
  obtain ⟨x,hx,hx2⟩:=List.mem_map.1 hv
  exact absurd (congrArg Prod.fst hx2) (h2 x hx)
 ·have hm:=hok.mem (List.mem_of_getElem? h2)
  rw [h3] at hm
  have:=pair_same hok.apart hm hv
  simp [Instr.lookup,run_underlying ht,MapKept.run_getObj_map hb,K.check w _ hkey,h1,Result.andThen,this]
theorem MapAt.look_out (K : Keyed P kt) (ht : P.underlying t = some (.map kt e)) {z : Value} (hz : (zeroValue e).run P w = .ok z w) (h : MapAt P kt w b l) (hkey : keyOf P kt key = some kl) (hv : ∀ p ∈ l,p.1 ≠ key) (c : Bool) :
  (Instr.lookup t (.map (some b)) key c).run P w = .ok (if c then .tuple #[z,.bool false] else z) w:=by
 obtain ⟨es,clock,hb,hok⟩:=h
 rcases K.find w hkey es.toList hok.keys with ⟨h1,_⟩ | ⟨j,e0,h1,h2,h3⟩
 ·simp [Instr.lookup,run_underlying ht,MapKept.run_getObj_map hb,K.check w _ hkey,h1,hz,Result.andThen]
 ·exact absurd h3 (hv _ (hok.mem (List.mem_of_getElem? h2)))
theorem MapAt.put_new (K : Keyed P kt) (ht : P.underlying t = some (.map kt e)) (h : MapAt P kt w b l) (hkey : keyOf P kt key = some kl) (hv : ∀ p ∈ l,p.1 ≠ key) (v : Value) :
  ∃ w',(Instr.mapUpdate t (.map (some b)) key v).run P w = .ok () w' ∧ MapAt P kt w' b (l ++ [(key,v)]) ∧ Mod [b] w w' ∧ w'.heap.size = w.heap.size:=by
 obtain ⟨es,clock,hb,hok⟩:=h
 have hne : ∀ x ∈ es.toList,x.key ≠ key:=fun x hx => hv _ (hok.mem hx)
 rcases K.find w hkey es.toList hok.keys with ⟨h1,_⟩ | ⟨j,e0,h1,h2,h3⟩
 ·refine ⟨setBlock w b (.map (es.push ⟨key,v,clock⟩) (clock + 1)),?_,⟨_,_,setBlock_same hb,stamped_push hok.st hne,?_,?_⟩,setBlock_mod _ _ _,setBlock_size _ _ _⟩
  ·simp [Instr.mapUpdate,run_underlying ht,MapKept.run_getObj_map hb,K.check w false hkey,h1,MapKept.run_setObj_map _ hb,Result.andThen,setBlock]
  ·intro x hx
   simp only [Array.toList_push,List.mem_append,List.mem_singleton] at hx
   rcases hx with hx | rfl
   ·exact hok.keys x hx
   ·exact ⟨kl,hkey⟩
  ·rw [← hok.prs];simp [Go.Proofs.YtfdillpofciicaaGreatDoor.prs]
 ·exact absurd h3 (hne e0 (List.mem_of_getElem? h2))
theorem apart_mid {l1 l2 : List (Value × Value)} {k v : Value} (h : (l1 ++ (k,v) :: l2).Pairwise (fun p q => p.1 ≠ q.1)) : ∀ p ∈ l1 ++ l2,p.1 ≠ k:=by
 intro p hp
 rw [List.pairwise_append] at h
 obtain ⟨h1,h2,h3⟩:=h
 rcases List.mem_append.1 hp with hp | hp
 ·exact h3 p hp (k,v) (by simp)
 ·exact (fun e => (List.pairwise_cons.1 h2).1 p hp e.symm)
theorem split_at {es : Array MapEntry} {clock : Nat} {l1 l2 : List (Value × Value)} {v0 : Value} (hok : EsOk P kt es clock (l1 ++ (key,v0) :: l2)) {j : Nat} {e0 : MapEntry} (h2 : es.toList[j]? = some e0) (h3 : e0.key = key) : j = l1.length ∧ e0.val = v0:=by
 have hj : (l1 ++ (key,v0) :: l2)[j]? = some (key,e0.val):=by
  rw [← hok.prs,prs,List.getElem?_map,h2,← h3];rfl
 have hap:=hok.apart
 have hm:=pair_same hap (List.mem_of_getElem? hj) (show (key,v0) ∈ l1 ++ (key,v0) :: l2 by simp)
 refine ⟨?_,hm⟩
 rcases Nat.lt_trichotomy j l1.length with h | h | h
 ·rw [List.getElem?_append_left h] at hj
  exact absurd rfl (apart_mid hap _ (List.mem_append_left _ (List.mem_of_getElem? hj)))
 ·exact h
 ·rw [List.getElem?_append_right (by omega),show j - l1.length = (j - l1.length - 1) + 1 by omega,List.getElem?_cons_succ] at hj
  exact absurd rfl (apart_mid hap _ (List.mem_append_right _ (List.mem_of_getElem? hj)))
theorem MapAt.put_old (K : Keyed P kt) (ht : P.underlying t = some (.map kt e)) {l1 l2 : List (Value × Value)} {v0 : Value} (h : MapAt P kt w b (l1 ++ (key,v0) :: l2)) (hkey : keyOf P kt key = some kl) (v : Value) :
  ∃ w',(Instr.mapUpdate t (.map (some b)) key v).run P w = .ok () w' ∧ MapAt P kt w' b (l1 ++ (key,v) :: l2) ∧ Mod [b] w w' ∧ w'.heap.size = w.heap.size:=by
 obtain ⟨es,clock,hb,hok⟩:=h
 rcases K.find w hkey es.toList hok.keys with ⟨_,h2⟩ | ⟨j,e0,h1,h2,h3⟩
 ·have hv : (key,v0) ∈ prs es:=by rw [hok.prs];simp
  obtain ⟨x,hx,hx2⟩:=List.mem_map.1 hv
  exact absurd (congrArg Prod.fst hx2) (h2 x hx)
 ·have hj : es[j]? = some e0:=by simpa using h2
  obtain ⟨rfl,-⟩:=split_at hok h2 h3
  have hkeyf : ∀ e',es[l1.length]? = some e' → ({ e' with key:=key,val:=v } : MapEntry).key = e'.key:=fun e' he' => by rw [hj] at he';cases he';exact h3.symm
  have hlist : (es.modify l1.length (fun e' => { e' with key:=key,val:=v })).toList = es.toList.set l1.length { e0 with key:=key,val:=v }:=by rw [Array.toList_modify,modify_eq_set _ _ _ _ h2]
  refine ⟨setBlock w b (.map (es.modify l1.length (fun e' => { e' with key:=key,val:=v })) clock),?_,⟨_,_,setBlock_same hb,stamped_modify hok.st _ _ (fun _ _ => rfl) (fun e' _ he' => hkeyf e' he'),?_,?_⟩,setBlock_mod _ _ _,setBlock_size _ _ _⟩
  ·simp [Instr.mapUpdate,run_underlying ht,MapKept.run_getObj_map hb,K.check w false hkey,h1,hj,h3,K.stays w hkey,MapKept.run_setObj_map _ hb,Result.andThen,setBlock]
  ·intro x hx
   rw [hlist] at hx
   rcases List.mem_or_eq_of_mem_set hx with hx | rfl
   ·exact hok.keys x hx
   ·exact ⟨kl,hkey⟩
  ·unfold Go.Proofs.YtfdillpofciicaaGreatDoor.prs
   rw [hlist,List.map_set]
   have:=hok.prs
   unfold Go.Proofs.YtfdillpofciicaaGreatDoor.prs at this
   rw [this,List.set_append_right _ _ (Nat.le_refl _),Nat.sub_self]
   rfl
def RangeAt (P : Program) (kt : TypeId) (w : World) (b r : Nat) (l todo : List (Value × Value)) : Prop :=
 ∃ es clock since seen c0,w.heap[b]? = some (.map es clock) ∧ EsOk P kt es clock l ∧ w.heap[r]? = some (.mapIter (some b) since seen c0) ∧ (∀ x ∈ es.toList,x.born < since) ∧ since ≤ c0 ∧ since ≤ clock ∧ prs (leftOf es seen) = todo
theorem RangeAt.mod {w' : World} {F : List Nat} {r : Nat} {todo : List (Value × Value)} (h : RangeAt P kt w b r l todo) (hm : Mod F w w') (hb : b ∉ F) (hr : r ∉ F) : RangeAt P kt w' b r l todo:=by
 obtain ⟨es,clock,since,seen,c0,h1,h2,h3,h4,h5,h7,h6⟩:=h
 exact ⟨es,clock,since,seen,c0,hm.keep h1 hb,h2,hm.keep h3 hr,h4,h5,h7,h6⟩
theorem MapAt.range (ht : P.underlying t = some (.map kt e)) (h : MapAt P kt w b l) :
  ∃ o,(Instr.range t (.map (some b))).run P w = .ok (.pointer (some ⟨w.heap.size,0,none⟩)) (w.alloc o) ∧ RangeAt P kt (w.alloc o) b w.heap.size l l:=by
 obtain ⟨es,clock,hb,hok⟩:=h
 refine ⟨_,run_range_map w t kt e b es clock ht hb,es,clock,clock,#[],clock,blk_alloc hb _,hok,(MapKept.heap_alloc w _).1,((stamped_iff es clock).1 hok.st).1,Nat.le_refl _,Nat.le_refl _,?_⟩
 rw [← hok.prs]
 unfold leftOf
 congr 1
 rw [Array.filter_eq_self]
 simp
theorem RangeAt.over {r : Nat} (h : RangeAt P kt w b r l []) (ty : TypeId) : (Instr.next (.pointer (some ⟨r,0,none⟩)) false ty).run P w = .ok (.tuple #[.bool false]) w:=by
 obtain ⟨es,clock,since,seen,c0,h1,h2,h3,h4,h5,h7,h6⟩:=h
 rcases run_next_at (P:=P) w ty r b since c0 seen es clock h3 h1 h4 h5 with ⟨_,hr⟩ | ⟨x,hx,_⟩
 ·exact hr
 ·have : (x.key,x.val) ∈ prs (leftOf es seen):=List.mem_map.2 ⟨x,hx,rfl⟩
  rw [h6] at this
  cases this
theorem RangeAt.next {r : Nat} {todo : List (Value × Value)} (h : RangeAt P kt w b r l todo) (hne : todo ≠ []) (ty : TypeId) :
  ∃ t1 p t2 w',todo = t1 ++ p :: t2 ∧ p ∈ l ∧ (Instr.next (.pointer (some ⟨r,0,none⟩)) false ty).run P w = .ok (.tuple #[.bool true,p.1,p.2]) w' ∧
   (Instr.entry (.pointer (some ⟨r,0,none⟩))).run P w' = .ok (.tuple #[p.1,p.2]) w' ∧ RangeAt P kt w' b r l (t1 ++ t2) ∧ Mod [r] w w' ∧ w'.heap.size = w.heap.size:=by
 obtain ⟨es,clock,since,seen,c0,h1,h2,h3,h4,h5,h7,h6⟩:=h
 have hbr : b ≠ r:=by rintro rfl;rw [h1] at h3;cases h3
 rcases run_next_at (P:=P) w ty r b since c0 seen es clock h3 h1 h4 h5 with ⟨h0,_⟩ | ⟨x,hx,w1,hw1,hr⟩
 ·have : leftOf es seen = #[]:=Array.eq_empty_of_size_eq_zero h0
  rw [this] at h6
  exact absurd h6.symm hne
 ·have hm1 : Mod [] w w1:=by
   rcases hw1 with rfl | rfl
   ·exact Mod.refl _ _
   ·exact (Mod.refl _ _).drew
  have hs1 : w1.heap.size = w.heap.size:=by rcases hw1 with rfl | rfl <;> rfl
  obtain ⟨hxe,hxs⟩:=mem_left hx
  have hst:=(stamped_iff es clock).1 h2.st
  obtain ⟨a,c,hac⟩:=List.append_of_mem hx
  have hnd : ((leftOf es seen).toList.map (·.born)).Nodup:=by
   unfold leftOf
   rw [Array.toList_filter]
   exact List.Nodup.sublist (List.Sublist.map _ List.filter_sublist) hst.2.1
  have hleft : (leftOf es (seen.push x.born)).toList = a ++ c:=by
   have e1 : (leftOf es (seen.push x.born)).toList = (leftOf es seen).toList.filter (fun y => !(y.born == x.born)):=by
    unfold leftOf
    rw [Array.toList_filter,Array.toList_filter,List.filter_filter]
    apply List.filter_congr
    intro y _
    rw [Array.contains_push]
    cases (y.born == x.born) <;> cases seen.contains y.born <;> rfl
   rw [e1,hac]
   rw [hac,List.map_append,List.map_cons] at hnd
   rw [List.nodup_append] at hnd
   obtain ⟨_,n2,n3⟩:=hnd
   rw [List.nodup_cons] at n2
   rw [List.filter_append,List.filter_cons]
   simp only [beq_self_eq_true,Bool.not_true,Bool.false_eq_true,if_false]
   congr 1
   ·rw [List.filter_eq_self]
    intro y hy
    have:=n3 y.born (List.mem_map.2 ⟨y,hy,rfl⟩) x.born (by simp)
    simpa using this
   ·rw [List.filter_eq_self]
    intro y hy
    have : y.born ≠ x.born:=fun e => n2.1 (by rw [← e];exact List.mem_map.2 ⟨y,hy,rfl⟩)
    simpa using this
  have h1' : (setBlock w1 r (.mapIter (some b) since (seen.push x.born) clock)).heap[b]? = some (.map es clock):=by rw [setBlock_ne hbr];exact hm1.keep h1 (by simp)
  have h3' : (setBlock w1 r (.mapIter (some b) since (seen.push x.born) clock)).heap[r]? = some (.mapIter (some b) since (seen.push x.born) clock):=setBlock_same (hm1.keep h3 (by simp))
  refine ⟨a.map (fun y => (y.key,y.val)),(x.key,x.val),c.map (fun y => (y.key,y.val)),_,?_,h2.mem hxe,hr,run_entry_at _ r b since seen es clock x h3' h1' hxe hst.2.1,⟨es,clock,since,seen.push x.born,clock,h1',h2,h3',h4,h7,h7,?_⟩,(hm1.mono (G:=[r]) (by simp)).trans (setBlock_mod _ _ _) (fun x hx => .inl hx),?_⟩
  ·rw [← h6];unfold prs;rw [hac];simp
  ·unfold prs;rw [hleft,List.map_append]
  ·rw [setBlock_size,hs1]
end
end Go.Proofs.YtfdillpofciicaaGreatDoor
