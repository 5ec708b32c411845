import Derived.Test.YtfdillpofciicaaGreatDoorTextPrintsJ10
import Derived.Maps.Range
/- A part of the proof that TextPrints returns true. -/
namespace Go.Proofs.YtfdillpofciicaaGreatDoor
open Go Go.RowKit
theorem RangeAt.nextC {w : World} {b r : Nat} {l : List (Value × Value)} {ts : List (Nat × Nat)} (h : RangeAt Tryz.prog 3 w b r l (ts.map colPr)) (hne : ts ≠ []) :
  ∃ t1 kc t2 w',ts = t1 ++ kc :: t2 ∧ (∀ ty,(Instr.next (.pointer (some ⟨r,0,none⟩)) false ty).run Tryz.prog w = .ok (.tuple #[.bool true,.int .i64 (kc.1 : Int),.pointer (some ⟨kc.2,0,none⟩)]) w') ∧
   (Instr.entry (.pointer (some ⟨r,0,none⟩))).run Tryz.prog w' = .ok (.tuple #[.int .i64 (kc.1 : Int),.pointer (some ⟨kc.2,0,none⟩)]) w' ∧ RangeAt Tryz.prog 3 w' b r l ((t1 ++ t2).map colPr) ∧ Mod [r] w w' ∧ w'.heap.size = w.heap.size:=by
 obtain ⟨t1,p,t2,w',he,hp,hn,hen,hr,hm,hs⟩:=h.next (by simpa using hne) 0
 obtain ⟨a,c,rfl,rfl,hc⟩:=List.map_eq_append_iff.1 he
 obtain ⟨kc,t,rfl,rfl,rfl⟩:=List.map_eq_cons_iff.1 hc
 refine ⟨a,kc,t,w',rfl,fun ty => ?_,hen,by rw [List.map_append];exact hr,hm,hs⟩
 have : (Instr.next (.pointer (some ⟨r,0,none⟩)) false ty) = (Instr.next (.pointer (some ⟨r,0,none⟩)) false 0):=rfl
 rw [this];exact hn
theorem RangeAt.left_eq {P : Program} {kt : TypeId} {w : World} {b r : Nat} {l todo : List (Value × Value)} (h : RangeAt P kt w b r l todo) : w.rangeLeft b r = todo.length:=by
 obtain ⟨es,clock,since,seen,c0,h1,_,h3,_,_,_,h6⟩:=h
 simp only [World.rangeLeft,h1,h3]
 rw [← h6];simp [prs]
theorem blk_there {w : World} {b : Nat} {xs : List Value} {t : TypeId} (h : w.heap[b]? = some (.cells xs.toArray t (0,0))) {n : Nat} (hn : n ≤ xs.length) : w.there b 0 n:=fun j hj => by
 refine ⟨?_,blk_free h _⟩
 rw [blk_cell h,Nat.zero_add]
 have : j < xs.length:=by omega
 simp [this]
def rowI (kn : Nat) (h : Hd) (x : Nat → Int) : List Int:=hdI h ++ ((kn : Int) :: (List.range 8).map fun k => if kn.testBit k = true then x k else 0)
def rowT (kn : Nat) (h : Hd) (x : Nat → Int) (ts : List (Nat × Nat)) : List Int:=hdI h ++ ((kn : Int) :: (List.range 8).map fun k => if k ∈ ts.map (·.1) then 0 else if kn.testBit k = true then x k else 0)
theorem rowT_length (kn : Nat) (h : Hd) (x : Nat → Int) (ts : List (Nat × Nat)) : (rowT kn h x ts).length = 11:=by simp [rowT,hdI]
theorem rowT_nil (kn : Nat) (h : Hd) (x : Nat → Int) : rowT kn h x [] = rowI kn h x:=by simp [rowT,rowI]
theorem rowT_start (kn : Nat) (h : Hd) (x : Nat → Int) (cs : List (Nat × Nat)) (hc : cs.map (·.1) = natKinds kn 8) : rowT kn h x cs = [h.1,h.2,(kn : Int),0,0,0,0,0,0,0,0]:=by
 have : ((List.range 8).map fun k => if k ∈ cs.map (·.1) then (0 : Int) else if kn.testBit k = true then x k else 0) = (List.range 8).map fun _ => 0:=by
  apply List.map_congr_left
  intro k hk
  rw [hc]
  by_cases hb : kn.testBit k = true
  ·rw [if_pos (by unfold natKinds;exact List.mem_filter.2 ⟨hk,hb⟩)]
  ·rw [if_neg hb];split <;> rfl
 unfold rowT
 rw [this]
 rfl
theorem rowT_step (kn : Nat) (h : Hd) (x : Nat → Int) (t1 t2 : List (Nat × Nat)) (kc : Nat × Nat) (hn : ((t1 ++ kc :: t2).map (·.1)).Nodup) (hk : kc.1 < 8) (hb : kn.testBit kc.1 = true) :
  (rowT kn h x (t1 ++ kc :: t2)).set (3 + kc.1) (x kc.1) = rowT kn h x (t1 ++ t2):=by
 unfold rowT
 obtain ⟨h0,h1⟩:=h
 simp only [hdI,List.cons_append,List.nil_append]
 rw [show 3 + kc.1 = kc.1 + 1 + 1 + 1 by omega,List.set_cons_succ,List.set_cons_succ,List.set_cons_succ]
 congr 3
 apply List.ext_getElem (by simp)
 intro i hi1 hi2
 simp at hi1
 rw [List.getElem_set]
 simp only [List.getElem_map,List.getElem_range]
 rw [List.map_append,List.map_cons] at hn
 have hnd:=List.nodup_append.1 hn
 by_cases e : kc.1 = i
 ·subst e
  rw [if_pos rfl,if_neg,if_pos hb]
  rw [List.map_append,List.mem_append]
  rintro (hm | hm)
  ·exact hnd.2.2 _ hm _ (by simp) rfl
  ·exact (List.nodup_cons.1 hnd.2.1).1 hm
 ·rw [if_neg e]
  have : i ∈ (t1 ++ kc :: t2).map (·.1) ↔ i ∈ (t1 ++ t2).map (·.1):=by
   simp only [List.map_append,mC,List.mem_append,List.mem_cons]
   constructor
   ·rintro (hm | rfl | hm)
    ·exact .inl hm
    ·exact absurd rfl e
    ·exact .inr hm
   ·rintro (hm | hm)
    ·exact .inl hm
    ·exact .inr (.inr hm)
  simp only [this]
def RowPost (l : List Int) (z : Int) (w : World) (e : Ending) (w' : World) : Prop:=e = .returned (.tuple #[.agg (ints l).toArray,.int .i64 z]) ∧ Below w.heap.size w w'
def zero11 : List Int:=[0,0,0,0,0,0,0,0,0,0,0]
section
variable {w : World} {p kn m : Nat} {hs : List Hd} {ls : Nat → List Int} {vh : Value} {cs : List (Nat × Nat)} {Fs : Nat → List Nat}
attribute [local go_sem] AllFrom.cons_eq AllFrom.nil_eq putF_nil putF_cons wantedL_none wantedL_some OpGoalT OpGoalV OpGoalQ YieldsR preF_nil preF_cons
set_option maxRecDepth 20000 in
set_option maxHeartbeats 8000000 in
theorem row_yes (h : TabAt w p kn hs ls vh m cs Fs) (q : Nat) (hq : q < hs.length) (hl : ∀ kc ∈ cs,(ls kc.1).length = hs.length) (hmx : hs.length ≤ 1200000000000) :
  Calls Tryz.prog 85 #[.pointer (some ⟨p,0,none⟩),.int .i64 q] w (RowPost (rowI kn hs[q] fun k => (ls k).getD q 0) 0 w):=by
 have hlt:=h.lt
 have h1:=isRow_any (h.mod ((Mod.refl [] w).alloc (.cells #[.int .i64 0,.int .i64 0,.int .i64 0,.int .i64 0,.int .i64 0,.int .i64 0,.int .i64 0,.int .i64 0,.int .i64 0,.int .i64 0,.int .i64 0] 56)) (by simp)) (q : Int)
 rw [rowB_iff.2 ⟨q,rfl,hq⟩] at h1
 obtain ⟨w0,hw0⟩ : ∃ w0,w.alloc (.cells #[.int .i64 0,.int .i64 0,.int .i64 0,.int .i64 0,.int .i64 0,.int .i64 0,.int .i64 0,.int .i64 0,.int .i64 0,.int .i64 0,.int .i64 0] 56) = w0:=⟨_,rfl⟩
 rw [hw0] at h1
 have hm0 : Mod [] w w0:=by rw [← hw0];exact (Mod.refl _ _).alloc _
 have hs0 : w0.heap.size = w.heap.size + 1:=by rw [← hw0];simp
 have hz0 : w0.heap[w.heap.size]? = some (.cells #[.int .i64 0,.int .i64 0,.int .i64 0,.int .i64 0,.int .i64 0,.int .i64 0,.int .i64 0,.int .i64 0,.int .i64 0,.int .i64 0,.int .i64 0] 56 (0,0)):=by rw [← hw0];exact heap_alloc_new w _
 have h0:=h.mod hm0 (by simp)
 obtain ⟨g,cap,cur,hv,-,-,-⟩:=row_some h0.hd.row (by omega)
 have hck:=row_piece handleC_len (by rw [← hv];exact h0.hd.row) hq 0 (handleC hs[q]) (fun j u hu => by rw [Nat.zero_add];exact hu)
 have hk0:=hck 0 _ rfl
 have hk1:=hck 1 _ rfl
 rw [Addr.add_mid] at hk0 hk1
 simp only [Nat.add_zero] at hk0 hk1
 have c0 : w0.cell? ⟨p,0,none⟩ = some (.int .i64 (kn : Int)):=by rw [blk_cell h0.hd.blk];rfl
 have c1:=h0.hd.cell
 rw [hv] at c1
 have hrg:=row_lt h0.hd.row g (by rw [hv];rfl)
 obtain ⟨x,hx⟩ : ∃ x : Nat → Int,x = fun k => (ls k).getD q 0:=⟨_,rfl⟩
 rw [← hx]
 generalize hs[q] = hd at *
 obtain ⟨hds,hdg⟩:=hd
 simp only at hk0 hk1
 have hqi : (q : Int) < (hs.length : Int):=by omega
 have hle : hs.length ≤ 9223372036854775807:=by omega
 obtain ⟨H,H1,HM0,HZ0,HLT,HL,HX,HS0⟩:=hid8 h h1 hm0 hz0 hlt hl hx hs0
 obtain ⟨K0,K1,C0,C1⟩:=hid4 hk0 hk1 c0 c1
 have hp0:=h0.hd.lt
 clear h h1 hm0 hz0 h0 hlt hl hx hck hk0 hk1 c0 c1 hv hq hs0
 go_enter Tryz.func85,Tryz.ntmps85
 go_wp2_with fail
 clear hw0
 refine H1.out.mono ?_
 rintro e w1 ⟨rfl,rfl⟩
 go_wp2
 refine wp_planF 15 [0,5,8] [some 14,some 15,some 16,some 17,some 18,some 19,some 20,some 21,some 22,some 23,some 24,some 25,some 26,some 27,some 6,none] [[],[0],[0,1],[0,1,2],[0,1,2,3],[],[0,1,2,3,4,5],[0,1,2,3,4,5,6],[],[8],[8,9],[8,9,10],[8,9,10,11],[0,1,2,3,4,5,6,7,8,9,10,11,12],[],[0,1,2,3,4,5,6,7,8,9,10,11,12,13,14]] [0,1,2,3,4,5,6,7,8,9,10,11,12,13,14] 15 (fun vs => [isV (vs.getD 0 undef),isV (vs.getD 1 undef),isV (vs.getD 2 undef),isV (vs.getD 3 undef),isV (vs.getD 4 undef),isV (vs.getD 5 undef),isV (vs.getD 6 undef),isV (vs.getD 7 undef),isV (vs.getD 8 undef),isV (vs.getD 9 undef),isV (vs.getD 10 undef),isV (vs.getD 11 undef),isV (vs.getD 12 undef),isV (vs.getD 13 undef),isV (vs.getD 14 undef)])
  (fun L _ W => Below w0.heap.size w0 W ∧ (L 14 = false → W.heap.size = w0.heap.size) ∧ (L 14 = true → W.heap[w0.heap.size]? = some (.cells #[.int .i64 0,.int .i64 0,.int .i64 0,.int .i64 0,.int .i64 0,.int .i64 0,.int .i64 0,.int .i64 0,.int .i64 0,.int .i64 0,.int .i64 0] 56 (0,0)))) mixed rfl (by kernel_rfl) (by decide) (by decide) ⟨(Below.refl _ _).drew,fun _ => rfl,fun e => absurd e (by simp)⟩ rfl ?_
 iterate 15 apply Exists.intro
 refine ⟨?_,?_⟩
 ·simp only [tS,List.take_zero,AllFrom.cons_eq,AllFrom.nil_eq,OpGoalV]
  refine ⟨?_,?_,?_,?_,?_,?_,?_,?_,?_,?_,?_,?_,?_,?_,?_,trivial⟩
  all_goals (intro L' σ W h1 h2 h3 hI hp;clear h2 h3;(try simp only [gZ,gS,preF_cons,preF_nil,isV,and_true] at hp);(first | (have hq : True:=hp;clear hq hp) | skip);have HI:=Lib.hid hI;have Hh1:=Lib.hid h1;clear hI h1)
  all_goals (
   have k0:=(HI.out.1.cell (p:=⟨g,q * 2,none⟩) hrg).trans K0.out
   have k1:=(HI.out.1.cell (p:=⟨g,q * 2 + 1,none⟩) hrg).trans K1.out
   have d0:=(HI.out.1.cell (p:=⟨p,0,none⟩) hp0).trans C0.out
   have d1:=(HI.out.1.cell (p:=⟨p,1,none⟩) hp0).trans C1.out)
  all_goals (try (go_simp;exact ⟨rfl,⟨HI.out.1,fun e => HI.out.2.1 (upd_false e),fun e => HI.out.2.2 (upd_true e (by decide))⟩,KeepAll.refl⟩))
  ·have hsz:=HI.out.2.1 Hh1.out
   have hnew:=heap_alloc_new W (.cells #[.int .i64 0,.int .i64 0,.int .i64 0,.int .i64 0,.int .i64 0,.int .i64 0,.int .i64 0,.int .i64 0,.int .i64 0,.int .i64 0,.int .i64 0] 56)
   rw [hsz] at hnew
   obtain ⟨HN,HSz⟩:=hid2 hnew hsz
   clear hnew hsz
   go_simp
   exact ⟨by rw [HSz.out];rfl,⟨HI.out.1.alloc HI.out.1.size _,fun e => absurd e (by simp [upd]),fun _ => HN.out⟩,by repeat (first | exact keep_nil | refine keep_isV ?_)⟩
 ·intro L' σ W h1 hI hp
  have hL:=h1 14 (by decide)
  clear h1
  simp only [gZ,gS,preF_cons,preF_nil,isV,and_true] at hp
  obtain ⟨s0,s1,s2,s3,s4,s5,s6,s7,s8,s9,s10,s11,s12,s13,s14⟩:=hp
  have hb:=hI.2.2 hL
  have HB:=Lib.hid hI.1;have HBk:=Lib.hid hb
  clear hI hL hb
  simp only [dS,List.drop_zero]
  go_simp
  clear s0 s1 s2 s3 s4 s5 s6 s7 s8 s9 s10 s11 s12 s13 s14
  have hth:=blk_there (xs:=ints zero11) HBk.out (n:=11) (by simp [zero11,ints])
  have hst:=setCells_block (w:=W) (ints [hds,hdg,(kn : Int),0,0,0,0,0,0,0,0]) 0 W (ints zero11) HBk.out
  rw [setL_all (ints [hds,hdg,(kn : Int),0,0,0,0,0,0,0,0]) (ints zero11) (by simp [ints,zero11])] at hst
  have hmst:=mod_setCells (F:=[w0.heap.size]) (g:=w0.heap.size) (.inl (by simp)) (ints [hds,hdg,(kn : Int),0,0,0,0,0,0,0,0]) 0 W (Mod.refl _ W)
  refine wpList_store_at rfl 56 (.tmp 6) (.tmp 27) rfl w0.heap.size 0 (ints [hds,hdg,(kn : Int),0,0,0,0,0,0,0,0]) rfl rfl hth (info_of inf_Row) (ints_one _) ?_
  generalize W.setCells w0.heap.size 0 (ints [hds,hdg,(kn : Int),0,0,0,0,0,0,0,0]) = W2 at *
  have hbs:=blk_lt HBk.out
  have hmW2 : Mod [w0.heap.size] w W2:=((HM0.out.mono (G:=[w0.heap.size]) (by simp)).trans (Mod.ofBelow HB.out) (by simp)).trans hmst (fun x hx => .inl hx)
  have hnf : ∀ k ∈ tabF p m vh cs Fs,k ∉ [w0.heap.size]:=fun k hk => by have:=HLT.out k hk;have:=HS0.out;simp;omega
  have ht2:=H.out.mod hmW2 hnf
  have hz2 : W2.heap[w.heap.size]? = some (.cells #[.int .i64 0,.int .i64 0,.int .i64 0,.int .i64 0,.int .i64 0,.int .i64 0,.int .i64 0,.int .i64 0,.int .i64 0,.int .i64 0,.int .i64 0] 56 (0,0)):=hmst.keep ((Mod.ofBelow HB.out).keep HZ0.out (by simp)) (by have:=HS0.out;simp;omega)
  have c2 : W2.cell? ⟨p,2,none⟩ = some (.map (some m)):=by rw [blk_cell ht2.hd.blk];rfl
  obtain ⟨o,hrun,hR⟩:=ht2.map.range Tryz.underlying217
  have hsw2:=hmst.size
  obtain ⟨HR,HM2,HZ2,HSt,HT2,HNF⟩:=hid6 hR hmW2 hz2 hst ht2 hnf
  have hbelow : Below w.heap.size w W2:=hmW2.toBelow (fun k hk => by simp at hk;have:=HS0.out;omega) (Nat.le_refl _)
  have HBl:=Lib.hid hbelow
  clear hth hst hmst hmW2 hnf ht2 hz2 hR hbelow
  refine ⟨rfl,?_⟩
  go_wp2
  have hW3 : ∃ W3,W3 = W2.alloc o:=⟨_,rfl⟩
  obtain ⟨W3,hW3⟩:=hW3
  rw [← hW3]
  have hs3 : W3.heap.size = W2.heap.size + 1:=by rw [hW3];simp
  have hm3 : Mod [] W2 W3:=by rw [hW3];exact (Mod.refl _ _).alloc _
  have HR3:=Lib.hid (show RangeAt Tryz.prog 3 W3 m W2.heap.size (cs.map colPr) (cs.map colPr) by rw [hW3];exact HR.out)
  obtain ⟨HM3,HS3⟩:=hid2 hm3 hs3
  have HSt3:=Lib.hid (show W3.heap[w0.heap.size]? = some (.cells (ints (rowT kn (hds,hdg) x cs)).toArray 56 (0,0)) by rw [rowT_start _ _ _ _ H.out.kinds];exact hm3.keep HSt.out (by simp))
  have hb2 : w0.heap.size < W2.heap.size:=blk_lt HSt.out
  clear hW3 hm3 hs3 hrun c2 HR HSt
  generalize W2.heap.size = r at *
  go_loopw [7] (fun _ wr => ∃ ts,RangeAt Tryz.prog 3 wr m r (cs.map colPr) (ts.map colPr) ∧ (∀ kc ∈ ts,kc ∈ cs) ∧ (ts.map (·.1)).Nodup ∧ wr.heap[w0.heap.size]? = some (.cells (ints (rowT kn (hds,hdg) x ts)).toArray 56 (0,0)) ∧ Mod [w0.heap.size,r] W3 wr) (fun _ wr => wr.rangeLeft m r)
  case atStart => exact ⟨cs,HR3.out,fun _ h => h,H.out.nodup,HSt3.out,Mod.refl _ _⟩
  case round =>
   obtain ⟨ts,hR,hsub,hnd,hb,hmod⟩:=hrel
   have hle:=HLT.out
   have hsz0:=HS0.out
   have hrm : w.heap.size < r:=by omega
   have hmw : Mod [w0.heap.size,r] w wr:=((HM2.out.mono (G:=[w0.heap.size,r]) (by simp)).trans HM3.out (by simp)).trans hmod (fun x hx => .inl hx)
   by_cases hts : ts = []
   ·subst hts
    have hov:=fun ty => RangeAt.over (P:=Tryz.prog) (by simpa using hR) ty
    rw [rowT_nil] at hb
    have hz:=hmod.keep (HM3.out.keep HZ2.out (by simp)) (by simp;omega)
    obtain ⟨rs,hrs⟩ : ∃ rs,rs = rowI kn (hds,hdg) x:=⟨_,rfl⟩
    have hrl : rs.length = 11:=by rw [hrs,← rowT_nil,rowT_length]
    rw [← hrs] at hb
    obtain ⟨HMw,HRs⟩:=hid2 hmw hrs
    clear hrs hR hsub hnd hmod hmw
    match rs,hrl with
    | [b0,b1,b2,b3,b4,b5,b6,b7,b8,b9,b10],_ =>
     have hb0 : wr.heap[w0.heap.size]? = some (.cells #[.int .i64 b0,.int .i64 b1,.int .i64 b2,.int .i64 b3,.int .i64 b4,.int .i64 b5,.int .i64 b6,.int .i64 b7,.int .i64 b8,.int .i64 b9,.int .i64 b10] 56 (0,0)):=hb
     have q0:=blk_cell hb0 0
     have q1:=blk_cell hb0 1
     have q2:=blk_cell hb0 2
     have q3:=blk_cell hb0 3
     have q4:=blk_cell hb0 4
     have q5:=blk_cell hb0 5
     have q6:=blk_cell hb0 6
     have q7:=blk_cell hb0 7
     have q8:=blk_cell hb0 8
     have q9:=blk_cell hb0 9
     have q10:=blk_cell hb0 10
     have z0:=blk_cell hz 0
     have z1:=blk_cell hz 1
     have z2:=blk_cell hz 2
     have z3:=blk_cell hz 3
     have z4:=blk_cell hz 4
     have z5:=blk_cell hz 5
     have z6:=blk_cell hz 6
     have z7:=blk_cell hz 7
     have z8:=blk_cell hz 8
     have z9:=blk_cell hz 9
     have z10:=blk_cell hz 10
     have f0:=blk_free hz 0
     have f1:=blk_free hz 1
     have f2:=blk_free hz 2
     have f3:=blk_free hz 3
     have f4:=blk_free hz 4
     have f5:=blk_free hz 5
     have f6:=blk_free hz 6
     have f7:=blk_free hz 7
     have f8:=blk_free hz 8
     have f9:=blk_free hz 9
     have f10:=blk_free hz 10
     simp only [eA,eZ,eS] at q0 z0 q1 z1 q2 z2 q3 z3 q4 z4 q5 z5 q6 z6 q7 z7 q8 z8 q9 z9 q10 z10
     have lq:=blk_lt hb0
     have lz:=blk_lt hz
     have n1 : w0.heap.size ≠ w.heap.size:=by omega
     have n2 : w.heap.size ≠ w0.heap.size:=by omega
     clear hb hb0 hz hsz0
     go_wp2
     refine bodyPost_ret (v:=.tuple #[.agg #[.int .i64 b0,.int .i64 b1,.int .i64 b2,.int .i64 b3,.int .i64 b4,.int .i64 b5,.int .i64 b6,.int .i64 b7,.int .i64 b8,.int .i64 b9,.int .i64 b10],.int .i64 0]) (by unfold results;try go_simp) rfl ?_
     refine ⟨by rw [← HRs.out];rfl,Mod.toBelow (F:=[w0.heap.size,r]) ?_ (by have:=HS0.out;simp;omega) (Nat.le_refl _)⟩
     repeat (refine Mod.setCell ?_ (.inr (by simp only;omega)) _)
     exact HMw.out
   ·obtain ⟨t1,kc,t2,w5,rfl,hnx,hen,hR2,hm5,hs5⟩:=hR.nextC hts
    have hkc : kc ∈ cs:=hsub kc (by simp)
    have hk8 : kc.1 < 8 ∧ kn.testBit kc.1 = true:=by
     have h2 : kc.1 ∈ natKinds kn 8:=by rw [← H.out.kinds];exact List.mem_map.2 ⟨kc,hkc,rfl⟩
     unfold natKinds at h2
     have:=List.mem_filter.1 h2
     exact ⟨by simpa using this.1,this.2⟩
    have hmw5 : Mod [w0.heap.size,r] w w5:=hmw.trans hm5 (fun x hx => .inl (by simp at hx;simp [hx]))
    have ht5:=H.out.mod hmw5 (fun k hk => by have:=hle k hk;simp;omega)
    obtain ⟨v,hf,-⟩:=ht5.cols.col kc hkc
    have hlen:=HL.out kc hkc
    have hrow:=hf.row
    rw [← ints_flat,hlen] at hrow
    obtain ⟨gc,capc,curc,hv,-,-,-⟩:=row_some hrow (by omega)
    have e0:=hf.cell
    rw [hv] at e0 hrow
    have eq:=row_cell hrow (ints_at (ls kc.1) q (by omega))
    have hxk : (ls kc.1)[q]'(by omega) = x kc.1:=by rw [HX.out];simp only;rw [List.getD_eq_getElem?_getD,List.getElem?_eq_getElem (by omega)];rfl
    rw [hxk] at eq
    have hb5:=hm5.keep hb (by simp;omega)
    have hbf:=blk_free hb5 (3 + kc.1)
    have hbc:=blk_cell hb5 (3 + kc.1)
    have hbl:=rowT_length kn (hds,hdg) x (t1 ++ kc :: t2)
    rw [List.getElem?_toArray,ints_at _ _ (by omega)] at hbc
    have hset:=blk_set hb5 (3 + kc.1) (.int .i64 (x kc.1))
    have hstep:=rowT_step kn (hds,hdg) x t1 t2 kc hnd hk8.1 hk8.2
    have hfin : (w5.setCell ⟨w0.heap.size,3 + kc.1,none⟩ (.int .i64 (x kc.1))).heap[w0.heap.size]? = some (.cells (ints (rowT kn (hds,hdg) x (t1 ++ t2))).toArray 56 (0,0)):=by
     rw [hset,← hstep,← ints_set];simp
    have hms : Mod [w0.heap.size] w5 (w5.setCell ⟨w0.heap.size,3 + kc.1,none⟩ (.int .i64 (x kc.1))):=(Mod.refl _ _).setCell (.inl (by simp)) _
    have hR5:=hR2.mod hms (by have:=H.out.map.lt;simp;omega) (by simp;omega)
    have hmeas : (w5.setCell ⟨w0.heap.size,3 + kc.1,none⟩ (.int .i64 (x kc.1))).rangeLeft m r < wr.rangeLeft m r:=by
     rw [hR5.left_eq,hR.left_eq];simp
    generalize (rowT kn (hds,hdg) x (t1 ++ kc :: t2))[3 + kc.1]'(by omega) = old at hbc
    obtain ⟨HFin,HR5,HMeas⟩:=hid3 hfin hR5 hmeas
    have HMm:=Lib.hid ((hmod.trans hm5 (fun x hx => .inl (by simp at hx;simp [hx]))).trans hms (fun x hx => .inl (by simp at hx;simp [hx])))
    have HSub:=Lib.hid (show ∀ kd ∈ t1 ++ t2,kd ∈ cs from fun kd hd => hsub kd (by rcases List.mem_append.1 hd with h | h <;> simp [h]))
    have HNd:=Lib.hid (show ((t1 ++ t2).map (·.1)).Nodup from List.Nodup.sublist (List.Sublist.map _ (List.Sublist.append_left (List.sublist_cons_self _ _) _)) hnd)
    have hk8i : (kc.1 : Int) < 8:=by have:=hk8.1;omega
    have hbl5:=blk_lt hb5
    have hcl:=hf.lt
    have hgcl:=row_lt hrow gc rfl
    obtain ⟨k,c⟩:=kc
    have hqi2 : (q : Int) < (hs.length : Int):=hqi
    clear hsz0 hmod hmw hmw5 ht5 hf hlen hrow hv hxk hb5 hb hbl hset hstep hfin hms hR5 hmeas hR hR2 hsub hnd hts hk8 hkc hm5
    simp only at hbc hbf e0 eq hnx hen hk8i hcl
    go_wp2
    exact ⟨⟨t1 ++ t2,HR5.out,HSub.out,HNd.out,HFin.out,HMm.out⟩,HMeas.out⟩
 all_goals exact undef
end
end Go.Proofs.YtfdillpofciicaaGreatDoor
namespace Go.Proofs.YtfdillpofciicaaGreatDoor
open Go Go.RowKit
attribute [local go_sem] AllFrom.cons_eq AllFrom.nil_eq putF_nil putF_cons wantedL_none wantedL_some OpGoalT OpGoalV OpGoalQ YieldsR preF_nil preF_cons
section
variable {w : World} {p kn m : Nat} {hs : List Hd} {ls : Nat → List Int} {vh : Value} {cs : List (Nat × Nat)} {Fs : Nat → List Nat}
end
section
variable {w : World} {q kn : Nat} {rows : List Rw} {vl : Value}
end
end Go.Proofs.YtfdillpofciicaaGreatDoor
namespace Go.Proofs.YtfdillpofciicaaGreatDoor
open Go.RowKit
end Go.Proofs.YtfdillpofciicaaGreatDoor
namespace Go.Proofs.YtfdillpofciicaaGreatDoor
open Go Go.RowKit
def RepBt (w : World) (b : Nat) (K : Int) (l : List Int) : Prop:=w.heap[b]? = some (.cells (Value.int .i64 K :: ints l).toArray 45 (0,0))
theorem RepBt.v {w : World} {b : Nat} {K : Int} {l : List Int} (h : RepBt w b K l) {k : Nat} (hk : k < l.length) : w.cell? ⟨b,1 + k,none⟩ = some (.int .i64 l[k]):=by
 rw [blk_cell h,Nat.add_comm]
 simp [ints,hk]
theorem RepBt.lt {w : World} {b : Nat} {K : Int} {l : List Int} (h : RepBt w b K l) : b < w.heap.size:=blk_lt h
theorem RepBt.mod {w w' : World} {b : Nat} {K : Int} {l : List Int} {F : List Nat} (h : RepBt w b K l) (hm : Mod F w w') (hd : b ∉ F) : RepBt w' b K l:=hm.keep h hd
end Go.Proofs.YtfdillpofciicaaGreatDoor
namespace Go.Proofs.YtfdillpofciicaaGreatDoor
open Go Go.RowKit
attribute [local go_sem] AllFrom.cons_eq AllFrom.nil_eq putF_nil putF_cons wantedL_none wantedL_some OpGoalT OpGoalV OpGoalQ YieldsR preF_nil preF_cons
section
variable {w : World} {p kn m : Nat} {hs : List Hd} {ls : Nat → List Int} {vh : Value} {cs : List (Nat × Nat)} {Fs : Nat → List Nat}
def AddOk (w : World) (p kn m : Nat) (hs : List Hd) (ls : Nat → List Int) (vh : Value) (cs : List (Nat × Nat)) (Fs : Nat → List Nat) (h : Hd) (x : Nat → Int) (e : Ending) (w' : World) : Prop :=
 e = .returned (.tuple #[.int .i64 (hs.length : Int),.int .i64 0]) ∧ ∃ vh' Fs',TabAt w' p kn (hs ++ [h]) (fun k => ls k ++ [x k]) vh' m cs Fs' ∧ (∀ y ∈ tabF p m vh' cs Fs',y ∈ tabF p m vh cs Fs ∨ w.heap.size ≤ y) ∧ Mod (tabF p m vh cs Fs) w w'
theorem TabAt.head {w' : World} (h : TabAt w p kn hs ls vh m cs Fs) {hs' : List Hd} (hp : FieldPost handleC 47 2 w p 1 (tabCs kn vh m) 219 vh hs' w') :
  ∃ vh',TabAt w' p kn hs' ls vh' m cs Fs ∧ (∀ k,vh'.ownBlock = some k → vh.ownBlock = some k ∨ w.heap.size ≤ k) ∧ Mod (p :: vh.ownBlock.toList) w w':=by
 obtain ⟨⟨vh',hf,hl⟩,hm⟩:=hp
 have hnm : m ∉ p :: vh.ownBlock.toList:=by
  intro hx
  rcases List.mem_cons.1 hx with e | hx
  ·exact h.mp e
  ·exact h.mh m (by simpa using hx) rfl
 refine ⟨vh',⟨hf,h.map.mod hm hnm,h.kinds,⟨(h.cols.mod hm (fun kc hk x hx hy => h.cols.off kc hk x hx (by rcases List.mem_cons.1 hy with e | hy <;> simp [*]))).col,h.cols.apart,?_⟩,h.mp,?_⟩,hl,hm⟩
 ·intro kc hk x hx hy
  have hlt:=(h.cols.col kc hk).lt x hx
  rcases List.mem_cons.1 hy with e | hy
  ·exact h.cols.off kc hk x hx (by simp [e])
  ·rcases List.mem_cons.1 hy with e | hy
   ·exact h.cols.off kc hk x hx (by simp [e])
   ·rcases hl x (by simpa using hy) with h1 | h1
    ·exact h.cols.off kc hk x hx (by simp [h1])
    ·omega
 ·intro k hk
  rcases hl k hk with h1 | h1
  ·exact h.mh k h1
  ·have:=h.map.lt;omega
theorem TabAt.base (h : TabAt w p kn hs ls vh m cs Fs) : ∀ x ∈ p :: m :: vh.ownBlock.toList,x < w.heap.size:=fun x hx => h.lt x (by
 simp only [tabF,List.mem_cons,List.mem_append] at hx ⊢
 rcases hx with h | h | h
 ·exact .inl h
 ·exact .inr (.inl h)
 ·exact .inr (.inr (.inl h)))
set_option maxRecDepth 20000 in
set_option maxHeartbeats 8000000 in
theorem add_ok (h : TabAt w p kn hs ls vh m cs Fs) (s g a0 a1 a2 a3 a4 a5 a6 a7 : Int) (hb : beastE (kn : Int) [a0,a1,a2,a3,a4,a5,a6,a7] = 0) (hl : ∀ kc ∈ cs,(ls kc.1).length = hs.length) (hmx : hs.length < 1200000000000) :
  Calls Tryz.prog 145 #[.pointer (some ⟨p,0,none⟩),.agg #[.int .i64 s,.int .i64 g],.agg #[.int .i64 (kn : Int),.int .i64 a0,.int .i64 a1,.int .i64 a2,.int .i64 a3,.int .i64 a4,.int .i64 a5,.int .i64 a6,.int .i64 a7]] w (AddOk w p kn m hs ls vh cs Fs (s,g) (fun k => valK k ((kn : Int),a0,a1,a2,a3,a4,a5,a6,a7))):=by
 have h1:=fun w => checkBeast_any (kn : Int) a0 a1 a2 a3 a4 a5 a6 a7 w
 rw [hb] at h1
 have H1:=Lib.hid h1
 have H:=Lib.hid h;have HL:=Lib.hid hl;have HLT:=Lib.hid h.lt
 clear h1 hb h hl
 go_enter Tryz.func145,Tryz.ntmps145
 go_wp2_with fail
 refine (H1.out _).mono ?_
 rintro e w1 ⟨rfl,hb1⟩
 have k2:=(Mod.ofBelow hb1).keep (blk_alloc (heap_alloc_new w _) _) (by simp)
 have k3:=(Mod.ofBelow hb1).keep (heap_alloc_new (w.alloc _) _) (by simp)
 have hz1:=hb1.size
 have hB:=(((Below.refl w.heap.size w).alloc (Nat.le_refl _) _).alloc (by simp) _).trans (hb1.mono (by simp;omega))
 simp only [World.size_alloc] at k3 hz1
 have ht:=H.out.mod (Mod.mono (Mod.ofBelow (hB.mono (Nat.le_refl _))) (by simp)) (fun k hk => List.not_mem_nil)
 have d0 : w1.cell? ⟨p,0,none⟩ = some (.int .i64 (kn : Int)):=by rw [blk_cell ht.hd.blk];rfl
 obtain ⟨HB,HT,K3⟩:=hid3 hB ht k3
 have c0:=blk_cell k3 0
 simp only [eA,eZ,eS] at c0
 have lc:=blk_lt k3
 have b0:=blk_cell k2 0
 have b1:=blk_cell k2 1
 simp only [eA,eZ,eS] at b0 b1
 have lb:=blk_lt k2
 clear k2 k3 hb1 H1 hB ht
 go_wp2
 refine wp_planR 7 [2] [some 16,some 17,some 18,some 19,some 20,some 21,some 22] [[],[0],[],[2],[2,3],[2,3,4],[0,1,2,3,4,5]] [0,1,2,3,4,5,6] mixed rfl (by kernel_rfl) (by decide) (by decide) rfl ?_
 iterate 7 apply Exists.intro
 refine ⟨rfl,?_,?_⟩
 ·simp only [tS,List.take_zero,AllFrom.cons_eq,AllFrom.nil_eq,OpGoalQ]
  refine ⟨?_,?_,?_,?_,?_,?_,?_,trivial⟩
  all_goals (intro σ hp;(try simp only [gZ,gS,mC,mN,preF_cons,preF_nil,isV,and_true] at hp);(first | (have hq : True:=hp;clear hq hp) | skip))
  all_goals (go_simp;exact ⟨rfl,rfl⟩)
 intro σ hp
 simp only [gZ,gS,mC,mN,preF_cons,preF_nil,isV,and_true] at hp
 simp only [dS,List.drop_zero]
 go_simp
 clear hp
 refine ⟨rfl,?_⟩
 go_wp2
 refine wp_planR 4 [0] [some 23,some 24,some 25,some 26,some 27] [[],[0],[0,1],[],[0,1,2,3]] [0,1,2,3] mixed rfl (by kernel_rfl) (by decide) (by decide) rfl ?_
 iterate 4 apply Exists.intro
 refine ⟨rfl,?_,?_⟩
 ·simp only [tS,List.take_zero,AllFrom.cons_eq,AllFrom.nil_eq,OpGoalQ]
  refine ⟨?_,?_,?_,?_,trivial⟩
  all_goals (intro σ hp;(try simp only [gZ,gS,mC,mN,preF_cons,preF_nil,isV,and_true] at hp);(first | (have hq : True:=hp;clear hq hp) | skip))
  all_goals (go_simp;exact ⟨rfl,rfl⟩)
 intro σ hp
 simp only [gZ,gS,mC,mN,preF_cons,preF_nil,isV,and_true] at hp
 simp only [dS,List.drop_zero]
 go_simp
 clear hp
 go_wp2_with fail
 have ht2 : TabAt w1.drew.drew p kn hs ls vh m cs Fs:=HT.out.mod (G:=[]) ((Mod.refl _ w1).drew.drew) (by simp)
 refine (hdlAdd_any p 1 _ _ vh hs s g _ ht2.hd (by omega)).mono ?_
 rintro e w3 ⟨rfl,hpost⟩
 obtain ⟨vh',ht3,hloc,hm3⟩:=ht2.head hpost
 have hs3 : w1.heap.size ≤ w3.heap.size:=hm3.size
 have c2 : w3.cell? ⟨p,2,none⟩ = some (.map (some m)):=by rw [blk_cell ht3.hd.blk];rfl
 obtain ⟨o,hrun,hR⟩:=ht3.map.range Tryz.underlying217
 have hbb : (#[.int .i64 (kn : Int),.int .i64 a0,.int .i64 a1,.int .i64 a2,.int .i64 a3,.int .i64 a4,.int .i64 a5,.int .i64 a6,.int .i64 a7] : Array Value) = ((Value.int .i64 (kn : Int) :: ints [a0,a1,a2,a3,a4,a5,a6,a7]).toArray):=rfl
 have hBt : RepBt w3 (w.heap.size + 1) (kn : Int) [a0,a1,a2,a3,a4,a5,a6,a7]:=hm3.keep K3.out (by
  intro hx
  have hx' : w.heap.size + 1 ∈ tabF p m vh cs Fs:=by
   simp only [tabF,List.mem_cons,List.mem_append]
   rcases List.mem_cons.1 hx with e | hx
   ·exact .inl e
   ·exact .inr (.inr (.inl hx))
  have:=HLT.out _ hx';omega)
 obtain ⟨HR,HBt,HT3,HLoc,HM3⟩:=hid5 hR hBt ht3 hloc hm3
 have hpl:=HT3.out.hd.lt
 clear hR hBt hbb ht3 hloc hm3 ht2 hpost d0 c0 lc b0 b1 lb
 go_wp2
 refine ⟨rfl,?_⟩
 go_wp2
 have hW3 : ∃ W3,W3 = w3.alloc o:=⟨_,rfl⟩
 obtain ⟨W3,hW3⟩:=hW3
 rw [← hW3]
 have hsW : W3.heap.size = w3.heap.size + 1:=by rw [hW3];simp
 have hmW : Mod [] w3 W3:=by rw [hW3];exact (Mod.refl _ _).alloc _
 have HR3:=Lib.hid (show RangeAt Tryz.prog 3 W3 m w3.heap.size (cs.map colPr) (cs.map colPr) by rw [hW3];exact HR.out)
 have HTW:=Lib.hid (HT3.out.mod hmW (by simp));have HBW:=Lib.hid (RepBt.mod HBt.out hmW (by simp))
 obtain ⟨HSW,HMW⟩:=hid2 hsW hmW
 have hnew0 : ∀ kd ∈ cs,∀ x ∈ Fs kd.1,x ∈ Fs kd.1 ∨ W3.heap.size ≤ x:=fun _ _ _ h => .inl h
 have HN0:=Lib.hid hnew0
 have HFlt:=Lib.hid (show ∀ kd ∈ cs,∀ x ∈ Fs kd.1,x < w.heap.size from fun kd hd x hx => (H.out.cols.col kd hd).lt x hx)
 have hrlt : w3.heap.size < W3.heap.size:=by omega
 clear hW3 hsW hmW hrun c2 HR hnew0
 generalize hrw : w3.heap.size = r at *
 have HRw:=Lib.hid hrw
 clear hrw
 go_loopw [9] (fun _ wr => ∃ (ts : List (Nat × Nat)) (Fs' : Nat → List Nat),RangeAt Tryz.prog 3 wr m r (cs.map colPr) (ts.map colPr) ∧ (∀ kc ∈ ts,kc ∈ cs) ∧ (ts.map (·.1)).Nodup ∧ ColsAt wr cs (fun k => if k ∈ ts.map (·.1) then ls k else ls k ++ [valK k ((kn : Int),a0,a1,a2,a3,a4,a5,a6,a7)]) Fs' (p :: m :: vh'.ownBlock.toList) ∧
  (∀ kd ∈ cs,∀ x ∈ Fs' kd.1,x ∈ Fs kd.1 ∨ W3.heap.size ≤ x) ∧ Mod (r :: cs.flatMap (fun kc => Fs kc.1)) W3 wr) (fun _ wr => wr.rangeLeft m r)
 case atStart => exact ⟨cs,Fs,HR3.out,fun _ h => h,H.out.nodup,HTW.out.cols.congr (fun kc hk => by rw [if_pos (List.mem_map.2 ⟨kc,hk,rfl⟩)]),HN0.out,Mod.refl _ _⟩
 case round =>
  obtain ⟨ts,Fs',hR,hsub,hnd,hcols,hnew,hmod⟩:=hrel
  have hwr:=hmod.size
  have hbF : ∀ x,w.heap.size ≤ x → x < r → x ∉ r :: cs.flatMap (fun kc => Fs kc.1):=by
   intro x h1 h2 hx
   rcases List.mem_cons.1 hx with e | hx
   ·omega
   ·obtain ⟨kd,hd,hx⟩:=List.mem_flatMap.1 hx
    have:=HFlt.out kd hd x hx;omega
  have hbase:=HTW.out.base
  have hrw:=HRw.out
  have hsz1 : W3.heap.size = r + 1:=HSW.out
  by_cases hts : ts = []
  ·subst hts
   have hov:=fun ty => RangeAt.over (P:=Tryz.prog) (by simpa using hR) ty
   have hpF : p ∉ r :: cs.flatMap (fun kc => Fs kc.1):=by
    intro hx
    rcases List.mem_cons.1 hx with e | hx
    ·have:=hbase p (by simp);omega
    ·obtain ⟨kd,hd,hx⟩:=List.mem_flatMap.1 hx
     exact H.out.cols.off kd hd p hx (by simp)
   have hbaseF : ∀ x ∈ p :: m :: vh'.ownBlock.toList,x ∉ r :: cs.flatMap (fun kc => Fs kc.1):=by
    intro x hxb hx
    rcases List.mem_cons.1 hx with e | hx
    ·subst e
     have:=HT3.out.base x hxb;omega
    ·obtain ⟨kd,hd,hx⟩:=List.mem_flatMap.1 hx
     exact HTW.out.cols.off kd hd x hx hxb
   have hhd:=HTW.out.hd.mod hmod (hbaseF p (by simp)) (fun k hk => hbaseF k (by simp [hk]))
   have hfin : TabAt wr p kn (hs ++ [(s,g)]) (fun k => ls k ++ [valK k ((kn : Int),a0,a1,a2,a3,a4,a5,a6,a7)]) vh' m cs Fs' :=
    ⟨hhd,HTW.out.map.mod hmod (hbaseF m (by simp)),H.out.kinds,hcols.congr (fun kc _ => by simp),HTW.out.mp,HTW.out.mh⟩
   have hturn : ∀ y ∈ tabF p m vh' cs Fs',y ∈ tabF p m vh cs Fs ∨ w.heap.size ≤ y:=by
    intro y hy
    simp only [tabF,List.mem_cons,List.mem_append,List.mem_flatMap] at hy ⊢
    rcases hy with h1 | h1 | h1 | ⟨kd,hd,h1⟩
    ·exact .inl (.inl h1)
    ·exact .inl (.inr (.inl h1))
    ·rcases HLoc.out y (by simpa using h1) with h2 | h2
     ·exact .inl (.inr (.inr (.inl (by simp [h2]))))
     ·right;have : w1.drew.drew.heap.size = w1.heap.size:=rfl;omega
    ·rcases hnew kd hd y h1 with h2 | h2
     ·exact .inl (.inr (.inr (.inr ⟨kd,hd,h2⟩)))
     ·right;omega
   have hmall : Mod (tabF p m vh cs Fs) w wr:=by
    have ha : Mod (tabF p m vh cs Fs) w w1.drew.drew:=((Mod.ofBelow HB.out).mono (by simp)).drew.drew
    have hb : Mod (tabF p m vh cs Fs) w w3:=ha.trans HM3.out (fun x hx => .inl (by
     simp only [tabF,List.mem_cons,List.mem_append] at hx ⊢
     rcases hx with h1 | h1
     ·exact .inl h1
     ·exact .inr (.inr (.inl h1))))
    have hc : Mod (tabF p m vh cs Fs) w W3:=hb.trans HMW.out (by simp)
    refine hc.trans hmod (fun x hx => ?_)
    rcases List.mem_cons.1 hx with e | hx
    ·right;omega
    ·left
     simp only [tabF,List.mem_cons,List.mem_append]
     exact .inr (.inr (.inr hx))
   have hpc:=hhd.cell
   have hrow:=hhd.row
   obtain ⟨A2,cap2,he,-,-⟩:=row_slice hrow
   rw [he] at hpc
   have hll : (hs ++ [(s,g)]).length = hs.length + 1:=by simp
   rw [hll] at hpc
   obtain ⟨HFin,HTurn,HMall⟩:=hid3 hfin hturn hmall
   have hle : hs.length ≤ 1200000000000:=by omega
   clear hrw hsz1 hfin hturn hmall hhd hrow he hll hpF hbaseF hbF hbase hR hsub hnd hcols hnew hmod
   go_wp2
   go_ret2
   exact ⟨rfl,vh',Fs',HFin.out,HTurn.out,HMall.out⟩
  ·obtain ⟨t1,kc,t2,w5,rfl,hnx,hen,hR2,hm5,hs5⟩:=hR.nextC hts
   have hkc : kc ∈ cs:=hsub kc (by simp)
   have hk8 : kc.1 < 8:=by
    have h2 : kc.1 ∈ natKinds kn 8:=by rw [← H.out.kinds];exact List.mem_map.2 ⟨kc,hkc,rfl⟩
    exact natKinds_lt h2
   have hbt5 : RepBt w5 (w.heap.size + 1) (kn : Int) [a0,a1,a2,a3,a4,a5,a6,a7]:=(RepBt.mod HBW.out hmod (hbF _ (by omega) (by omega))).mod hm5 (by simp;omega)
   have hrF : ∀ kd ∈ cs,∀ x ∈ Fs' kd.1,x ≠ r:=by
    intro kd hd x hx
    rcases hnew kd hd x hx with h1 | h1
    ·have:=HFlt.out kd hd x h1;omega
    ·omega
   have hcols5:=hcols.mod hm5 (fun kd hd x hx => by simpa using hrF kd hd x hx)
   obtain ⟨v,hf,hF⟩:=hcols5.col kc hkc
   have hlen:=HL.out kc hkc
   have hin : kc.1 ∈ (t1 ++ kc :: t2).map (·.1):=by simp
   rw [if_pos hin] at hf
   have cv:=RepBt.v hbt5 (k:=kc.1) (by simpa using hk8)
   have hxv : valK kc.1 ((kn : Int),a0,a1,a2,a3,a4,a5,a6,a7) = [a0,a1,a2,a3,a4,a5,a6,a7][kc.1]'(by simpa using hk8):=by
    unfold valK btI
    rw [List.getD_cons_succ,List.getD_eq_getElem?_getD,List.getElem?_eq_getElem (by simpa using hk8)];rfl
   rw [← hxv] at cv
   have hcall:=colAdd_any kc.2 0 #[v] 222 v (ls kc.1) (valK kc.1 ((kn : Int),a0,a1,a2,a3,a4,a5,a6,a7)) w5 hf (by omega)
   have hk8i : (kc.1 : Int) < 8:=by omega
   have hfin : ∀ w6,FieldPost intC 3 1 w5 kc.2 0 #[v] 222 v (ls kc.1 ++ [valK kc.1 ((kn : Int),a0,a1,a2,a3,a4,a5,a6,a7)]) w6 →
     (∃ (ts : List (Nat × Nat)) (Fs' : Nat → List Nat),RangeAt Tryz.prog 3 w6 m r (cs.map colPr) (ts.map colPr) ∧ (∀ kc ∈ ts,kc ∈ cs) ∧ (ts.map (·.1)).Nodup ∧ ColsAt w6 cs (fun k => if k ∈ ts.map (·.1) then ls k else ls k ++ [valK k ((kn : Int),a0,a1,a2,a3,a4,a5,a6,a7)]) Fs' (p :: m :: vh'.ownBlock.toList) ∧
      (∀ kd ∈ cs,∀ x ∈ Fs' kd.1,x ∈ Fs kd.1 ∨ W3.heap.size ≤ x) ∧ Mod (r :: cs.flatMap (fun kc => Fs kc.1)) W3 w6) ∧ w6.rangeLeft m r < wr.rangeLeft m r:=by
    intro w6 hp6
    obtain ⟨Fs2,hc6,hn6,hm6⟩:=hcols5.step H.out.nodup (fun x hx => by have:=hbase x hx;omega) hkc hF hp6
    have hR6:=hR2.mod hm6 (fun hx => hcols.off kc hkc m hx (by simp)) (fun hx => hrF kc hkc r hx rfl)
    refine ⟨⟨t1 ++ t2,Fs2,hR6,fun kd hd => hsub kd (by rcases List.mem_append.1 hd with h | h <;> simp [h]),List.Nodup.sublist (List.Sublist.map _ (List.Sublist.append_left (List.sublist_cons_self _ _) _)) hnd,hc6.congr ?_,?_,?_⟩,by rw [hR6.left_eq,hR.left_eq];simp⟩
    ·intro kd hd
     rw [List.map_append,List.map_cons] at hnd
     have hnd2:=List.nodup_append.1 hnd
     by_cases e : kd.1 = kc.1
     ·rw [e,updL_same,if_neg]
      rw [List.map_append,List.mem_append]
      rintro (hm | hm)
      ·exact hnd2.2.2 _ hm _ (by simp) rfl
      ·exact (List.nodup_cons.1 hnd2.2.1).1 hm
     ·rw [updL_ne _ _ e]
      have : kd.1 ∈ (t1 ++ kc :: t2).map (·.1) ↔ kd.1 ∈ (t1 ++ t2).map (·.1):=by
       simp only [List.map_append,mC,List.mem_append,List.mem_cons]
       constructor
       ·rintro (hm | hm | hm)
        ·exact .inl hm
        ·exact absurd hm e
        ·exact .inr hm
       ·rintro (hm | hm)
        ·exact .inl hm
        ·exact .inr (.inr hm)
      simp only [this]
    ·intro kd hd x hx
     rcases hn6 kd hd x hx with h1 | h1
     ·exact hnew kd hd x h1
     ·right;omega
    ·refine (hmod.trans hm5 (fun x hx => .inl (by simp at hx;simp [hx]))).trans hm6 (fun x hx => ?_)
     rcases hnew kc hkc x hx with h1 | h1
     ·exact .inl (List.mem_cons_of_mem _ (List.mem_flatMap.2 ⟨kc,hkc,h1⟩))
     ·exact .inr h1
   obtain ⟨HCall,HFin⟩:=hid2 hcall hfin
   have hbl5:=RepBt.lt hbt5
   obtain ⟨k,c⟩:=kc
   clear hrw hsz1 hfin hcall hxv hin hlen hf hF hcols5 hrF hbt5 hR2 hm5 hs5 hts hmod hnew hcols hnd hsub hR hk8 hkc hbF hbase
   simp only at hnx hen cv hk8i
   go_wp2_with fail
   refine HCall.out.mono ?_
   rintro e w6 ⟨rfl,hp6⟩
   have HF6:=Lib.hid (HFin.out w6 hp6)
   clear hp6 HFin
   go_wp2
   exact HF6.out
end
end Go.Proofs.YtfdillpofciicaaGreatDoor
