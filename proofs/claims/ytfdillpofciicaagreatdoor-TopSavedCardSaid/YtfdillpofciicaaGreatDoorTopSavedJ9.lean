import Derived.Test.YtfdillpofciicaaGreatDoorTopSavedJ8
import Derived.Maps.Range
set_option linter.unusedVariables false
set_option linter.unusedSimpArgs false
/- A part of the proof that TopSaved returns true. -/
namespace Go.Proofs.YtfdillpofciicaaGreatDoor
open Go Go.RowKit
def rowB (r : Int) (n : Nat) : Bool:=decide (0 ≤ r) && decide (r < (n : Int))
theorem rowB_iff {r : Int} {n : Nat} : rowB r n = true ↔ ∃ k : Nat,r = k ∧ k < n:=by
 simp only [rowB,Bool.and_eq_true,decide_eq_true_eq]
 constructor
 ·intro h;exact ⟨r.toNat,by omega,by omega⟩
 ·rintro ⟨k,rfl,h⟩;omega
section
variable {w : World} {p kn m : Nat} {hs : List Hd} {ls : Nat → List Int} {vh : Value} {cs : List (Nat × Nat)} {Fs : Nat → List Nat}
theorem isRow_any (h : TabAt w p kn hs ls vh m cs Fs) (r : Int) :
  Calls Tryz.prog 135 #[.pointer (some ⟨p,0,none⟩),.int .i64 r] w fun e w' => e = .returned (.bool (rowB r hs.length)) ∧ w = w':=by
 obtain ⟨A,cap,he,hn,hc⟩:=row_slice h.hd.row
 have c1:=h.hd.cell
 rw [he] at c1
 have hle : hs.length ≤ 9223372036854775807:=by unfold maxLen at hc;omega
 clear he hn hc
 by_cases h0 : 0 ≤ r
 ·have hd : decide (0 ≤ r) = true:=by simpa using h0
  have H:=Lib.hid (show rowB r hs.length = decide (r < (hs.length : Int)) by unfold rowB;rw [hd];rfl)
  clear h h0
  go_enter Tryz.func135,Tryz.ntmps135
  go_wp2
  go_ret
  exact ⟨by rw [H.out];rfl,rfl⟩
 ·have hd : decide (0 ≤ r) = false:=by simpa using h0
  have H:=Lib.hid (show rowB r hs.length = false by unfold rowB;rw [hd];rfl)
  clear h h0
  go_enter Tryz.func135,Tryz.ntmps135
  go_wp2
  go_ret
  exact ⟨by rw [H.out];rfl,rfl⟩
def ofV (a : Option Addr) (z : Int) : Value:=.tuple #[.pointer a,.int .i64 z]
theorem colOf_bad (k : Int) (hk : k < 0 ∨ 8 ≤ k) (w : World) : Calls Tryz.prog 153 #[.pointer (some ⟨p,0,none⟩),.int .i64 k] w fun e w' => e = .returned (ofV none 1) ∧ w = w':=by
 rcases hk with hk | hk
 ·have hd : decide (k < 0) = true:=by simpa using hk
  go_enter Tryz.func153,Tryz.ntmps153
  go_wp2
  go_ret2
  exact ⟨rfl,rfl⟩
 ·have hd : decide (k < 0) = false:=by simp;omega
  have hd2 : decide (8 ≤ k) = true:=by simpa using hk
  go_enter Tryz.func153,Tryz.ntmps153
  go_wp2
  go_ret2
  exact ⟨rfl,rfl⟩
theorem zeroCol (w : World) : (zeroValue 220).run Tryz.prog w = .ok (.pointer none) w:=by kernel_rfl
theorem inR_nat {k : Nat} (h : k < 256) : InR (k : Int):=by unfold InR;omega
theorem colOf_no (h : TabAt w p kn hs ls vh m cs Fs) (k : Nat) (hk : k < 8) (hb : kn.testBit k = false) :
  Calls Tryz.prog 153 #[.pointer (some ⟨p,0,none⟩),.int .i64 k] w fun e w' => e = .returned (ofV none 5) ∧ w = w':=by
 have c2 : w.cell? ⟨p,2,none⟩ = some (.map (some m)):=by rw [blk_cell h.hd.blk];rfl
 have hlk:=h.map.look_out keyedInt Tryz.underlying217 (zeroCol w) (keyInt (inR_nat (show k < 256 by omega))) (by
  intro q hq e
  obtain ⟨kc,hc,rfl⟩:=List.mem_map.1 hq
  have h1 : (kc.1 : Int) = k:=by simpa [colPr] using e
  have h2 : kc.1 ∈ natKinds kn 8:=by rw [← h.kinds];exact List.mem_map.2 ⟨kc,hc,rfl⟩
  unfold natKinds at h2
  have h3:=(List.mem_filter.1 h2).2
  rw [show kc.1 = k by omega,hb] at h3
  cases h3) true
 simp only [if_true] at hlk
 have hd : decide ((k : Int) < 0) = false:=by simp
 have hd2 : decide (8 ≤ (k : Int)) = false:=by simp;omega
 clear h hb
 go_enter Tryz.func153,Tryz.ntmps153
 go_wp2
 go_ret2
 exact ⟨rfl,rfl⟩
theorem colOf_yes (h : TabAt w p kn hs ls vh m cs Fs) (kc : Nat × Nat) (hc : kc ∈ cs) :
  Calls Tryz.prog 153 #[.pointer (some ⟨p,0,none⟩),.int .i64 (kc.1 : Int)] w fun e w' => e = .returned (ofV (some ⟨kc.2,0,none⟩) 0) ∧ w = w':=by
 have hk8 : kc.1 < 8:=by
  have h2 : kc.1 ∈ natKinds kn 8:=by rw [← h.kinds];exact List.mem_map.2 ⟨kc,hc,rfl⟩
  exact natKinds_lt h2
 have c2 : w.cell? ⟨p,2,none⟩ = some (.map (some m)):=by rw [blk_cell h.hd.blk];rfl
 have hlk:=h.map.look_in keyedInt Tryz.underlying217 (keyInt (inR_nat (show kc.1 < 256 by omega))) (v:=.pointer (some ⟨kc.2,0,none⟩)) (List.mem_map.2 ⟨kc,hc,rfl⟩) true
 simp only [if_true] at hlk
 obtain ⟨k,c⟩:=kc
 simp only at hlk hk8 ⊢
 have hd : decide ((k : Int) < 0) = false:=by simp
 have hd2 : decide (8 ≤ (k : Int)) = false:=by simp;omega
 clear h hc
 go_enter Tryz.func153,Tryz.ntmps153
 go_wp2
 go_ret2
 exact ⟨rfl,rfl⟩
theorem handles_any (h : TabAt w p kn hs ls vh m cs Fs) (hl : hs.length ≤ 1200000000000) :
  Calls Tryz.prog 84 #[.pointer (some ⟨p,0,none⟩)] w (MadeR 47 2 handleC hs w):=by
 obtain ⟨A,cap,he,hn,hc⟩:=row_slice h.hd.row
 have c1:=h.hd.cell
 have hrow:=h.hd.row
 rw [he] at c1 hrow
 obtain ⟨A',cap',he',_,hlies⟩:=own_lies hrow
 cases he'
 have hnil : A = none → hs = [] ∧ cap = 0:=by
  rintro rfl
  rcases hrow with ⟨hl,⟨h1,h2⟩ | ⟨g,cap2,cur,h1,_⟩⟩
  ·simp only [Value.slice.injEq,true_and] at h1
   exact ⟨List.eq_nil_of_length_eq_zero h1.1,h1.2⟩
  ·cases h1
 have hcl:=cloneH_any A cap hs w (by omega) hlies (fun e => (hnil e).1) (fun e => (hnil e).2)
 have H:=Lib.hid hcl
 have hle : hs.length ≤ 9223372036854775807:=by omega
 clear h he hn hc hrow hlies hnil hcl hl
 go_enter Tryz.func84,Tryz.ntmps84
 go_wp2_with fail
 refine H.out.mono ?_
 rintro e w1 ⟨v,rfl,hown,hb⟩
 obtain ⟨HO,HB⟩:=hid2 hown hb
 clear hown hb
 obtain ⟨A2,cap2,rfl,-,-⟩:=row_slice HO.out
 go_wp2
 go_ret
 exact ⟨_,rfl,HO.out,HB.out⟩
end
def kindE (kn : Nat) (k : Int) : Int:=if k < 0 ∨ 8 ≤ k then 1 else if kn.testBit k.toNat = true then 0 else 5
theorem kindE_cases (kn : Nat) (k : Int) : ((k < 0 ∨ 8 ≤ k) ∧ kindE kn k = 1) ∨ (∃ j : Nat,k = j ∧ j < 8 ∧ kn.testBit j = false ∧ kindE kn k = 5) ∨ (∃ j : Nat,k = j ∧ j < 8 ∧ kn.testBit j = true ∧ kindE kn k = 0):=by
 by_cases h : k < 0 ∨ 8 ≤ k
 ·exact .inl ⟨h,by unfold kindE;rw [if_pos h]⟩
 ·obtain ⟨j,rfl⟩:=Int.eq_ofNat_of_zero_le (show 0 ≤ k by omega)
  right
  cases hb : kn.testBit j
  ·exact .inl ⟨j,rfl,by omega,hb,by unfold kindE;rw [if_neg h];simp [hb]⟩
  ·exact .inr ⟨j,rfl,by omega,hb,by unfold kindE;rw [if_neg h];simp [hb]⟩
section
variable {w : World} {p kn m : Nat} {hs : List Hd} {ls : Nat → List Int} {vh : Value} {cs : List (Nat × Nat)} {Fs : Nat → List Nat}
theorem TabAt.kind (h : TabAt w p kn hs ls vh m cs Fs) {k : Nat} (hk : k < 8) (hb : kn.testBit k = true) : ∃ c,(k,c) ∈ cs:=by
 have : k ∈ cs.map (·.1):=by rw [h.kinds];unfold natKinds;exact List.mem_filter.2 ⟨by simpa using hk,hb⟩
 obtain ⟨kc,hc,rfl⟩:=List.mem_map.1 this
 exact ⟨kc.2,hc⟩
def setE (kn : Nat) (r : Int) (len : Nat) (k n : Int) : Int:=if rowB r len = false then 5 else if kindE kn k ≠ 0 then kindE kn k else if n < -1000000000 ∨ 1000000000 < n then 1 else 0
def SetPost (w : World) (p kn m : Nat) (hs : List Hd) (ls : Nat → List Int) (vh : Value) (cs : List (Nat × Nat)) (Fs : Nat → List Nat) (r k n : Int) (e : Ending) (w' : World) : Prop :=
 e = .returned (.int .i64 (setE kn r hs.length k n)) ∧ TabAt w' p kn hs (if setE kn r hs.length k n = 0 then updL ls k.toNat ((ls k.toNat).set r.toNat n) else ls) vh m cs Fs ∧ Mod (tabF p m vh cs Fs) w w'
set_option maxRecDepth 20000 in
set_option maxHeartbeats 1000000 in
theorem set_any (h : TabAt w p kn hs ls vh m cs Fs) (r k n : Int) (hl : ∀ kc ∈ cs,(ls kc.1).length = hs.length) (hm : hs.length ≤ 1200000000000) :
  Calls Tryz.prog 102 #[.pointer (some ⟨p,0,none⟩),.int .i64 r,.int .i64 k,.int .i64 n] w (SetPost w p kn m hs ls vh cs Fs r k n):=by
 have hrow:=fun w (h : TabAt w p kn hs ls vh m cs Fs) => isRow_any h r
 have HT:=Lib.hid h
 cases hr : rowB r hs.length with
 | false =>
  have HE:=Lib.hid (show setE kn r hs.length k n = 5 by unfold setE;rw [if_pos hr])
  have h1:=hrow w h
  rw [hr] at h1
  have H1:=Lib.hid h1
  clear hrow h hr h1 hl
  go_enter Tryz.func102,Tryz.ntmps102
  go_wp2_with fail
  refine H1.out.mono ?_
  rintro e w1 ⟨rfl,rfl⟩
  go_wp2
  go_ret
  refine ⟨by rw [HE.out];rfl,?_,Mod.refl _ _⟩
  rw [HE.out];exact HT.out
 | true =>
  have h1:=hrow w h
  rw [hr] at h1
  have H1:=Lib.hid h1
  clear h1 hrow
  rcases kindE_cases kn k with ⟨hb,he⟩ | ⟨j,rfl,hj,hb,he⟩ | ⟨j,rfl,hj,hb,he⟩
  ·have HE:=Lib.hid (show setE kn r hs.length k n = 1 by unfold setE;rw [if_neg (by rw [hr];simp),he];simp)
   have h2:=fun w => colOf_bad (p:=p) k hb w
   simp only [ofV] at h2
   have H2:=Lib.hid h2
   clear h hr h2 hb he hl
   go_enter Tryz.func102,Tryz.ntmps102
   go_wp2_with fail
   refine H1.out.mono ?_
   rintro e w1 ⟨rfl,rfl⟩
   go_wp2_with fail
   refine (H2.out _).mono ?_
   rintro e w1 ⟨rfl,rfl⟩
   go_wp2
   go_ret
   refine ⟨by rw [HE.out];rfl,?_,Mod.refl _ _⟩
   rw [HE.out];exact HT.out
  ·have HE:=Lib.hid (show setE kn r hs.length j n = 5 by unfold setE;rw [if_neg (by rw [hr];simp),he];simp)
   have h2:=colOf_no h j hj hb
   simp only [ofV] at h2
   have H2:=Lib.hid h2
   clear h hr h2 hb he hl
   go_enter Tryz.func102,Tryz.ntmps102
   go_wp2_with fail
   refine H1.out.mono ?_
   rintro e w1 ⟨rfl,rfl⟩
   go_wp2_with fail
   refine H2.out.mono ?_
   rintro e w1 ⟨rfl,rfl⟩
   go_wp2
   go_ret
   refine ⟨by rw [HE.out];rfl,?_,Mod.refl _ _⟩
   rw [HE.out];exact HT.out
  ·obtain ⟨c,hc⟩:=h.kind hj hb
   have h2:=colOf_yes h (j,c) hc
   simp only [ofV] at h2
   have H2:=Lib.hid h2
   clear h2
   by_cases hn : n < -1000000000 ∨ 1000000000 < n
   ·have HE:=Lib.hid (show setE kn r hs.length j n = 1 by unfold setE;rw [if_neg (by rw [hr];simp),he,if_pos hn];simp)
    clear h hr hb he hl
    rcases hn with hn | hn
    all_goals
     go_enter Tryz.func102,Tryz.ntmps102
     go_wp2_with fail
     refine H1.out.mono ?_
     rintro e w1 ⟨rfl,rfl⟩
     go_wp2_with fail
     refine H2.out.mono ?_
     rintro e w1 ⟨rfl,rfl⟩
     go_wp2
     go_ret
     refine ⟨by rw [HE.out];rfl,?_,Mod.refl _ _⟩
     rw [HE.out];exact HT.out
   ·have HE:=Lib.hid (show setE kn r hs.length j n = 0 by unfold setE;rw [if_neg (by rw [hr];simp),he,if_neg hn];simp)
    obtain ⟨q,rfl,hq⟩:=rowB_iff.1 hr
    obtain ⟨v,hf,hF⟩:=h.cols.col (j,c) hc
    simp only at hf hF
    have hlen:=hl (j,c) hc
    simp only at hlen
    have hrow:=hf.row
    rw [← ints_flat,hlen] at hrow
    obtain ⟨g,cap,cur,hv,-,-,-⟩:=row_some hrow (by omega)
    have c0:=hf.cell
    rw [hv] at c0 hrow
    have cq:=row_cell hrow (ints_at (ls j) q (by omega))
    have fq:=row_free hrow q
    have hst:=row_set hrow q (.int .i64 n)
    rw [ints_set] at hst
    have hfin : ∃ w',w' = w.setCell ⟨g,q,none⟩ (.int .i64 n) ∧ TabAt w' p kn hs (updL ls j ((ls j).set q n)) vh m cs Fs ∧ Mod (tabF p m vh cs Fs) w w':=by
     refine ⟨_,rfl,?_⟩
     have hgF : g ∈ Fs j:=by rw [hF,hv];simp [Value.ownBlock]
     have hM : Mod [g] w (w.setCell ⟨g,q,none⟩ (.int .i64 n)):=(Mod.refl _ _).setCell (.inl (by simp)) _
     have hoff : ∀ x ∈ p :: m :: vh.ownBlock.toList,x ∉ [g]:=fun x hx hg => h.cols.off (j,c) hc g hgF (by simp at hg;rw [← hg];exact hx)
     have hgc : c ≠ g:=fun e : c = g => hf.ne g (by rw [hv];rfl) e.symm
     refine ⟨⟨h.hd.mod hM (hoff p (by simp)) (fun k hk => hoff k (by simp [hk])),h.map.mod hM (hoff m (by simp)),h.kinds,⟨?_,h.cols.apart,h.cols.off⟩,h.mp,h.mh⟩,hM.mono (fun x hx => .inl ?_)⟩
     ·intro kd hd
      by_cases e : kd.1 = j
      ·have:=kind_inj h.nodup hd hc e
       subst this
       simp only [updL_same]
       refine ⟨v,⟨hM.keep hf.blk (by simpa using hgc),rfl,?_,hf.ne⟩,hF⟩
       rw [List.length_set,hlen,← ints_flat,hv];exact hst
      ·rw [updL_ne _ _ e]
       exact (h.cols.col kd hd).mod hM (fun x hx hg => h.cols.apart kd hd (j,c) hc e x hx (by simp at hg;rw [hg];exact hgF))
     ·simp at hx
      subst hx
      simp only [tabF,List.mem_cons,List.mem_append,List.mem_flatMap]
      exact .inr (.inr (.inr ⟨(j,c),hc,hgF⟩))
    obtain ⟨w9,hw9,ht9,hm9⟩:=hfin
    obtain ⟨HT9,HM9⟩:=hid2 ht9 hm9
    have hq1 : (q : Int) < (hs.length : Int):=by omega
    have hle : hs.length ≤ 9223372036854775807:=by omega
    have hn1 : decide (n < -1000000000) = false:=by simp;omega
    have hn2 : decide (1000000000 < n) = false:=by simp;omega
    have hlow : -1000000000 ≤ n:=by omega
    have hhigh : n ≤ 1000000000:=by omega
    generalize (ls j)[q]'(by omega) = old at cq
    have hgl:=row_lt hrow g rfl
    clear h hr hb he hl hf hF hlen hrow hst ht9 hm9 hc hq
    go_enter Tryz.func102,Tryz.ntmps102
    go_wp2_with fail
    refine H1.out.mono ?_
    rintro e w1 ⟨rfl,rfl⟩
    go_wp2_with fail
    refine H2.out.mono ?_
    rintro e w1 ⟨rfl,rfl⟩
    go_wp2
    rw [← hw9]
    go_ret
    refine ⟨by rw [HE.out];rfl,?_,HM9.out⟩
    rw [HE.out];exact HT9.out
end
theorem RangeAt.nextC {w : World} {b r : Nat} {l : List (Value × Value)} {ts : List (Nat × Nat)} (h : RangeAt Tryz.prog 3 w b r l (ts.map colPr)) (hne : ts ≠ []) :
  ∃ t1 kc t2 w',ts = t1 ++ kc :: t2 ∧ (∀ ty,(Instr.next (.pointer (some ⟨r,0,none⟩)) false ty).run Tryz.prog w = .ok (.tuple #[.bool true,.int .i64 (kc.1 : Int),.pointer (some ⟨kc.2,0,none⟩)]) w') ∧
   (Instr.entry (.pointer (some ⟨r,0,none⟩))).run Tryz.prog w' = .ok (.tuple #[.int .i64 (kc.1 : Int),.pointer (some ⟨kc.2,0,none⟩)]) w' ∧ RangeAt Tryz.prog 3 w' b r l ((t1 ++ t2).map colPr) ∧ Mod [r] w w' ∧ w'.heap.size = w.heap.size:=by
 obtain ⟨t1,p,t2,w',he,hp,hn,hen,hr,hm,hs⟩:=h.next (by simpa using hne) 0
 obtain ⟨a,c,rfl,rfl,hc⟩:=List.map_eq_append_iff.1 he
 obtain ⟨kc,t,rfl,rfl,rfl⟩:=List.map_eq_cons_iff.1 hc
 refine ⟨a,kc,t,w',rfl,fun ty => ?_,hen,by rw [List.map_append];exact hr,hm,hs⟩
 have : (Instr.next (.pointer (some ⟨r,0,none⟩)) false ty) = (Instr.next (.pointer (some ⟨r,0,none⟩)) false 0):=rfl
 rw [this];exact hn
theorem RangeAt.left_eq {P : Program} {kt : TypeId} {w : World} {b r : Nat} {l todo : List (Value × Value)} (h : RangeAt P kt w b r l todo) : w.rangeLeft b r = todo.length:=by
 obtain ⟨es,clock,since,seen,c0,h1,_,h3,_,_,_,h6⟩:=h
 simp only [World.rangeLeft,h1,h3]
 rw [← h6];simp [prs]
theorem blk_there {w : World} {b : Nat} {xs : List Value} {t : TypeId} (h : w.heap[b]? = some (.cells xs.toArray t (0,0))) {n : Nat} (hn : n ≤ xs.length) : w.there b 0 n:=fun j hj => by
 refine ⟨?_,blk_free h _⟩
 rw [blk_cell h,Nat.zero_add]
 have : j < xs.length:=by omega
 simp [this]
def rowI (kn : Nat) (h : Hd) (x : Nat → Int) : List Int:=hdI h ++ ((kn : Int) :: (List.range 8).map fun k => if kn.testBit k = true then x k else 0)
def rowT (kn : Nat) (h : Hd) (x : Nat → Int) (ts : List (Nat × Nat)) : List Int:=hdI h ++ ((kn : Int) :: (List.range 8).map fun k => if k ∈ ts.map (·.1) then 0 else if kn.testBit k = true then x k else 0)
theorem rowT_length (kn : Nat) (h : Hd) (x : Nat → Int) (ts : List (Nat × Nat)) : (rowT kn h x ts).length = 11:=by simp [rowT,hdI]
theorem rowT_nil (kn : Nat) (h : Hd) (x : Nat → Int) : rowT kn h x [] = rowI kn h x:=by simp [rowT,rowI]
theorem rowT_start (kn : Nat) (h : Hd) (x : Nat → Int) (cs : List (Nat × Nat)) (hc : cs.map (·.1) = natKinds kn 8) : rowT kn h x cs = [h.1,h.2,(kn : Int),0,0,0,0,0,0,0,0]:=by
 have : ((List.range 8).map fun k => if k ∈ cs.map (·.1) then (0 : Int) else if kn.testBit k = true then x k else 0) = (List.range 8).map fun _ => 0:=by
  apply List.map_congr_left
  intro k hk
  rw [hc]
  by_cases hb : kn.testBit k = true
  ·rw [if_pos (by unfold natKinds;exact List.mem_filter.2 ⟨hk,hb⟩)]
  ·rw [if_neg hb];split <;> rfl
 unfold rowT
 rw [this]
 rfl
theorem rowT_step (kn : Nat) (h : Hd) (x : Nat → Int) (t1 t2 : List (Nat × Nat)) (kc : Nat × Nat) (hn : ((t1 ++ kc :: t2).map (·.1)).Nodup) (hk : kc.1 < 8) (hb : kn.testBit kc.1 = true) :
  (rowT kn h x (t1 ++ kc :: t2)).set (3 + kc.1) (x kc.1) = rowT kn h x (t1 ++ t2):=by
 unfold rowT
 obtain ⟨h0,h1⟩:=h
 simp only [hdI,List.cons_append,List.nil_append]
 rw [show 3 + kc.1 = kc.1 + 1 + 1 + 1 by omega,List.set_cons_succ,List.set_cons_succ,List.set_cons_succ]
 congr 3
 apply List.ext_getElem (by simp)
 intro i hi1 hi2
 simp at hi1
 rw [List.getElem_set]
 simp only [List.getElem_map,List.getElem_range]
 rw [List.map_append,List.map_cons] at hn
 have hnd:=List.nodup_append.1 hn
 by_cases e : kc.1 = i
 ·subst e
  rw [if_pos rfl,if_neg,if_pos hb]
  rw [List.map_append,List.mem_append]
  rintro (hm | hm)
  ·exact hnd.2.2 _ hm _ (by simp) rfl
  ·exact (List.nodup_cons.1 hnd.2.1).1 hm
 ·rw [if_neg e]
  have : i ∈ (t1 ++ kc :: t2).map (·.1) ↔ i ∈ (t1 ++ t2).map (·.1):=by
   simp only [List.map_append,mC,List.mem_append,List.mem_cons]
   constructor
   ·rintro (hm | rfl | hm)
    ·exact .inl hm
    ·exact absurd rfl e
    ·exact .inr hm
   ·rintro (hm | hm)
    ·exact .inl hm
    ·exact .inr (.inr hm)
  simp only [this]
def RowPost (l : List Int) (z : Int) (w : World) (e : Ending) (w' : World) : Prop:=e = .returned (.tuple #[.agg (ints l).toArray,.int .i64 z]) ∧ Below w.heap.size w w'
def zero11 : List Int:=[0,0,0,0,0,0,0,0,0,0,0]
section
variable {w : World} {p kn m : Nat} {hs : List Hd} {ls : Nat → List Int} {vh : Value} {cs : List (Nat × Nat)} {Fs : Nat → List Nat}
attribute [local go_sem] AllFrom.cons_eq AllFrom.nil_eq putF_nil putF_cons wantedL_none wantedL_some OpGoalT OpGoalV OpGoalQ YieldsR preF_nil preF_cons
set_option maxRecDepth 20000 in
set_option maxHeartbeats 8000000 in
theorem row_yes (h : TabAt w p kn hs ls vh m cs Fs) (q : Nat) (hq : q < hs.length) (hl : ∀ kc ∈ cs,(ls kc.1).length = hs.length) (hmx : hs.length ≤ 1200000000000) :
  Calls Tryz.prog 85 #[.pointer (some ⟨p,0,none⟩),.int .i64 q] w (RowPost (rowI kn hs[q] fun k => (ls k).getD q 0) 0 w):=by
 have hlt:=h.lt
 have h1:=isRow_any (h.mod ((Mod.refl [] w).alloc (.cells #[.int .i64 0,.int .i64 0,.int .i64 0,.int .i64 0,.int .i64 0,.int .i64 0,.int .i64 0,.int .i64 0,.int .i64 0,.int .i64 0,.int .i64 0] 56)) (by simp)) (q : Int)
 rw [rowB_iff.2 ⟨q,rfl,hq⟩] at h1
 obtain ⟨w0,hw0⟩ : ∃ w0,w.alloc (.cells #[.int .i64 0,.int .i64 0,.int .i64 0,.int .i64 0,.int .i64 0,.int .i64 0,.int .i64 0,.int .i64 0,.int .i64 0,.int .i64 0,.int .i64 0] 56) = w0:=⟨_,rfl⟩
 rw [hw0] at h1
 have hm0 : Mod [] w w0:=by rw [← hw0];exact (Mod.refl _ _).alloc _
 have hs0 : w0.heap.size = w.heap.size + 1:=by rw [← hw0];simp
 have hz0 : w0.heap[w.heap.size]? = some (.cells #[.int .i64 0,.int .i64 0,.int .i64 0,.int .i64 0,.int .i64 0,.int .i64 0,.int .i64 0,.int .i64 0,.int .i64 0,.int .i64 0,.int .i64 0] 56 (0,0)):=by rw [← hw0];exact heap_alloc_new w _
 have h0:=h.mod hm0 (by simp)
 obtain ⟨g,cap,cur,hv,-,-,-⟩:=row_some h0.hd.row (by omega)
 have hck:=row_piece handleC_len (by rw [← hv];exact h0.hd.row) hq 0 (handleC hs[q]) (fun j u hu => by rw [Nat.zero_add];exact hu)
 have hk0:=hck 0 _ rfl
 have hk1:=hck 1 _ rfl
 rw [Addr.add_mid] at hk0 hk1
 simp only [Nat.add_zero] at hk0 hk1
 have c0 : w0.cell? ⟨p,0,none⟩ = some (.int .i64 (kn : Int)):=by rw [blk_cell h0.hd.blk];rfl
 have c1:=h0.hd.cell
 rw [hv] at c1
 have hrg:=row_lt h0.hd.row g (by rw [hv];rfl)
 obtain ⟨x,hx⟩ : ∃ x : Nat → Int,x = fun k => (ls k).getD q 0:=⟨_,rfl⟩
 rw [← hx]
 generalize hs[q] = hd at *
 obtain ⟨hds,hdg⟩:=hd
 simp only at hk0 hk1
 have hqi : (q : Int) < (hs.length : Int):=by omega
 have hle : hs.length ≤ 9223372036854775807:=by omega
 obtain ⟨H,H1,HM0,HZ0,HLT,HL,HX,HS0⟩:=hid8 h h1 hm0 hz0 hlt hl hx hs0
 obtain ⟨K0,K1,C0,C1⟩:=hid4 hk0 hk1 c0 c1
 have hp0:=h0.hd.lt
 clear h h1 hm0 hz0 h0 hlt hl hx hck hk0 hk1 c0 c1 hv hq hs0
 go_enter Tryz.func85,Tryz.ntmps85
 go_wp2_with fail
 clear hw0
 refine H1.out.mono ?_
 rintro e w1 ⟨rfl,rfl⟩
 go_wp2
 refine wp_planF 15 [0,5,8] [some 14,some 15,some 16,some 17,some 18,some 19,some 20,some 21,some 22,some 23,some 24,some 25,some 26,some 27,some 6,none] [[],[0],[0,1],[0,1,2],[0,1,2,3],[],[0,1,2,3,4,5],[0,1,2,3,4,5,6],[],[8],[8,9],[8,9,10],[8,9,10,11],[0,1,2,3,4,5,6,7,8,9,10,11,12],[],[0,1,2,3,4,5,6,7,8,9,10,11,12,13,14]] [0,1,2,3,4,5,6,7,8,9,10,11,12,13,14] 15 (fun vs => [isV (vs.getD 0 undef),isV (vs.getD 1 undef),isV (vs.getD 2 undef),isV (vs.getD 3 undef),isV (vs.getD 4 undef),isV (vs.getD 5 undef),isV (vs.getD 6 undef),isV (vs.getD 7 undef),isV (vs.getD 8 undef),isV (vs.getD 9 undef),isV (vs.getD 10 undef),isV (vs.getD 11 undef),isV (vs.getD 12 undef),isV (vs.getD 13 undef),isV (vs.getD 14 undef)])
  (fun L _ W => Below w0.heap.size w0 W ∧ (L 14 = false → W.heap.size = w0.heap.size) ∧ (L 14 = true → W.heap[w0.heap.size]? = some (.cells #[.int .i64 0,.int .i64 0,.int .i64 0,.int .i64 0,.int .i64 0,.int .i64 0,.int .i64 0,.int .i64 0,.int .i64 0,.int .i64 0,.int .i64 0] 56 (0,0)))) mixed rfl (by kernel_rfl) (by decide) (by decide) ⟨(Below.refl _ _).drew,fun _ => rfl,fun e => absurd e (by simp)⟩ rfl ?_
 iterate 15 apply Exists.intro
 refine ⟨?_,?_⟩
 ·simp only [tS,List.take_zero,AllFrom.cons_eq,AllFrom.nil_eq,OpGoalV]
  refine ⟨?_,?_,?_,?_,?_,?_,?_,?_,?_,?_,?_,?_,?_,?_,?_,trivial⟩
  all_goals (intro L' σ W h1 h2 h3 hI hp;clear h2 h3;(try simp only [gZ,gS,preF_cons,preF_nil,isV,and_true] at hp);(first | (have hq : True:=hp;clear hq hp) | skip);have HI:=Lib.hid hI;have Hh1:=Lib.hid h1;clear hI h1)
  all_goals (
   have k0:=(HI.out.1.cell (p:=⟨g,q * 2,none⟩) hrg).trans K0.out
   have k1:=(HI.out.1.cell (p:=⟨g,q * 2 + 1,none⟩) hrg).trans K1.out
   have d0:=(HI.out.1.cell (p:=⟨p,0,none⟩) hp0).trans C0.out
   have d1:=(HI.out.1.cell (p:=⟨p,1,none⟩) hp0).trans C1.out)
  all_goals (try (go_simp;exact ⟨rfl,⟨HI.out.1,fun e => HI.out.2.1 (upd_false e),fun e => HI.out.2.2 (upd_true e (by decide))⟩,KeepAll.refl⟩))
  ·have hsz:=HI.out.2.1 Hh1.out
   have hnew:=heap_alloc_new W (.cells #[.int .i64 0,.int .i64 0,.int .i64 0,.int .i64 0,.int .i64 0,.int .i64 0,.int .i64 0,.int .i64 0,.int .i64 0,.int .i64 0,.int .i64 0] 56)
   rw [hsz] at hnew
   obtain ⟨HN,HSz⟩:=hid2 hnew hsz
   clear hnew hsz
   go_simp
   exact ⟨by rw [HSz.out];rfl,⟨HI.out.1.alloc HI.out.1.size _,fun e => absurd e (by simp [upd]),fun _ => HN.out⟩,by repeat (first | exact keep_nil | refine keep_isV ?_)⟩
 ·intro L' σ W h1 hI hp
  have hL:=h1 14 (by decide)
  clear h1
  simp only [gZ,gS,preF_cons,preF_nil,isV,and_true] at hp
  obtain ⟨s0,s1,s2,s3,s4,s5,s6,s7,s8,s9,s10,s11,s12,s13,s14⟩:=hp
  have hb:=hI.2.2 hL
  have HB:=Lib.hid hI.1;have HBk:=Lib.hid hb
  clear hI hL hb
  simp only [dS,List.drop_zero]
  go_simp
  clear s0 s1 s2 s3 s4 s5 s6 s7 s8 s9 s10 s11 s12 s13 s14
  have hth:=blk_there (xs:=ints zero11) HBk.out (n:=11) (by simp [zero11,ints])
  have hst:=setCells_block (w:=W) (ints [hds,hdg,(kn : Int),0,0,0,0,0,0,0,0]) 0 W (ints zero11) HBk.out
  rw [setL_all (ints [hds,hdg,(kn : Int),0,0,0,0,0,0,0,0]) (ints zero11) (by simp [ints,zero11])] at hst
  have hmst:=mod_setCells (F:=[w0.heap.size]) (g:=w0.heap.size) (.inl (by simp)) (ints [hds,hdg,(kn : Int),0,0,0,0,0,0,0,0]) 0 W (Mod.refl _ W)
  refine wpList_store_at rfl 56 (.tmp 6) (.tmp 27) rfl w0.heap.size 0 (ints [hds,hdg,(kn : Int),0,0,0,0,0,0,0,0]) rfl rfl hth (info_of inf_Row) (ints_one _) ?_
  generalize W.setCells w0.heap.size 0 (ints [hds,hdg,(kn : Int),0,0,0,0,0,0,0,0]) = W2 at *
  have hbs:=blk_lt HBk.out
  have hmW2 : Mod [w0.heap.size] w W2:=((HM0.out.mono (G:=[w0.heap.size]) (by simp)).trans (Mod.ofBelow HB.out) (by simp)).trans hmst (fun x hx => .inl hx)
  have hnf : ∀ k ∈ tabF p m vh cs Fs,k ∉ [w0.heap.size]:=fun k hk => by have:=HLT.out k hk;have:=HS0.out;simp;omega
  have ht2:=H.out.mod hmW2 hnf
  have hz2 : W2.heap[w.heap.size]? = some (.cells #[.int .i64 0,.int .i64 0,.int .i64 0,.int .i64 0,.int .i64 0,.int .i64 0,.int .i64 0,.int .i64 0,.int .i64 0,.int .i64 0,.int .i64 0] 56 (0,0)):=hmst.keep ((Mod.ofBelow HB.out).keep HZ0.out (by simp)) (by have:=HS0.out;simp;omega)
  have c2 : W2.cell? ⟨p,2,none⟩ = some (.map (some m)):=by rw [blk_cell ht2.hd.blk];rfl
  obtain ⟨o,hrun,hR⟩:=ht2.map.range Tryz.underlying217
  have hsw2:=hmst.size
  obtain ⟨HR,HM2,HZ2,HSt,HT2,HNF⟩:=hid6 hR hmW2 hz2 hst ht2 hnf
  have hbelow : Below w.heap.size w W2:=hmW2.toBelow (fun k hk => by simp at hk;have:=HS0.out;omega) (Nat.le_refl _)
  have HBl:=Lib.hid hbelow
  clear hth hst hmst hmW2 hnf ht2 hz2 hR hbelow
  refine ⟨rfl,?_⟩
  go_wp2
  have hW3 : ∃ W3,W3 = W2.alloc o:=⟨_,rfl⟩
  obtain ⟨W3,hW3⟩:=hW3
  rw [← hW3]
  have hs3 : W3.heap.size = W2.heap.size + 1:=by rw [hW3];simp
  have hm3 : Mod [] W2 W3:=by rw [hW3];exact (Mod.refl _ _).alloc _
  have HR3:=Lib.hid (show RangeAt Tryz.prog 3 W3 m W2.heap.size (cs.map colPr) (cs.map colPr) by rw [hW3];exact HR.out)
  obtain ⟨HM3,HS3⟩:=hid2 hm3 hs3
  have HSt3:=Lib.hid (show W3.heap[w0.heap.size]? = some (.cells (ints (rowT kn (hds,hdg) x cs)).toArray 56 (0,0)) by rw [rowT_start _ _ _ _ H.out.kinds];exact hm3.keep HSt.out (by simp))
  have hb2 : w0.heap.size < W2.heap.size:=blk_lt HSt.out
  clear hW3 hm3 hs3 hrun c2 HR HSt
  generalize W2.heap.size = r at *
  go_loopw [7] (fun _ wr => ∃ ts,RangeAt Tryz.prog 3 wr m r (cs.map colPr) (ts.map colPr) ∧ (∀ kc ∈ ts,kc ∈ cs) ∧ (ts.map (·.1)).Nodup ∧ wr.heap[w0.heap.size]? = some (.cells (ints (rowT kn (hds,hdg) x ts)).toArray 56 (0,0)) ∧ Mod [w0.heap.size,r] W3 wr) (fun _ wr => wr.rangeLeft m r)
  case atStart => exact ⟨cs,HR3.out,fun _ h => h,H.out.nodup,HSt3.out,Mod.refl _ _⟩
  case round =>
   obtain ⟨ts,hR,hsub,hnd,hb,hmod⟩:=hrel
   have hle:=HLT.out
   have hsz0:=HS0.out
   have hrm : w.heap.size < r:=by omega
   have hmw : Mod [w0.heap.size,r] w wr:=((HM2.out.mono (G:=[w0.heap.size,r]) (by simp)).trans HM3.out (by simp)).trans hmod (fun x hx => .inl hx)
   by_cases hts : ts = []
   ·subst hts
    have hov:=fun ty => RangeAt.over (P:=Tryz.prog) (by simpa using hR) ty
    rw [rowT_nil] at hb
    have hz:=hmod.keep (HM3.out.keep HZ2.out (by simp)) (by simp;omega)
    obtain ⟨rs,hrs⟩ : ∃ rs,rs = rowI kn (hds,hdg) x:=⟨_,rfl⟩
    have hrl : rs.length = 11:=by rw [hrs,← rowT_nil,rowT_length]
    rw [← hrs] at hb
    obtain ⟨HMw,HRs⟩:=hid2 hmw hrs
    clear hrs hR hsub hnd hmod hmw
    match rs,hrl with
    | [b0,b1,b2,b3,b4,b5,b6,b7,b8,b9,b10],_ =>
     have hb0 : wr.heap[w0.heap.size]? = some (.cells #[.int .i64 b0,.int .i64 b1,.int .i64 b2,.int .i64 b3,.int .i64 b4,.int .i64 b5,.int .i64 b6,.int .i64 b7,.int .i64 b8,.int .i64 b9,.int .i64 b10] 56 (0,0)):=hb
     have q0:=blk_cell hb0 0
     have q1:=blk_cell hb0 1
     have q2:=blk_cell hb0 2
     have q3:=blk_cell hb0 3
     have q4:=blk_cell hb0 4
     have q5:=blk_cell hb0 5
     have q6:=blk_cell hb0 6
     have q7:=blk_cell hb0 7
     have q8:=blk_cell hb0 8
     have q9:=blk_cell hb0 9
     have q10:=blk_cell hb0 10
     have z0:=blk_cell hz 0
     have z1:=blk_cell hz 1
     have z2:=blk_cell hz 2
     have z3:=blk_cell hz 3
     have z4:=blk_cell hz 4
     have z5:=blk_cell hz 5
     have z6:=blk_cell hz 6
     have z7:=blk_cell hz 7
     have z8:=blk_cell hz 8
     have z9:=blk_cell hz 9
     have z10:=blk_cell hz 10
     have f0:=blk_free hz 0
     have f1:=blk_free hz 1
     have f2:=blk_free hz 2
     have f3:=blk_free hz 3
     have f4:=blk_free hz 4
     have f5:=blk_free hz 5
     have f6:=blk_free hz 6
     have f7:=blk_free hz 7
     have f8:=blk_free hz 8
     have f9:=blk_free hz 9
     have f10:=blk_free hz 10
     simp only [eA,eZ,eS] at q0 z0 q1 z1 q2 z2 q3 z3 q4 z4 q5 z5 q6 z6 q7 z7 q8 z8 q9 z9 q10 z10
     have lq:=blk_lt hb0
     have lz:=blk_lt hz
     have n1 : w0.heap.size ≠ w.heap.size:=by omega
     have n2 : w.heap.size ≠ w0.heap.size:=by omega
     clear hb hb0 hz hsz0
     go_wp2
     refine bodyPost_ret (v:=.tuple #[.agg #[.int .i64 b0,.int .i64 b1,.int .i64 b2,.int .i64 b3,.int .i64 b4,.int .i64 b5,.int .i64 b6,.int .i64 b7,.int .i64 b8,.int .i64 b9,.int .i64 b10],.int .i64 0]) (by unfold results;try go_simp) rfl ?_
     refine ⟨by rw [← HRs.out];rfl,Mod.toBelow (F:=[w0.heap.size,r]) ?_ (by have:=HS0.out;simp;omega) (Nat.le_refl _)⟩
     repeat (refine Mod.setCell ?_ (.inr (by simp only;omega)) _)
     exact HMw.out
   ·obtain ⟨t1,kc,t2,w5,rfl,hnx,hen,hR2,hm5,hs5⟩:=hR.nextC hts
    have hkc : kc ∈ cs:=hsub kc (by simp)
    have hk8 : kc.1 < 8 ∧ kn.testBit kc.1 = true:=by
     have h2 : kc.1 ∈ natKinds kn 8:=by rw [← H.out.kinds];exact List.mem_map.2 ⟨kc,hkc,rfl⟩
     unfold natKinds at h2
     have:=List.mem_filter.1 h2
     exact ⟨by simpa using this.1,this.2⟩
    have hmw5 : Mod [w0.heap.size,r] w w5:=hmw.trans hm5 (fun x hx => .inl (by simp at hx;simp [hx]))
    have ht5:=H.out.mod hmw5 (fun k hk => by have:=hle k hk;simp;omega)
    obtain ⟨v,hf,-⟩:=ht5.cols.col kc hkc
    have hlen:=HL.out kc hkc
    have hrow:=hf.row
    rw [← ints_flat,hlen] at hrow
    obtain ⟨gc,capc,curc,hv,-,-,-⟩:=row_some hrow (by omega)
    have e0:=hf.cell
    rw [hv] at e0 hrow
    have eq:=row_cell hrow (ints_at (ls kc.1) q (by omega))
    have hxk : (ls kc.1)[q]'(by omega) = x kc.1:=by rw [HX.out];simp only;rw [List.getD_eq_getElem?_getD,List.getElem?_eq_getElem (by omega)];rfl
    rw [hxk] at eq
    have hb5:=hm5.keep hb (by simp;omega)
    have hbf:=blk_free hb5 (3 + kc.1)
    have hbc:=blk_cell hb5 (3 + kc.1)
    have hbl:=rowT_length kn (hds,hdg) x (t1 ++ kc :: t2)
    rw [List.getElem?_toArray,ints_at _ _ (by omega)] at hbc
    have hset:=blk_set hb5 (3 + kc.1) (.int .i64 (x kc.1))
    have hstep:=rowT_step kn (hds,hdg) x t1 t2 kc hnd hk8.1 hk8.2
    have hfin : (w5.setCell ⟨w0.heap.size,3 + kc.1,none⟩ (.int .i64 (x kc.1))).heap[w0.heap.size]? = some (.cells (ints (rowT kn (hds,hdg) x (t1 ++ t2))).toArray 56 (0,0)):=by
     rw [hset,← hstep,← ints_set];simp
    have hms : Mod [w0.heap.size] w5 (w5.setCell ⟨w0.heap.size,3 + kc.1,none⟩ (.int .i64 (x kc.1))):=(Mod.refl _ _).setCell (.inl (by simp)) _
    have hR5:=hR2.mod hms (by have:=H.out.map.lt;simp;omega) (by simp;omega)
    have hmeas : (w5.setCell ⟨w0.heap.size,3 + kc.1,none⟩ (.int .i64 (x kc.1))).rangeLeft m r < wr.rangeLeft m r:=by
     rw [hR5.left_eq,hR.left_eq];simp
    generalize (rowT kn (hds,hdg) x (t1 ++ kc :: t2))[3 + kc.1]'(by omega) = old at hbc
    obtain ⟨HFin,HR5,HMeas⟩:=hid3 hfin hR5 hmeas
    have HMm:=Lib.hid ((hmod.trans hm5 (fun x hx => .inl (by simp at hx;simp [hx]))).trans hms (fun x hx => .inl (by simp at hx;simp [hx])))
    have HSub:=Lib.hid (show ∀ kd ∈ t1 ++ t2,kd ∈ cs from fun kd hd => hsub kd (by rcases List.mem_append.1 hd with h | h <;> simp [h]))
    have HNd:=Lib.hid (show ((t1 ++ t2).map (·.1)).Nodup from List.Nodup.sublist (List.Sublist.map _ (List.Sublist.append_left (List.sublist_cons_self _ _) _)) hnd)
    have hk8i : (kc.1 : Int) < 8:=by have:=hk8.1;omega
    have hbl5:=blk_lt hb5
    have hcl:=hf.lt
    have hgcl:=row_lt hrow gc rfl
    obtain ⟨k,c⟩:=kc
    have hqi2 : (q : Int) < (hs.length : Int):=hqi
    clear hsz0 hmod hmw hmw5 ht5 hf hlen hrow hv hxk hb5 hb hbl hset hstep hfin hms hR5 hmeas hR hR2 hsub hnd hts hk8 hkc hm5
    simp only at hbc hbf e0 eq hnx hen hk8i hcl
    go_wp2
    exact ⟨⟨t1 ++ t2,HR5.out,HSub.out,HNd.out,HFin.out,HMm.out⟩,HMeas.out⟩
 all_goals exact undef
end
end Go.Proofs.YtfdillpofciicaaGreatDoor
namespace Go.Proofs.YtfdillpofciicaaGreatDoor
open Go Go.RowKit
attribute [local go_sem] AllFrom.cons_eq AllFrom.nil_eq putF_nil putF_cons wantedL_none wantedL_some OpGoalT OpGoalV OpGoalQ YieldsR preF_nil preF_cons
section
variable {w : World} {p kn m : Nat} {hs : List Hd} {ls : Nat → List Int} {vh : Value} {cs : List (Nat × Nat)} {Fs : Nat → List Nat}
end
section
variable {w : World} {q kn : Nat} {rows : List Rw} {vl : Value}
end
end Go.Proofs.YtfdillpofciicaaGreatDoor
