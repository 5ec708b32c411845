import Derived.Test.YtoheblfpjinmnaaGreatDoorTextParsesJ22
set_option linter.unusedVariables false
set_option linter.unusedSimpArgs false
/- A part of the proof that TextParses returns true. -/
namespace Go.Proofs.YtoheblfpjinmnaaGreatDoor
open Go Go.RowKit
variable {vB : Value}
attribute [local go_sem] AllFrom.cons_eq AllFrom.nil_eq putF_nil putF_cons wantedL_none wantedL_some OpGoalT OpGoalV OpGoalQ OpGoalA OpGoalK YieldsR preF_nil preF_cons
theorem RepZ.push {w w0 w1 : World} {q : Nat} {sl : Sl} {L L' : List Rw} {F : List Nat} {vg vl v v' : Value} (h : RepZ vB w q sl L F) (hq : w.heap[q]? = some (.cells #[vg,vl,v,vB] 92 (0,0))) (hb : Below w.heap.size w w0) (hg : w0.grownBy w1 v.ownBlock) (hv : w1.ownsRow 0 51 11 v' L'.length (L'.flatMap rwC))
  (hl : v'.ownBlock = v.ownBlock ∨ v'.ownBlock = some w0.heap.size) : ∃ F',RepZ vB (w1.setCell ⟨q,2,none⟩ v') q sl L' F' ∧ Turns w F F' (w1.setCell ⟨q,2,none⟩ v'):=by
 have hlt:=h.lt
 obtain ⟨vL,FS,h1,h2,rfl,h3⟩:=h
 have hvL : vL = v:=by
  obtain ⟨_,_,h4,-⟩:=h1
  rw [hq] at h4
  simp only [Option.some.injEq,Obj.cells.injEq,Array.mk.injEq,List.cons.injEq] at h4
  exact h4.1.2.2.1.symm
 subst hvL
 have hq' : q ∈ FS:=by obtain ⟨_,_,_,_,_,rfl,_⟩:=h1;simp
 have hn : FS.Nodup:=(List.nodup_append.1 h3).1
 have hd : ∀ k ∈ vL.ownBlock.toList,k ∉ FS:=fun k hk e => (List.nodup_append.1 h3).2.2 k e k hk rfl
 have hFl : ∀ k ∈ FS,k < w.heap.size:=fun k hk => hlt k (by simp [hk])
 have hs0:=hb.size
 have hm1 : Mod vL.ownBlock.toList w w1:=((Mod.ofBelow hb).mono (by simp)).grown hg (fun k hk => .inl (by simp [hk]))
 have hz:=h1.turnL (vL':=v') hm1 (fun k hk e => hd k e hk)
 have hdv : ∀ k ∈ v'.ownBlock.toList,k ∉ FS:=by
  intro k hk
  rcases hl with e | e
  ·rw [e] at hk;exact hd k hk
  ·rw [e] at hk
   have : k = w0.heap.size:=by simpa using hk
   intro e2;have:=hFl k e2;omega
 have hM : Mod [q] w1 (w1.setCell ⟨q,2,none⟩ v'):=(Mod.refl _ _).setCell (.inl (by simp)) v'
 have ho:=row_mod hv hM (fun k hk e => hdv k (by simp [hk]) (by simp at e;exact e ▸ hq'))
 refine ⟨FS ++ v'.ownBlock.toList,⟨v',FS,hz,ho,rfl,?_⟩,⟨(hm1.mono (fun x hx => .inl (List.mem_append_right _ hx))).setCell (.inl (List.mem_append_left _ hq')) v',fun k hk => ?_⟩⟩
 ·rw [List.nodup_append]
  exact ⟨hn,by cases v'.ownBlock <;> simp,fun a ha b hb' e => hdv b hb' (e ▸ ha)⟩
 ·rcases List.mem_append.1 hk with hk | hk
  ·exact .inl (by simp [hk])
  ·rcases hl with e | e
   ·rw [e] at hk;exact .inl (List.mem_append_right _ hk)
   ·rw [e] at hk
    have : k = w0.heap.size:=by simpa using hk
    exact .inr (by omega)
theorem RepZ.open2 {w : World} {q : Nat} {sl : Sl} {L : List Rw} {F : List Nat} (h : RepZ vB w q sl L F) : ∃ vg vl A cap,w.heap[q]? = some (.cells #[vg,vl,.slice A L.length cap,vB] 92 (0,0)) ∧ w.ownsRow 0 51 11 (.slice A L.length cap) L.length (L.flatMap rwC) ∧ q ∉ (Value.slice A L.length cap).ownBlock.toList:=by
 obtain ⟨vL,FS,⟨vg,vl,h1,_,_,rfl,_⟩,h2,rfl,h3⟩:=h
 obtain ⟨A,cap,rfl,-,-⟩:=row_slice h2
 exact ⟨vg,vl,A,cap,h1,h2,fun e => (List.nodup_append.1 h3).2.2 q (by simp) q e rfl⟩
def wlK (k : Nat) (rows : List Rw) : List Rw:=(List.range k).flatMap (fun (k : Nat) => rows.filter (fun r => decide (r.1.1 = (k : Int))))
theorem wlK_succ (k : Nat) (rows : List Rw) : wlK (k + 1) rows = wlK k rows ++ rows.filter (fun r => decide (r.1.1 = (k : Int))):=by
 unfold wlK;rw [List.range_succ,List.flatMap_append];simp
theorem wlK_len {rows : List Rw} (h : rows.length ≤ 60) : ∀ k,(wlK k rows).length ≤ 60 * k
 | 0 => by simp [wlK]
 | k + 1 => by
  have ih:=wlK_len h k
  have h1:=List.length_filter_le (fun r : Rw => decide (r.1.1 = (k : Int))) rows
  rw [wlK_succ,List.length_append,Nat.mul_add];omega
def RWLPost (gs : List Int) (rows : List Rw) (w : World) (e : Ending) (w' : World) : Prop :=
 Below w.heap.size w w' ∧ ((wlE gs rows ≠ 0 ∧ e = .returned (.tuple #[.pointer none,.int .i64 (wlE gs rows)])) ∨
  (wlE gs rows = 0 ∧ ∃ q F,e = .returned (.tuple #[.pointer (some ⟨q,0,none⟩),.int .i64 0]) ∧ RepZ (.slice none 0 0) w' q (wlS gs rows) (wlL gs rows) F ∧ (∀ y ∈ F,w.heap.size ≤ y)))
structure IPush (w0 : World) (v : Value) (L : List Rw) (x : Rw) (Lf : Nat → Bool) (σ : Nat → Value) (V : World) : Prop where
 b : Lf 7 = false → Below w0.heap.size w0 V
 o : Lf 6 = true → Lf 7 = false → oneR w0.heap.size (rwC x).toArray 51 (σ 6) V
 a : Lf 7 = true → ∃ V0,Below w0.heap.size w0 V0 ∧ V0.grownBy V v.ownBlock ∧ V.ownsRow 0 51 11 (σ 7) (L ++ [x]).length ((L ++ [x]).flatMap rwC) ∧ ((σ 7).ownBlock = v.ownBlock ∨ (σ 7).ownBlock = some V0.heap.size)
section
variable {w0 V V' : World} {v : Value} {L : List Rw} {x : Rw} {Lf : Nat → Bool} {σ : Nat → Value}
theorem IPush.start (h : Below w0.heap.size w0 V) : IPush w0 v L x (fun _ => false) σ V:=⟨fun _ => h,fun e => (by cases e),fun e => (by cases e)⟩
theorem IPush.read (h : IPush w0 v L x Lf σ V) {i : Nat} (h1 : 6 ≠ i ∧ 7 ≠ i) (u : Value) : IPush w0 v L x (upd Lf i) (updv σ i u) V:=by
 obtain ⟨n1,n2⟩:=h1
 have eL : ∀ j,j ≠ i → upd Lf i j = Lf j:=fun j hj => by unfold upd;simp [hj]
 have es : ∀ j,j ≠ i → updv σ i u j = σ j:=fun j hj => by unfold updv;rw [if_neg hj]
 refine ⟨?_,?_,?_⟩
 ·rw [eL 7 n2];exact h.b
 ·rw [eL 6 n1,eL 7 n2,es 6 n1];exact h.o
 ·rw [eL 7 n2,es 7 n2];exact h.a
theorem IPush.oned (h : IPush w0 v L x Lf σ V) (h7 : Lf 7 = false) : IPush w0 v L x (upd Lf 6) (updv σ 6 (.slice (some ⟨V.heap.size,0,none⟩) 1 1)) (V.alloc (.cells (rwC x).toArray 51)):=by
 have eL : upd Lf 6 7 = Lf 7:=by unfold upd;simp
 have hs:=(h.b h7).size
 refine ⟨fun _ => (h.b h7).alloc hs _,fun _ _ => oneR_new hs,?_⟩
 rw [eL,h7];intro e;cases e
theorem IPush.apped (h : IPush w0 v L x Lf σ V) (h7 : Lf 7 = false) {u : Value} (hg : V.grownBy V' v.ownBlock) (hv : V'.ownsRow 0 51 11 u (L ++ [x]).length ((L ++ [x]).flatMap rwC)) (hl : u.ownBlock = v.ownBlock ∨ u.ownBlock = some V.heap.size) : IPush w0 v L x (upd Lf 7) (updv σ 7 u) V':=by
 refine ⟨fun e => by simp [upd] at e,fun _ e => by simp [upd] at e,fun _ => ⟨V,h.b h7,hg,?_,?_⟩⟩
 ·simpa [updv] using hv
 ·simpa [updv] using hl
end
section
variable {w : World} {A A2 : Option Addr} {c c2 : Nat} {gs : List Int} {rows : List Rw}
set_option maxRecDepth 20000 in
set_option maxHeartbeats 2000000 in
theorem rwload_long (h60 : 60 < rows.length) (hl : rows.length ≤ 9223372036854775807) : Calls Tryz.prog 61 #[.slice A gs.length c,.slice A2 rows.length c2] w (RWLPost gs rows w):=by
 have he : wlE gs rows = 2:=by unfold wlE;rw [if_pos h60]
 unfold RWLPost
 rw [he]
 clear he
 have h1 : (60 : Int) < (rows.length : Int):=by omega
 go_enter Tryz.func61,Tryz.ntmps61
 go_wp2
 go_ret2
 exact ⟨Below.refl _ _,.inl ⟨by simp,rfl⟩⟩
set_option maxRecDepth 20000 in
set_option maxHeartbeats 4000000 in
theorem rwload_in (h60 : rows.length ≤ 60) (hg : gs.length ≤ 9223372036854775807) (hA : Lies w w.heap.size A (ints gs)) (hA2 : Lies w w.heap.size A2 (rows.flatMap rwC)) : Calls Tryz.prog 61 #[.slice A gs.length c,.slice A2 rows.length c2] w (RWLPost gs rows w):=by
 have h1 : ¬ (60 : Int) < (rows.length : Int):=by omega
 obtain ⟨HA,HA2⟩:=hid2 hA hA2
 clear hA hA2
 go_enter Tryz.func61,Tryz.ntmps61
 go_wp2_with fail
 go_loopw [6,23] (fun v i wr => ∃ m : Nat,m ≤ rows.length ∧ i = .int .i64 m ∧ wr.ownsRow w.heap.size 3 1 v ((slotsOf rows).take m).length (ints ((slotsOf rows).take m)) ∧ Below w.heap.size w wr) (fun _ i _ => rows.length - (Go.RowKit.intOf i).toNat)
 case atStart => exact ⟨0,by omega,rfl,⟨rfl,.inl ⟨rfl,rfl⟩⟩,Below.refl _ _⟩
 case round =>
  obtain ⟨m,hm,rfl,hown,hB⟩:=hrel
  by_cases hlt : m < rows.length
  ·
   obtain ⟨ab,ao,rfl,hal,hc⟩:=HA2.out.rec_at rwC_len (by omega) hlt
   have hq : ∀ j u,(rwC rows[m])[j]? = some u → wr.cell? ((⟨ab,ao + m * 11,none⟩ : Addr).add j) = some u:=fun j u hu => (hB.cell (p:=(⟨ab,ao + m * 11,none⟩ : Addr).add j) (by rw [add_block];exact hal)).trans (by first | exact hc j u hu | (have:=hc j u hu;rw [Addr.add_mid];exact this))
   have hts:=take_succ_get rows m hlt
   have hxr : rows[m] ∈ rows:=List.getElem_mem hlt
   have hni : (m : Int) < (rows.length : Int):=by omega
   have hst : (slotsOf rows).take (m + 1) = (slotsOf rows).take m ++ [rows[m].1.1]:=by
    unfold slotsOf;rw [take_succ_get _ m (by rw [List.length_map];exact hlt),List.getElem_map]
   have hlen : ((slotsOf rows).take m).length < 1200000000000:=by rw [List.length_take];omega
   generalize (slotsOf rows).take m = M at *
   generalize rows[m] = x at *
   obtain ⟨⟨s1,g1⟩,K,a0,a1,a2,a3,a4,a5,a6,a7⟩:=x
   obtain ⟨w3,hw3⟩ : ∃ w3,w3 = wr.alloc (.cells #[.int .i64 s1,.int .i64 g1,.int .i64 K,.int .i64 a0,.int .i64 a1,.int .i64 a2,.int .i64 a3,.int .i64 a4,.int .i64 a5,.int .i64 a6,.int .i64 a7] 51):=⟨_,rfl⟩
   have hk3 : w3.heap[wr.heap.size]? = some (.cells #[.int .i64 s1,.int .i64 g1,.int .i64 K,.int .i64 a0,.int .i64 a1,.int .i64 a2,.int .i64 a3,.int .i64 a4,.int .i64 a5,.int .i64 a6,.int .i64 a7] 51 (0,0)):=by rw [hw3];exact heap_alloc_new _ _
   have hb3 : Below wr.heap.size wr w3:=by rw [hw3];exact (Below.refl _ _).alloc (Nat.le_refl _) _
   have HP:=Lib.hid hq;have HOn:=Lib.hid (rwC_one ((s1,g1),K,a0,a1,a2,a3,a4,a5,a6,a7));have HW3:=Lib.hid hw3
   obtain ⟨c0,c1,c2,c3,c4,c5,c6,c7,c8,c9,c10,cl⟩:=cells11 hk3
   have hO3:=row_mod hown (Mod.ofBelow hb3) (by simp)
   have hB3:=hB.trans (hb3.mono hB.size)
   obtain ⟨HO3,HB3,Hst,HLen⟩:=hid4 hO3 hB3 hst hlen
   clear hO3 hB3 hst hlen
   clear hq hc hw3 hown hB hb3 hk3 hts hxr
   go_wp2_with (first | (at_builtin;(refine app_int1 rfl _ _ rfl w.heap.size _ M s1 ⟨w3.heap.size,0,none⟩ 1 rfl (HO3.out.alloc _) rfl (by go_simp) HLen.out (by have:=HB3.out.size;simp;omega) ?_);intro v' w5 hown5 hb5) | (first | (refine wpList_load_flat rfl 51 (.tmp 25) rfl _ rfl (rwC ((s1,g1),K,a0,a1,a2,a3,a4,a5,a6,a7)) _ Tryz.underlying51 rfl (sz_Row _) HP.out ?_) | (refine wpList_store_new rfl 51 (.tmp 8) (.tmp 26) rfl wr (ints zero11) (rwC ((s1,g1),K,a0,a1,a2,a3,a4,a5,a6,a7)) 51 rfl rfl rfl (sz_Row _) HOn.out ?_;rw [show (rwC ((s1,g1),K,a0,a1,a2,a3,a4,a5,a6,a7)).toArray = #[.int .i64 s1,.int .i64 g1,.int .i64 K,.int .i64 a0,.int .i64 a1,.int .i64 a2,.int .i64 a3,.int .i64 a4,.int .i64 a5,.int .i64 a6,.int .i64 a7] from rfl,← HW3.out];clear HW3)))
   go_roundw
   case rel => exact ⟨m + 1,by omega,by go_num,by rw [Hst.out];exact hown5,(HB3.out.alloc HB3.out.size _).trans hb5⟩
   case measure => simp [Go.RowKit.intOf];omega
   all_goals exact undef
  ·obtain rfl : m = rows.length:=by omega
   rw [List.take_of_length_le (by unfold slotsOf;rw [List.length_map];exact Nat.le_refl _)] at hown
   obtain ⟨Ak,ck,hve,hck,hcm⟩:=row_slice hown
   subst hve
   obtain ⟨Ak',ck',hve,-,hLk⟩:=own_lies hown
   cases hve
   have hlk : (slotsOf rows).length ≤ 60:=by unfold slotsOf;rw [List.length_map];exact h60
   have hAr:=(HA.out.below hB).mono hB.size
   by_cases hE : loadE gs (slotsOf rows) = 0
   ·have H9:=Lib.hid (rload_ok A c gs Ak ck (slotsOf rows) wr (by omega) hck (by unfold maxLen at hcm;omega) hAr hLk hE)
    obtain ⟨hI,hdup,-⟩:=loadE_zero hE
    have hnd:=nodup_of_dupB hdup
    obtain ⟨HB,HE,HI,HND⟩:=hid4 hB hE hI hnd
    clear hB hE hI hnd
    clear hown hck hcm hLk hlk hAr hdup
    go_wp2_with fail
    refine H9.out.mono ?_
    rintro e w5 ⟨ss,FS2,rfl,hS,hFS2,hb5⟩
    have hB5:=HB.out.trans (hb5.mono HB.out.size)
    have hwr:=HB.out.size
    obtain ⟨vg,vl,hs1,hs2,hs3,rfl,hs4⟩:=hS
    obtain ⟨Ag,cg,hvg,-,-⟩:=row_slice hs2
    obtain ⟨Al,cl,hvl,-,-⟩:=row_slice hs3
    have hgl:=row_lt hs2
    have hll:=row_lt hs3
    subst hvg hvl
    obtain ⟨d0,d1,dl⟩:=cells2 hs1
    obtain ⟨w7,hw7⟩ : ∃ w7,w5.alloc (.cells #[.slice Ag (loadL gs (slotsOf rows)).length cg,.slice Al (loadL gs (slotsOf rows)).length cl,.slice none 0 0,.slice none 0 0] 92) = w7:=⟨_,rfl⟩
    have hb7 : Below w5.heap.size w5 w7:=by rw [← hw7];exact (Below.refl _ _).alloc (Nat.le_refl _) _
    have hq7 : w7.heap[w5.heap.size]? = some (.cells #[.slice Ag (loadL gs (slotsOf rows)).length cg,.slice Al (loadL gs (slotsOf rows)).length cl,.slice none 0 0,.slice none 0 0] 92 (0,0)):=by rw [← hw7];exact heap_alloc_new w5 _
    have hRZ : ∃ F,RepZ (.slice none 0 0) w7 w5.heap.size (wlS gs rows) [] F ∧ ∀ y ∈ F,w.heap.size ≤ y:=by
     refine ⟨_,⟨.slice none 0 0,_,⟨_,_,hq7,row_mod hs2 (Mod.ofBelow hb7) (by simp),row_mod hs3 (Mod.ofBelow hb7) (by simp),rfl,?_⟩,⟨rfl,.inl ⟨rfl,rfl⟩⟩,rfl,?_⟩,fun y hy => ?_⟩
     ·rw [List.nodup_cons] at hs4 ⊢
      refine ⟨fun e => ?_,hs4.2⟩
      rcases List.mem_append.1 e with e | e
      ·have:=hgl _ (by simpa using e);omega
      ·have:=hll _ (by simpa using e);omega
     ·rw [List.nodup_cons] at hs4
      rw [show (Value.slice none 0 0).ownBlock.toList = ([] : List Nat) from rfl,List.append_nil,List.nodup_cons]
      refine ⟨fun e => ?_,hs4.2⟩
      rcases List.mem_append.1 e with e | e
      ·have:=hgl _ (by simpa using e);omega
      ·have:=hll _ (by simpa using e);omega
     ·rcases List.mem_append.1 hy with hy | hy
      ·rcases List.mem_cons.1 hy with hy | hy
       ·subst hy;exact hB5.size
       ·have:=hFS2 y (List.mem_cons_of_mem _ hy);omega
      ·simp [Value.ownBlock] at hy
    obtain ⟨F,hRZ1,hRZ2⟩:=hRZ
    have hB7:=hB5.trans (hb7.mono hB5.size)
    obtain ⟨HZ,HZF,HB7⟩:=hid3 hRZ1 hRZ2 hB7
    clear hRZ1 hRZ2 hB7
    clear hB5 hs1 hs2 hs3 hs4 hgl hll hb7 hq7 hFS2 hb5 hwr
    go_wp2_with fail
    clear d0 d1 dl hw7
    generalize w5.heap.size = q at *
    go_loopw [50] (fun i wr => ∃ m : Nat,m ≤ rows.length ∧ i = .int .i64 m ∧ Below w7.heap.size w7 wr ∧ (∀ r ∈ rows.take m,liveB (wlS gs rows) r.1.1 r.1.2 = true ∧ beastZ r.2 = 0)) (fun i _ => rows.length - (Go.RowKit.intOf i).toNat)
    case atStart => exact ⟨0,by omega,rfl,Below.refl _ _,by simp⟩
    case round =>
     obtain ⟨m,hm,rfl,hB0,hpre⟩:=hrel
     have hB:=HB7.out.trans (hB0.mono HB7.out.size)
     by_cases hlt : m < rows.length
     ·
      obtain ⟨ab,ao,rfl,hal,hc⟩:=HA2.out.rec_at rwC_len (by omega) hlt
      have hq : ∀ j u,(rwC rows[m])[j]? = some u → wr.cell? ((⟨ab,ao + m * 11,none⟩ : Addr).add j) = some u:=fun j u hu => (hB.cell (p:=(⟨ab,ao + m * 11,none⟩ : Addr).add j) (by rw [add_block];exact hal)).trans (by first | exact hc j u hu | (have:=hc j u hu;rw [Addr.add_mid];exact this))
      have hts:=take_succ_get rows m hlt
      have hxr : rows[m] ∈ rows:=List.getElem_mem hlt
      have hni : (m : Int) < (rows.length : Int):=by omega
      have herr:=rowsErr_at hlt hpre
      have hEw:=wlE_at h60 HE.out
      rw [herr] at hEw
      have hmk : m < (slotsOf rows).length:=by unfold slotsOf;rw [List.length_map];exact hlt
      have hke : (slotsOf rows)[m] = rows[m].1.1:=by simp [slotsOf]
      obtain ⟨sN,hsN,hsN2⟩ : ∃ sN : Nat,rows[m].1.1 = (sN : Int) ∧ sN < gs.length:=by
       have h1:=HI.out.keys m hmk
       rw [hke] at h1
       exact ⟨rows[m].1.1.toNat,by omega,by omega⟩
      have hlv : liveB (wlS gs rows) rows[m].1.1 rows[m].1.2 = decide (gs[sN] = rows[m].1.2):=by
       have hk1:=loadL_get gs (slotsOf rows) (n:=sN) (by rw [loadL_len];exact hsN2)
       have hh : hasB (slotsOf rows) (sN : Int) = true:=(hasB_iff _ _).2 (by rw [← hsN,← hke];exact List.getElem_mem hmk)
       rw [hh] at hk1
       unfold wlS liveB
       rw [hsN,Int.toNat_natCast,List.getElem?_eq_getElem (by rw [loadL_len];exact hsN2),hk1]
       simp
      obtain ⟨gb,go,hAe,hgb,hgc⟩:=HA.out.int_at hsN2
      have hgc2:=(hB.cell (p:=⟨gb,go + sN,none⟩) hgb).trans hgc
      have hsi : (sN : Int) < (gs.length : Int):=by omega
      generalize gs[sN] = gv at *
      generalize rows.drop (m + 1) = post at *
      generalize rows[m] = x at *
      obtain ⟨⟨s1,g1⟩,K,a0,a1,a2,a3,a4,a5,a6,a7⟩:=x
      simp only at hsN
      subst hsN
      subst hAe
      simp only at hlv
      obtain ⟨w3,hw3⟩ : ∃ w3,w3 = wr.alloc (.cells #[.int .i64 (sN : Int),.int .i64 g1,.int .i64 K,.int .i64 a0,.int .i64 a1,.int .i64 a2,.int .i64 a3,.int .i64 a4,.int .i64 a5,.int .i64 a6,.int .i64 a7] 51):=⟨_,rfl⟩
      have hk3 : w3.heap[wr.heap.size]? = some (.cells #[.int .i64 (sN : Int),.int .i64 g1,.int .i64 K,.int .i64 a0,.int .i64 a1,.int .i64 a2,.int .i64 a3,.int .i64 a4,.int .i64 a5,.int .i64 a6,.int .i64 a7] 51 (0,0)):=by rw [hw3];exact heap_alloc_new _ _
      have hb3 : Below wr.heap.size wr w3:=by rw [hw3];exact (Below.refl _ _).alloc (Nat.le_refl _) _
      have HP:=Lib.hid hq;have HOn:=Lib.hid (rwC_one (((sN : Int),g1),K,a0,a1,a2,a3,a4,a5,a6,a7));have HW3:=Lib.hid hw3
      obtain ⟨c0,c1,c2,c3,c4,c5,c6,c7,c8,c9,c10,cl⟩:=cells11 hk3
      have hB3:=hB.trans (hb3.mono hB.size)
      have hB03:=hB0.trans (hb3.mono hB0.size)
      have hgc3:=(hb3.cell (p:=⟨gb,go + sN,none⟩) (show gb < wr.heap.size by have:=hB.size;omega)).trans hgc2
      have hgl3 : gb < w3.heap.size:=by have:=hB3.size;omega
      by_cases hgv : gv = g1
      ·subst hgv
       have hne : (gv != gv) = false:=by simp
       have hlv2 : liveB (wlS gs rows) (sN : Int) gv = true:=by rw [hlv];simp
       have H18:=Lib.hid (fun w => beastCheck_any K a0 a1 a2 a3 a4 a5 a6 a7 w)
       rw [show beastE K [a0,a1,a2,a3,a4,a5,a6,a7] = beastZ (K,a0,a1,a2,a3,a4,a5,a6,a7) from rfl] at H18
       by_cases hbz : beastZ (K,a0,a1,a2,a3,a4,a5,a6,a7) = 0
       ·have hpre2 : ∀ r ∈ rows.take (m + 1),liveB (wlS gs rows) r.1.1 r.1.2 = true ∧ beastZ r.2 = 0:=fun r hr => by
         rw [hts] at hr
         rcases List.mem_append.1 hr with h | h
         ·exact hpre r h
         ·have : r = (((sN : Int),gv),K,a0,a1,a2,a3,a4,a5,a6,a7):=by simpa using h
          subst this;exact ⟨hlv2,hbz⟩
        rw [hbz] at H18
        obtain ⟨HB3,HB03,HPRE,HK3⟩:=hid4 hB3 hB03 hpre2 hk3
        clear hB3 hB03 hpre2 hk3
        clear hq hc hw3 hB hB0 hpre hb3 hts hxr herr hEw hlv hlv2 hbz hgc hgc2 hmk hke
        go_wp2_with (first | (refine wpList_load_flat rfl 51 (.tmp 52) rfl _ rfl (rwC (((sN : Int),gv),K,a0,a1,a2,a3,a4,a5,a6,a7)) _ Tryz.underlying51 rfl (sz_Row _) HP.out ?_) | (refine wpList_store_new rfl 51 (.tmp 13) (.tmp 53) rfl wr (ints zero11) (rwC (((sN : Int),gv),K,a0,a1,a2,a3,a4,a5,a6,a7)) 51 rfl rfl rfl (sz_Row _) HOn.out ?_;rw [show (rwC (((sN : Int),gv),K,a0,a1,a2,a3,a4,a5,a6,a7)).toArray = #[.int .i64 (sN : Int),.int .i64 gv,.int .i64 K,.int .i64 a0,.int .i64 a1,.int .i64 a2,.int .i64 a3,.int .i64 a4,.int .i64 a5,.int .i64 a6,.int .i64 a7] from rfl,← HW3.out];clear HW3))
        refine wp_planR 10 [0] [some 54,some 55,some 56,some 57,some 58,some 59,some 60,some 61,some 62,some 63] [[],[],[1],[1,2],[0,1,2,3],[0,1,2,3,4],[],[6],[6,7],[0,1,2,3,4,5,6,7,8]] [0,1,2,3,4,5,6,7,8,9] mixed rfl (by kernel_rfl) (by decide) (by decide) rfl ?_
        iterate 10 apply Exists.intro
        refine ⟨rfl,?_,?_⟩
        ·simp only [tS,List.take_zero,AllFrom.cons_eq,AllFrom.nil_eq,OpGoalQ]
         refine ⟨?_,?_,?_,?_,?_,?_,?_,?_,?_,?_,trivial⟩
         all_goals (intro σ hp;(try simp only [gZ,gS,mC,mN,preF_cons,preF_nil,isV,and_true] at hp);(first | (have hq : True:=hp;clear hq hp) | skip))
         all_goals (go_simp;exact ⟨rfl,rfl⟩)
        intro σ hp
        simp only [gZ,gS,mC,mN,preF_cons,preF_nil,isV,and_true] at hp
        simp only [dS,List.drop_zero]
        go_simp
        clear hp
        refine ⟨rfl,?_⟩
        have hkd:=(Mod.ofBelow (below_drew (w:=w3))).keep HK3.out (by simp)
        clear c0 c1 c2 c3 c4 c5 c6 c7 c8 c9 c10 cl hgc3 hgl3
        obtain ⟨c0,c1,c2,c3,c4,c5,c6,c7,c8,c9,c10,cl⟩:=cells11 hkd
        clear hkd
        go_wp2_with fail
        refine (H18.out _).mono ?_
        rintro e w9 ⟨rfl,hb9⟩
        have hB9:=HB03.out.trans ((below_drew.trans hb9).mono HB03.out.size)
        have HB9:=Lib.hid hB9
        clear hB9
        clear hb9
        go_wp2
        go_roundw
        case rel => exact ⟨m + 1,by omega,by go_num,HB9.out,HPRE.out⟩
        case measure => simp [Go.RowKit.intOf];omega
        all_goals exact undef
       ·have hwz : wlE gs rows = beastZ (K,a0,a1,a2,a3,a4,a5,a6,a7):=by rw [hEw,rowsErr,if_neg (by rw [hlv2];simp),if_pos hbz]
        generalize beastZ (K,a0,a1,a2,a3,a4,a5,a6,a7) = z at *
        have hz : (z != 0) = true:=by simpa using hbz
        obtain ⟨HB3,HWZ,HBZ,HK3⟩:=hid4 hB3 hwz hbz hk3
        clear hB3 hwz hbz hk3
        clear hq hc hw3 hB hB0 hpre hb3 hts hxr herr hEw hlv hlv2 hgc hgc2 hmk hke hB03
        go_wp2_with (first | (refine wpList_load_flat rfl 51 (.tmp 52) rfl _ rfl (rwC (((sN : Int),gv),K,a0,a1,a2,a3,a4,a5,a6,a7)) _ Tryz.underlying51 rfl (sz_Row _) HP.out ?_) | (refine wpList_store_new rfl 51 (.tmp 13) (.tmp 53) rfl wr (ints zero11) (rwC (((sN : Int),gv),K,a0,a1,a2,a3,a4,a5,a6,a7)) 51 rfl rfl rfl (sz_Row _) HOn.out ?_;rw [show (rwC (((sN : Int),gv),K,a0,a1,a2,a3,a4,a5,a6,a7)).toArray = #[.int .i64 (sN : Int),.int .i64 gv,.int .i64 K,.int .i64 a0,.int .i64 a1,.int .i64 a2,.int .i64 a3,.int .i64 a4,.int .i64 a5,.int .i64 a6,.int .i64 a7] from rfl,← HW3.out];clear HW3))
        refine wp_planR 10 [0] [some 54,some 55,some 56,some 57,some 58,some 59,some 60,some 61,some 62,some 63] [[],[],[1],[1,2],[0,1,2,3],[0,1,2,3,4],[],[6],[6,7],[0,1,2,3,4,5,6,7,8]] [0,1,2,3,4,5,6,7,8,9] mixed rfl (by kernel_rfl) (by decide) (by decide) rfl ?_
        iterate 10 apply Exists.intro
        refine ⟨rfl,?_,?_⟩
        ·simp only [tS,List.take_zero,AllFrom.cons_eq,AllFrom.nil_eq,OpGoalQ]
         refine ⟨?_,?_,?_,?_,?_,?_,?_,?_,?_,?_,trivial⟩
         all_goals (intro σ hp;(try simp only [gZ,gS,mC,mN,preF_cons,preF_nil,isV,and_true] at hp);(first | (have hq : True:=hp;clear hq hp) | skip))
         all_goals (go_simp;exact ⟨rfl,rfl⟩)
        intro σ hp
        simp only [gZ,gS,mC,mN,preF_cons,preF_nil,isV,and_true] at hp
        simp only [dS,List.drop_zero]
        go_simp
        clear hp
        refine ⟨rfl,?_⟩
        have hkd:=(Mod.ofBelow (below_drew (w:=w3))).keep HK3.out (by simp)
        clear c0 c1 c2 c3 c4 c5 c6 c7 c8 c9 c10 cl hgc3 hgl3
        obtain ⟨c0,c1,c2,c3,c4,c5,c6,c7,c8,c9,c10,cl⟩:=cells11 hkd
        clear hkd
        go_wp2_with fail
        refine (H18.out _).mono ?_
        rintro e w9 ⟨rfl,hb9⟩
        have hB9:=HB3.out.trans ((below_drew.trans hb9).mono HB3.out.size)
        have HB9:=Lib.hid hB9
        clear hB9
        clear hb9
        go_wp2
        go_ret2
        exact ⟨HB9.out,.inl ⟨by rw [HWZ.out];exact HBZ.out,by rw [HWZ.out];rfl⟩⟩
        all_goals exact undef
      ·have hw7 : wlE gs rows = 7:=by rw [hEw,rowsErr,if_pos (by rw [hlv];simpa using hgv)]
       have hne : (gv != g1) = true:=by simpa using hgv
       obtain ⟨HW7,HB3⟩:=hid2 hw7 hB3
       clear hw7 hB3
       clear hq hc hw3 hB hB0 hpre hb3 hts hxr herr hEw hlv hgc hgc2 hmk hke hB03 hgv hk3
       go_wp2_with (first | (refine wpList_load_flat rfl 51 (.tmp 52) rfl _ rfl (rwC (((sN : Int),g1),K,a0,a1,a2,a3,a4,a5,a6,a7)) _ Tryz.underlying51 rfl (sz_Row _) HP.out ?_) | (refine wpList_store_new rfl 51 (.tmp 13) (.tmp 53) rfl wr (ints zero11) (rwC (((sN : Int),g1),K,a0,a1,a2,a3,a4,a5,a6,a7)) 51 rfl rfl rfl (sz_Row _) HOn.out ?_;rw [show (rwC (((sN : Int),g1),K,a0,a1,a2,a3,a4,a5,a6,a7)).toArray = #[.int .i64 (sN : Int),.int .i64 g1,.int .i64 K,.int .i64 a0,.int .i64 a1,.int .i64 a2,.int .i64 a3,.int .i64 a4,.int .i64 a5,.int .i64 a6,.int .i64 a7] from rfl,← HW3.out];clear HW3))
       refine wp_planR 10 [0] [some 54,some 55,some 56,some 57,some 58,some 59,some 60,some 61,some 62,some 63] [[],[],[1],[1,2],[0,1,2,3],[0,1,2,3,4],[],[6],[6,7],[0,1,2,3,4,5,6,7,8]] [0,1,2,3,4,5,6,7,8,9] mixed rfl (by kernel_rfl) (by decide) (by decide) rfl ?_
       iterate 10 apply Exists.intro
       refine ⟨rfl,?_,?_⟩
       ·simp only [tS,List.take_zero,AllFrom.cons_eq,AllFrom.nil_eq,OpGoalQ]
        refine ⟨?_,?_,?_,?_,?_,?_,?_,?_,?_,?_,trivial⟩
        all_goals (intro σ hp;(try simp only [gZ,gS,mC,mN,preF_cons,preF_nil,isV,and_true] at hp);(first | (have hq : True:=hp;clear hq hp) | skip))
        all_goals (go_simp;exact ⟨rfl,rfl⟩)
       intro σ hp
       simp only [gZ,gS,mC,mN,preF_cons,preF_nil,isV,and_true] at hp
       simp only [dS,List.drop_zero]
       go_simp
       clear hp
       refine ⟨rfl,?_⟩
       have hBd:=HB3.out.drew
       have HBd:=Lib.hid hBd
       clear hBd
       go_wp2
       go_ret2
       exact ⟨HBd.out,.inl ⟨by rw [HW7.out];simp,by rw [HW7.out];rfl⟩⟩
       all_goals exact undef
     ·obtain rfl : m = rows.length:=by omega
      rw [List.take_length] at hpre
      have hw0 : wlE gs rows = 0:=by rw [wlE_at h60 HE.out];exact rowsErr_ok.2 hpre
      have hR1:=HZ.out.below hB0
      obtain ⟨HW0,HR1,HBw⟩:=hid3 hw0 hR1 hB
      clear hw0 hR1 hB
      clear hpre hB0
      go_wp2_with fail
      go_loopw [73] (fun i wu => ∃ (k : Nat) (F' : List Nat),k ≤ gs.length ∧ i = .int .i64 k ∧ RepZ (.slice none 0 0) wu q (wlS gs rows) (wlK k rows) F' ∧ (∀ y ∈ F',w.heap.size ≤ y) ∧ Below w.heap.size w wu) (fun i _ => gs.length - (Go.RowKit.intOf i).toNat)
      case atStart => exact ⟨0,F,by omega,rfl,HR1.out,HZF.out,HBw.out⟩
      case round =>
       obtain ⟨k,F',hk,rfl,hZ,hFF,hB⟩:=hrel
       clear HR1 HZF HBw HZ
       by_cases hkl : k < gs.length
       ·have hki : (k : Int) < (gs.length : Int):=by omega
        have hg60:=HI.out.len
        have hKl:=wlK_len h60 k
        obtain ⟨HZ1,HF1,HB1,HG60,HKL⟩:=hid5 hZ hFF hB hg60 hKl
        clear hZ hFF hB hg60 hKl
        go_wp2_with fail
        go_loopw [78] (fun i wv => ∃ (u : Nat) (F2 : List Nat),u ≤ rows.length ∧ i = .int .i64 u ∧ RepZ (.slice none 0 0) wv q (wlS gs rows) (wlK k rows ++ (rows.take u).filter (fun r => decide (r.1.1 = (k : Int)))) F2 ∧ (∀ y ∈ F2,w.heap.size ≤ y) ∧ Below w.heap.size w wv) (fun i _ => rows.length - (Go.RowKit.intOf i).toNat)
        case atStart => exact ⟨0,F',by omega,rfl,by simpa using HZ1.out,HF1.out,HB1.out⟩
        case round =>
         obtain ⟨u,F2,hu,rfl,hZ2,hF2,hB2⟩:=hrel
         by_cases hul : u < rows.length
         ·
          obtain ⟨ab,ao,rfl,hal,hc⟩:=HA2.out.rec_at rwC_len (by omega) hul
          have hq : ∀ j zz,(rwC rows[u])[j]? = some zz → wr.cell? ((⟨ab,ao + u * 11,none⟩ : Addr).add j) = some zz:=fun j zz hzz => (hB2.cell (p:=(⟨ab,ao + u * 11,none⟩ : Addr).add j) (by rw [add_block];exact hal)).trans (by first | exact hc j zz hzz | (have:=hc j zz hzz;rw [Addr.add_mid];exact this))
          have hts:=take_succ_get rows u hul
          have hxr : rows[u] ∈ rows:=List.getElem_mem hul
          have hni : (u : Int) < (rows.length : Int):=by omega
          have hft : (rows.take (u + 1)).filter (fun r => decide (r.1.1 = (k : Int))) = (rows.take u).filter (fun r => decide (r.1.1 = (k : Int))) ++ (if rows[u].1.1 = (k : Int) then [rows[u]] else []):=by
           rw [hts,List.filter_append,List.filter_cons]
           by_cases e : rows[u].1.1 = (k : Int) <;> simp [e]
          have hfl:=List.length_filter_le (fun r : Rw => decide (r.1.1 = (k : Int))) (rows.take u)
          rw [List.length_take] at hfl
          have hml : (wlK k rows ++ (rows.take u).filter (fun r => decide (r.1.1 = (k : Int)))).length ≤ 3660:=by
           rw [List.length_append];have:=HKL.out;have:=HG60.out;omega
          have hsn : wlK k rows ++ (rows.take (u + 1)).filter (fun r => decide (r.1.1 = (k : Int))) = (wlK k rows ++ (rows.take u).filter (fun r => decide (r.1.1 = (k : Int)))) ++ (if rows[u].1.1 = (k : Int) then [rows[u]] else []):=by rw [hft,List.append_assoc]
          generalize wlK k rows ++ (rows.take u).filter (fun r => decide (r.1.1 = (k : Int))) = M at *
          generalize rows[u] = x at *
          obtain ⟨⟨s1,g1⟩,K,a0,a1,a2,a3,a4,a5,a6,a7⟩:=x
          simp only at hsn
          obtain ⟨w3,hw3⟩ : ∃ w3,w3 = wr.alloc (.cells #[.int .i64 s1,.int .i64 g1,.int .i64 K,.int .i64 a0,.int .i64 a1,.int .i64 a2,.int .i64 a3,.int .i64 a4,.int .i64 a5,.int .i64 a6,.int .i64 a7] 51):=⟨_,rfl⟩
          have hk3 : w3.heap[wr.heap.size]? = some (.cells #[.int .i64 s1,.int .i64 g1,.int .i64 K,.int .i64 a0,.int .i64 a1,.int .i64 a2,.int .i64 a3,.int .i64 a4,.int .i64 a5,.int .i64 a6,.int .i64 a7] 51 (0,0)):=by rw [hw3];exact heap_alloc_new _ _
          have hb3 : Below wr.heap.size wr w3:=by rw [hw3];exact (Below.refl _ _).alloc (Nat.le_refl _) _
          have HP:=Lib.hid hq;have HOn:=Lib.hid (rwC_one ((s1,g1),K,a0,a1,a2,a3,a4,a5,a6,a7));have HW3:=Lib.hid hw3
          obtain ⟨c0,c1,c2,c3,c4,c5,c6,c7,c8,c9,c10,cl⟩:=cells11 hk3
          have hZ3:=hZ2.below hb3
          have hB3:=hB2.trans (hb3.mono hB2.size)
          by_cases hsk : s1 = (k : Int)
          ·subst hsk
           have hne : ((k : Int) == (k : Int)) = true:=by simp
           rw [if_pos rfl] at hsn
           obtain ⟨vg,vl,Az,cz,hqz,hrowz,hnz⟩:=hZ3.open2
           have hqlt:=blk_lt hqz
           have hFlt3:=hZ3.lt
           obtain ⟨HZ3,HB3,HSN,HF2,HQZ,HROWZ,HNZ,HK3,HML,HFLT3⟩:=hid10 hZ3 hB3 hsn hF2 hqz hrowz hnz hk3 hml hFlt3
           clear hZ3 hB3 hsn hF2 hqz hrowz hnz hk3 hml hFlt3
           clear hq hc hw3 hZ2 hB2 hb3 hts hxr hft hfl
           go_wp2_with (first | (refine wpList_load_flat rfl 51 (.tmp 80) rfl _ rfl (rwC (((k : Int),g1),K,a0,a1,a2,a3,a4,a5,a6,a7)) _ Tryz.underlying51 rfl (sz_Row _) HP.out ?_) | (refine wpList_store_new rfl 51 (.tmp 17) (.tmp 81) rfl wr (ints zero11) (rwC (((k : Int),g1),K,a0,a1,a2,a3,a4,a5,a6,a7)) 51 rfl rfl rfl (sz_Row _) HOn.out ?_;rw [show (rwC (((k : Int),g1),K,a0,a1,a2,a3,a4,a5,a6,a7)).toArray = #[.int .i64 (k : Int),.int .i64 g1,.int .i64 K,.int .i64 a0,.int .i64 a1,.int .i64 a2,.int .i64 a3,.int .i64 a4,.int .i64 a5,.int .i64 a6,.int .i64 a7] from rfl,← HW3.out];clear HW3))
           clear c0 c1 c2 c3 c4 c5 c6 c7 c8 c9 c10 cl
           refine wp_planK [6,7] 8 [0,1] [some 87,some 88,some 89,some 90,some 91,some 92,some 93,some 94,some 95,some 96,none] [[],[],[1],[1,2],[1,2,3],[],[5],[1,2,3,4,5,6],[0,1,2,3,4,5,6,7],[0,1,2,3,4,5,6,7,8],[0,1,2,3,4,5,6,7,8,9]] [0,1,2,3,4,5,6,7] (fun Lf σ V => IPush w3 (.slice Az M.length cz) M (((k : Int),g1),K,a0,a1,a2,a3,a4,a5,a6,a7) Lf σ V) mixed rfl (by kernel_rfl) (by decide) (by decide) (by decide) (IPush.start below_drew) rfl ?_
           iterate 8 apply Exists.intro
           refine ⟨rfl,?_,?_⟩
           ·simp only [tS,List.take_zero,AllFrom.cons_eq,AllFrom.nil_eq,OpGoalK]
            refine ⟨?_,?_,?_,?_,?_,?_,?_,?_,trivial⟩
            all_goals (intro L' σ V h1 h2 h3 hI hp;have HA1:=Lib.hid h1;have HA2:=Lib.hid h2;have HA3:=Lib.hid h3;clear h1 h2 h3;(try simp only [gZ,gS,preK_cons,preK_nil] at hp);(try simp only [List.mem_cons,List.not_mem_nil,or_false,eq_self,Nat.reduceEqDiff,Nat.reduceAdd,Nat.zero_add,false_or,true_or,true_and,and_true] at hp);(first | (have hq : True:=hp;clear hq hp) | skip);have HI:=Lib.hid hI;clear hI)
            iterate 4 · (go_simp;exact ⟨.inr rfl,HI.out.read (by decide) _⟩)
            ·have hbV:=HI.out.b (HA3.out 7 (by decide))
             have hqV:=(Mod.ofBelow hbV).keep HQZ.out (by simp)
             have c2':=blk_cell hqV 2
             simp only [eA,eZ,eS] at c2'
             have hql:=blk_lt hqV
             clear hqV hbV
             (go_simp;exact ⟨.inr rfl,HI.out.read (by decide) _⟩)
            ·have hbV:=HI.out.b (HA3.out 7 (by decide))
             have hkV:=(Mod.ofBelow hbV).keep HK3.out (by simp)
             obtain ⟨c0,c1,c2,c3,c4,c5,c6,c7,c8,c9,c10,cl⟩:=cells11 hkV
             clear hkV hbV
             (go_simp;exact ⟨.inr rfl,HI.out.read (by decide) _⟩)
            ·go_simp
             exact PostK.mk (c:=undef) (.inl (by decide)) (HI.out.oned (HA3.out 7 (by decide)))
            ·simp only [wantedL_none,if_true]
             have ha6:=HI.out.o (HA2.out 6 (by decide)) HA1.out
             have ho:=row_mod HROWZ.out (Mod.ofBelow (HI.out.b HA1.out)) (by simp)
             obtain ⟨Ha6,Ho⟩:=hid2 ha6 ho
             have Hlen:=Lib.hid (show (M.length + 1) * 88 ≤ 140737488355328 by have:=HML.out;omega)
             clear ha6 ho
             refine yr_app (enc:=rwC) (n:=11) (z:=.agg (Array.replicate 11 (.int .i64 0))) (bytes:=88) (.tmp 91) (.tmp 93) 23 51 rfl Tryz.underlying23 inf_Row rfl (by omega) (by omega) rwC_one rwC_len 0 (.slice Az M.length cz) M (((k : Int),g1),K,a0,a1,a2,a3,a4,a5,a6,a7) w3.heap.size (rwC (((k : Int),g1),K,a0,a1,a2,a3,a4,a5,a6,a7)).toArray 51 (by go_simp) Ho.out (by go_simp;exact Ha6.out) rfl Hlen.out (Nat.zero_le _) ?_
             intro v' V' hv hg hl
             exact PostK.mk (c:=undef) (.inl (by decide)) (HI.out.apped HA1.out hg hv hl)
           ·intro L' σ V h1 hI hp
            have hx:=Classical.choose_spec (hI.a (h1 7 (by decide)))
            generalize Classical.choose (hI.a (h1 7 (by decide))) = V0 at hx
            have hb0:=hx.1
            have hg0:=hx.2.1
            have ho0:=hx.2.2.1
            have hl0:=hx.2.2.2
            clear h1 hI hx
            simp only [preK_cons,preK_nil,gZ,gS] at hp;simp only [List.mem_cons,List.not_mem_nil,or_false,eq_self,Nat.reduceEqDiff,false_or,true_or,true_and,and_true] at hp
            have hpu:=RepZ.push HZ3.out HQZ.out hb0 hg0 ho0 hl0
            have hM0 : Mod (Value.slice Az M.length cz).ownBlock.toList w3 V:=((Mod.ofBelow hb0).mono (by simp)).grown hg0 (fun y hy => .inl (by simp [hy]))
            have hqV:=hM0.keep HQZ.out HNZ.out
            have c2':=blk_cell hqV 2
            simp only [eA,eZ,eS] at c2'
            have f2':=blk_free hqV 2
            have hql:=blk_lt hqV
            obtain ⟨A5,cap5,hv5,-,-⟩:=row_slice ho0
            have hp2:=Classical.choose_spec hpu
            generalize Classical.choose hpu = F5 at hp2
            generalize hw8 : V.setCell ⟨q,2,none⟩ (σ 7) = w8 at hp2
            rw [hv5,List.length_append,List.length_singleton] at hw8
            have hB8 : Below w.heap.size w w8:=HB3.out.trans (hp2.2.mod.toBelow HF2.out HB3.out.size)
            have hF5 : ∀ y ∈ F5,w.heap.size ≤ y:=fun y hy => by
             rcases hp2.2.new y hy with h | h
             ·exact HF2.out y h
             ·have:=HB3.out.size;omega
            have hZ8:=hp2.1
            obtain ⟨HB8,HF5,HZ8⟩:=hid3 hB8 hF5 hZ8
            clear hB8 hF5 hZ8
            clear hp2 hpu hM0 hqV hb0 hg0 ho0 hl0
            simp only [dS,List.drop_zero]
            go_simp
            clear hp
            go_wp2_with fail
            refine ⟨rfl,?_⟩
            clear hv5 c2' f2' hw8
            go_wp2
            go_roundw
            case rel => exact ⟨u + 1,F5,by omega,by go_num,by rw [HSN.out];exact HZ8.out,HF5.out,HB8.out⟩
            case measure => simp [Go.RowKit.intOf];omega
           all_goals exact undef
          ·have hne : (s1 == (k : Int)) = false:=by simpa using hsk
           rw [if_neg hsk,List.append_nil] at hsn
           obtain ⟨HZ3,HB3,HSN,HF2⟩:=hid4 hZ3 hB3 hsn hF2
           clear hZ3 hB3 hsn hF2
           clear hq hc hw3 hZ2 hB2 hb3 hts hxr hft hfl hml hk3 hsk
           go_wp2_with (first | (refine wpList_load_flat rfl 51 (.tmp 80) rfl _ rfl (rwC ((s1,g1),K,a0,a1,a2,a3,a4,a5,a6,a7)) _ Tryz.underlying51 rfl (sz_Row _) HP.out ?_) | (refine wpList_store_new rfl 51 (.tmp 17) (.tmp 81) rfl wr (ints zero11) (rwC ((s1,g1),K,a0,a1,a2,a3,a4,a5,a6,a7)) 51 rfl rfl rfl (sz_Row _) HOn.out ?_;rw [show (rwC ((s1,g1),K,a0,a1,a2,a3,a4,a5,a6,a7)).toArray = #[.int .i64 s1,.int .i64 g1,.int .i64 K,.int .i64 a0,.int .i64 a1,.int .i64 a2,.int .i64 a3,.int .i64 a4,.int .i64 a5,.int .i64 a6,.int .i64 a7] from rfl,← HW3.out];clear HW3))
           go_roundw
           case rel => exact ⟨u + 1,F2,by omega,by go_num,by rw [HSN.out];exact HZ3.out,HF2.out,HB3.out⟩
           case measure => simp [Go.RowKit.intOf];omega
           all_goals exact undef
         ·obtain rfl : u = rows.length:=by omega
          rw [List.take_length,← wlK_succ] at hZ2
          obtain ⟨HZ2,HF2,HB2⟩:=hid3 hZ2 hF2 hB2
          clear hZ2 hF2 hB2
          go_wp2
          go_roundw
          case rel => exact ⟨k + 1,F2,by omega,by go_num,HZ2.out,HF2.out,HB2.out⟩
          case measure => simp [Go.RowKit.intOf];omega
       ·obtain rfl : k = gs.length:=by omega
        obtain ⟨HZ1,HF1,HB1⟩:=hid3 hZ hFF hB
        clear hZ hFF hB
        go_wp2
        go_ret2
        exact ⟨HB1.out,.inr ⟨HW0.out,q,F',rfl,HZ1.out,HF1.out⟩⟩
   ·have H9:=Lib.hid (rload_err A c gs Ak ck (slotsOf rows) wr (by omega) hck (by unfold maxLen at hcm;omega) hAr hLk hE)
    have hwz : wlE gs rows = loadE gs (slotsOf rows):=by unfold wlE;rw [if_neg (by omega),if_pos hE]
    generalize loadE gs (slotsOf rows) = z at *
    have hz : (z != 0) = true:=by simpa using hE
    obtain ⟨HB,HE,HWZ⟩:=hid3 hB hE hwz
    clear hB hE hwz
    clear hown hck hcm hLk hlk hAr
    go_wp2_with fail
    refine H9.out.mono ?_
    rintro e w5 ⟨rfl,hb5⟩
    have hB5:=HB.out.trans (hb5.mono HB.out.size)
    have HB5:=Lib.hid hB5
    clear hB5
    clear hb5
    go_wp2
    go_ret2
    exact ⟨HB5.out,.inl ⟨by rw [HWZ.out];exact HE.out,by rw [HWZ.out];rfl⟩⟩
end
end Go.Proofs.YtoheblfpjinmnaaGreatDoor
