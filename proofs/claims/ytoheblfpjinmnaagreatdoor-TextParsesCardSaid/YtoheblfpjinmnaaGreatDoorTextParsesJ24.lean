import Derived.Test.YtoheblfpjinmnaaGreatDoorTextParsesJ23
set_option linter.unusedVariables false
set_option linter.unusedSimpArgs false
/- A part of the proof that TextParses returns true. -/
namespace Go.Proofs.YtoheblfpjinmnaaGreatDoor
open Go Go.RowKit
attribute [local go_sem] AllFrom.cons_eq AllFrom.nil_eq putF_nil putF_cons wantedL_none wantedL_some OpGoalT OpGoalV OpGoalQ OpGoalA OpGoalK YieldsR preF_nil preF_cons ByteArray.mk_append_mk
theorem IsB.below {B b : Nat} {l : Bs} {w w' : World} (h : IsB B b l w) (hb : Below w.heap.size w w') : IsB B b l w':=by
 have key : ∀ p,Lib.BuilderAtF 74 5 B b p (Lib.byteCells l) w → Lib.BuilderAtF 74 5 B b p (Lib.byteCells l) w':=fun p ⟨h1,v,h2,h3,h4⟩ =>
  ⟨h1,v,(hb.block b (blk_lt h2)).trans h2,h3.kept (row:=none) ⟨hb.os,hb.tape,hb.output,hb.size,fun k h1 _ => hb.block k h1⟩ (by cases hv : v.ownBlock <;> simp),h4⟩
 exact h.imp (key _) (key _)
theorem IsB.lt {B b : Nat} {l : Bs} {w : World} (h : IsB B b l w) : b < w.heap.size:=by
 rcases h with h | h
 ·exact h.lt
 ·exact h.lt
theorem row_others {w w' : World} {e u : TypeId} {b : Option Nat} (ho : Lib.OthersKept u b w w') {B n k : Nat} {v : Value} {xs : List Value} (h : w.ownsRow B e n v k xs) (hu : e ≠ u) (hb : ∀ g,v.ownBlock = some g → some g ≠ b) : w'.ownsRow B e n v k xs:=by
 refine ⟨h.1,?_⟩
 rcases h.2 with hn | ⟨g,cap,cur,hv,hbg,hg,rest⟩
 ·exact .inl hn
 ·exact .inr ⟨g,cap,cur,hv,hbg,ho g _ hg (hb g (by rw [hv];rfl)) (fun c fz e2 => by cases e2;exact hu rfl),rest⟩
theorem new_ints {w : World} {b : Nat} {l : List Int} (h : w.heap[b]? = some (.cells (ints l).toArray 3 (0,0))) : Lies w w.heap.size (some ⟨b,0,none⟩) (ints l):=fun j u hu => by
 refine ⟨_,rfl,blk_lt h,?_⟩
 have:=blk_cell h j
 rw [List.getElem?_toArray,hu] at this
 rw [← this]
 unfold Addr.add;split <;> simp_all
structure IBt (w0 : World) (x : Int) (L : Nat → Bool) (σ : Nat → Value) (V : World) : Prop where
 b : Below w0.heap.size w0 V
 r : L 1 = true → ∃ nb,σ 1 = .slice (some ⟨nb,0,none⟩) 1 1 ∧ V.heap[nb]? = some (.cells #[.int .i64 x] 3 (0,0))
section
variable {w0 V V' : World} {x : Int} {L : Nat → Bool} {σ : Nat → Value}
theorem IBt.start (h : Below w0.heap.size w0 V) : IBt w0 x (fun _ => false) σ V:=⟨h,fun e => (by cases e)⟩
theorem IBt.call (h : IBt w0 x L σ V) {i : Nat} (hi : 1 ≠ i) (hb : Below V.heap.size V V') (v : Value) : IBt w0 x (upd L i) (updv σ i v) V':=by
 refine ⟨h.b.trans (hb.mono h.b.size),fun e => ?_⟩
 have e1 : upd L i 1 = L 1:=by unfold upd;simp [hi]
 have e2 : updv σ i v 1 = σ 1:=by unfold updv;rw [if_neg hi]
 rw [e1] at e
 rw [e2]
 obtain ⟨nb,h1,h2⟩:=h.r e
 exact ⟨nb,h1,(hb.block nb (blk_lt h2)).trans h2⟩
theorem IBt.read (h : IBt w0 x L σ V) {i : Nat} (hi : 1 ≠ i) (v : Value) : IBt w0 x (upd L i) (updv σ i v) V:=h.call hi (Below.refl _ _) v
theorem IBt.made (h : IBt w0 x L σ V) : IBt w0 x (upd L 1) (updv σ 1 (.slice (some ⟨V.heap.size,0,none⟩) 1 1)) (V.alloc (.cells #[.int .i64 x] 3)) :=
 ⟨h.b.alloc h.b.size _,fun _ => ⟨V.heap.size,by unfold updv;simp,World.alloc_heap_new _ _⟩⟩
end
theorem smallI_in {n : Int} (h : SmallI n) : InR n:=by unfold SmallI at h;unfold InR;omega
theorem itoa_small {n : Int} (h : SmallI n) : (Lib.itoa n).length ≤ 21:=by unfold SmallI at h;exact Lib.itoa_length_le n (by omega) (by omega)
theorem gens_len {gs : List Int} {rows : List Rw} {bs : List Bd} (h : TOk gs rows bs) (h60 : gs.length ≤ 60) : (gensX gs).length ≤ 2000:=by
 have h1:=nums_len (l:=gs) (fun n hn => smallI_in (h.g n hn))
 unfold gensX
 rw [List.length_append]
 show 4 + _ ≤ _
 omega
theorem zok_of {gs : List Int} {rows : List Rw} {bs : List Bd} (h : zlE gs rows bs = 0) : ZOk (wlS gs rows) (wlL gs rows) (zlB gs rows bs):=by
 obtain ⟨hw,hl⟩:=zlE_zero h
 obtain ⟨k1,k2,k3⟩:=loadB_ok famOk_nil hl
 refine ⟨(wlok_of hw).wok,k1,fun b hb => ?_⟩
 have hb2 : b ∈ bs:=by
  rcases (k2 b).1 hb with h1 | h1
  ·cases h1
  ·exact h1
 have:=k3 b hb2
 rw [liveZ_two,Bool.and_eq_true] at this
 exact (liveB_iff _ _ _).1 this.1
theorem bonds_60 {gs : List Int} {rows : List Rw} {bs : List Bd} (h : printE gs rows bs = 0) : bs.length ≤ 60:=by
 have hz:=printE_zero h
 have:=(zok_of hz.1).len
 rw [hz.2.2] at this
 exact this
theorem printX_cat (gs : List Int) (rows : List Rw) (bs : List Bd) : printX gs rows bs = (lnX (gensX gs) ++ rows.flatMap (fun r => lnX (rowX r))) ++ bs.flatMap (fun b => lnX (bondX b)):=by
 unfold printX linesX
 rw [List.flatMap_cons,List.flatMap_append,List.flatMap_map,List.flatMap_map,List.append_assoc]
theorem pairs_len {b : Bt} (h : ∀ j,j < 8 → SmallI (valK j b)) : ∀ ks : List Nat,(∀ k ∈ ks,k < 8) → (ks.flatMap fun k => 32 :: pairX b k).length ≤ 44 * ks.length
 | [],_ => by simp
 | k :: ks,hks => by
  have hk:=hks k (by simp)
  have f1:=pairs_len h ks (fun j hj => hks j (by simp [hj]))
  have f2:=itoa_small (n:=(k : Int)) (by unfold SmallI;omega)
  have f3:=itoa_small (h k hk)
  have f4 : (pairX b k).length ≤ 43:=by unfold pairX;rw [List.length_append,List.length_cons];omega
  rw [List.flatMap_cons,List.length_append,List.length_cons,List.length_cons]
  omega
theorem row_len {gs : List Int} {rows : List Rw} {bs : List Bd} (h : TOk gs rows bs) {r : Rw} (hr : r ∈ rows) : (lnX (rowX r)).length ≤ 500:=by
 obtain ⟨h1,h2,h3⟩:=h.r r hr
 have e1:=nums_len (l:=[r.1.1,r.1.2]) (fun n hn => by simp at hn;rcases hn with rfl | rfl;exact smallI_in h1;exact smallI_in h2)
 have e2:=natKinds_len r.2.1.toNat 8
 have e4:=pairs_len (b:=r.2) (fun j hj => val_small h3 hj) (natKinds r.2.1.toNat 8) (fun k hk => natKinds_lt hk)
 unfold lnX rowX
 rw [List.length_append,List.length_append,List.length_append]
 simp only [wRow,List.length_cons,List.length_nil] at *
 omega
theorem rows_len {gs : List Int} {rows : List Rw} {bs : List Bd} (h : TOk gs rows bs) : ∀ {l : List Rw},(∀ r ∈ l,r ∈ rows) → (l.flatMap fun r => lnX (rowX r)).length ≤ 500 * l.length
 | [],_ => by simp
 | r :: l,hl => by
  have h1:=rows_len h (l:=l) (fun x hx => hl x (by simp [hx]))
  have h2:=row_len h (hl r (by simp))
  rw [List.flatMap_cons,List.length_append,List.length_cons];omega
theorem bond_len {gs : List Int} {rows : List Rw} {bs : List Bd} (h : TOk gs rows bs) {b : Bd} (hb : b ∈ bs) : (lnX (bondX b)).length ≤ 500:=by
 obtain ⟨h1,h2,h3,h4⟩:=h.b b hb
 have e1:=nums_len (l:=[b.1.1,b.1.2,b.2.1,b.2.2]) (fun n hn => by simp at hn;rcases hn with rfl | rfl | rfl | rfl;exact smallI_in h1;exact smallI_in h2;exact smallI_in h3;exact smallI_in h4)
 unfold lnX bondX
 rw [List.length_append,List.length_append]
 simp only [wBond,List.length_cons,List.length_nil] at *
 omega
theorem bonds_len {gs : List Int} {rows : List Rw} {bs : List Bd} (h : TOk gs rows bs) : ∀ {l : List Bd},(∀ r ∈ l,r ∈ bs) → (l.flatMap fun r => lnX (bondX r)).length ≤ 500 * l.length
 | [],_ => by simp
 | r :: l,hl => by
  have h1:=bonds_len h (l:=l) (fun x hx => hl x (by simp [hx]))
  have h2:=bond_len h (hl r (by simp))
  rw [List.flatMap_cons,List.length_append,List.length_cons];omega
set_option maxRecDepth 100000 in
set_option maxHeartbeats 8000000 in
theorem print_any {w : World} {A1 A2 A3 : Option Addr} {c1 c2 c3 : Nat} {gs : List Int} {rows : List Rw} {bs : List Bd} (hLv : LaidV w) (hg : gs.length ≤ 1200000000000000) (hr : rows.length ≤ 1200000000000000) (hbl : bs.length ≤ 1200000000000000)
  (hA1 : Lies w w.heap.size A1 (ints gs)) (hA2 : Lies w w.heap.size A2 (rows.flatMap rwC)) (hA3 : Lies w w.heap.size A3 (bs.flatMap bdC)) (hG : ∀ n ∈ gs,InR n) (hR : ∀ b ∈ bs,HdR b.1 ∧ HdR b.2) :
  Calls Tryz.prog 8 #[.agg #[.slice A1 gs.length c1,.slice A2 rows.length c2,.slice A3 bs.length c3]] w fun e w' => e = .returned (.tuple #[str (printS gs rows bs),.int .i64 (printE gs rows bs)]) ∧ Below w.heap.size w w':=by
 obtain ⟨w0,hw0,hb0,hz0,hs0⟩:=box1 w (.cells #[.slice A1 gs.length c1,.slice A2 rows.length c2,.slice A3 bs.length c3] 26)
 have hB1:=(hA1.below hb0).mono hb0.size;have hB2:=(hA2.below hb0).mono hb0.size;have hB3:=(hA3.below hb0).mono hb0.size
 have H1:=Lib.hid (zload_any (c1:=c1) (c2:=c2) (c3:=c3) (by omega) (by omega) (by omega) hB1 hB2 hB3 hR)
 obtain ⟨HP2,HP3⟩:=hid2 hB2 hB3
 have HLA:=Lib.hid (And.intro hLv (And.intro hA1 (And.intro hA2 hA3)))
 obtain ⟨o0,o1,o2,ol⟩:=cells3 hz0
 obtain ⟨Hb0,Hz0,HG⟩:=hid3 hb0 hz0 hG
 clear hb0 hz0 hG
 clear hA1 hA2 hA3 hB1 hB2 hB3 hR hs0 hLv
 go_enter Tryz.func8,Tryz.ntmps8
 go_wp2_with fail
 clear hw0 o0 o1 o2 ol
 refine H1.out.mono ?_
 rintro e w1 ⟨hb1,hcase⟩
 have hz1:=(Mod.ofBelow hb1).keep Hz0.out (by simp)
 have hb01:=Hb0.out.trans (hb1.mono Hb0.out.size)
 rcases hcase with ⟨hne,rfl⟩ | ⟨he0,z,p,f,F,rfl,-,-,-⟩
 ·have hne' : (zlE gs rows bs != 0) = true:=by simpa using hne
  have hpe:=printE_load hne
  have hps : printS gs rows bs = []:=by unfold printS;rw [hpe,if_neg hne]
  generalize zlE gs rows bs = ze at *
  obtain ⟨Hne,Hb01,Hpe,Hps,Hz1⟩:=hid5 hne hb01 hpe hps hz1
  clear hne hb01 hpe hps hz1
  clear H1 hb1
  go_wp2
  go_ret2
  exact ⟨by rw [Hps.out,Hpe.out];rfl,Hb01.out⟩
 ·have H2:=Lib.hid (ordRows_any (w:=w1) (c:=c2) (by omega) ((HP2.out.below hb1).mono hb1.size))
  have H3:=Lib.hid (fun V (hb : Below w1.heap.size w1 V) => ordBonds_any (w:=V) (c:=c3) (by omega) ((((HP3.out.below hb1).mono hb1.size).below hb).mono hb.size))
  have hpo:=printE_ord he0
  have Hps:=Lib.hid (show printS gs rows bs = if printE gs rows bs = 0 then printX gs rows bs else [] from rfl)
  have hlens : rows.length ≤ 60 ∧ gs.length ≤ 60:=by
   have hk:=wlok_of (zlE_zero he0).1
   exact ⟨hk.len,hk.i.len⟩
  obtain ⟨o0,o1,o2,ol⟩:=cells3 hz1
  obtain ⟨Hb01,Hb1,He0,Hz1⟩:=hid4 hb01 hb1 he0 hz1
  clear hb01 hb1 he0 hz1
  clear H1
  go_wp2_with fail
  clear o0 o1 o2
  refine H2.out.mono ?_
  rintro e w2 ⟨rfl,hb2⟩
  have hz2:=(Mod.ofBelow hb2).keep Hz1.out (by simp)
  have hb02:=Hb01.out.trans (hb2.mono Hb01.out.size)
  cases ho1 : ordB (rows.map (·.1)) with
  | false =>
   have hpe : printE gs rows bs = 4:=by rw [hpo,ho1];simp
   have hps : printS gs rows bs = []:=by rw [Hps.out,hpe];rfl
   obtain ⟨Hpe,HPS,Hb02⟩:=hid3 hpe hps hb02
   clear hpe hps hb02
   clear hpo ho1 hz2
   go_wp2
   go_ret2
   exact ⟨by rw [HPS.out,Hpe.out];rfl,Hb02.out⟩
  | true =>
   rw [ho1] at hpo
   obtain ⟨o0,o1,o2,ol⟩:=cells3 hz2
   have H4:=Lib.hid (H3.out _ hb2)
   obtain ⟨Hpo,Hb02,Hz2⟩:=hid3 hpo hb02 hz2
   clear hpo hb02 hz2
   clear H2 hb2 ho1
   go_wp2_with fail
   clear o0 o1 o2
   refine H4.out.mono ?_
   rintro e w3 ⟨rfl,hb3⟩
   have hz3:=(Mod.ofBelow hb3).keep Hz2.out (by simp)
   have hb03:=Hb02.out.trans (hb3.mono Hb02.out.size)
   cases ho2 : ordB (bs.map (·.1)) with
   | false =>
    have hpe : printE gs rows bs = 4:=by rw [Hpo.out,ho2];simp
    have hps : printS gs rows bs = []:=by rw [Hps.out,hpe];rfl
    obtain ⟨Hpe,HPS,Hb03⟩:=hid3 hpe hps hb03
    clear hpe hps hb03
    clear ho2 hz3
    go_wp2
    go_ret2
    exact ⟨by rw [HPS.out,Hpe.out];rfl,Hb03.out⟩
   | true =>
    have hpe : printE gs rows bs = 0:=by rw [Hpo.out,ho2];simp
    have hps : printS gs rows bs = printX gs rows bs:=by rw [Hps.out,hpe];rfl
    have htok:=tok_of hpe
    have hb60:=bonds_60 hpe
    have HP0:=Lib.hid (And.intro hpe hps)
    obtain ⟨w4,hw4,hb4,hz4,hs4⟩:=box1 w3 (.cells #[.pointer none,.slice none 0 0] 74)
    have hbld : IsB w3.heap.size w3.heap.size [] w4:=by rw [← hw4];exact Lib.IsBuilderF.of (Lib.fresh_isBuilder _ _ w3)
    have hb04:=hb03.trans (hb4.mono hb03.size)
    have hA4:=(HLA.out.2.1.below hb04).mono hb04.size
    have H5:=Lib.hid (line_any (w:=w4) (c:=c1) wGens (HLA.out.1.below hb04) (by show 4 + _ ≤ _;omega) hA4 HG.out)
    have hz4':=(Mod.ofBelow hb4).keep hz3 (by simp)
    obtain ⟨o0,o1,o2,ol⟩:=cells3 hz4'
    have hlg:=gens_len htok hlens.2
    obtain ⟨Hbld,Hb04,Hb03,Hz3,Htok⟩:=hid5 hbld hb04 hb03 hz3 htok
    clear hbld hb04 hb03 hz3 htok
    clear ho2 hpe hps hA4 hz4 hs4 hz4'
    go_wp2_with fail
    clear hw4 o0 o1 o2
    refine H5.out.mono ?_
    rintro e w5 ⟨rfl,hb5⟩
    have hbl5:=Hbld.out.below hb5
    have hb05:=Hb04.out.trans (hb5.mono Hb04.out.size)
    have hw35:=hb4.trans (hb5.mono hb4.size)
    have hgx : wGens ++ nums gs = gensX gs:=rfl
    rw [hgx]
    have hno : ¬ 9223372036854775807 < (gensX gs).length + 1:=by omega
    have H6:=Lib.hid (write_any (s:=gensX gs ++ [10]) hbl5 (by simp;omega) hw35.size)
    unfold str
    obtain ⟨Hb05,Hw35,Hbl5⟩:=hid3 hb05 hw35 hbl5
    clear hb05 hw35 hbl5
    clear hb4 hb5 hgx H5
    go_wp2_with fail
    refine H6.out.mono ?_
    rintro e w6 ⟨⟨v6,rfl⟩,hbl6,hb6,-⟩
    rw [List.nil_append] at hbl6
    have hw36:=Hw35.out.trans hb6
    have hz6:=(Mod.ofBelow hw36).keep Hz3.out (by simp)
    obtain ⟨o0,o1,o2,ol⟩:=cells3 hz6
    obtain ⟨Hbl6,Hw36,Hz6⟩:=hid3 hbl6 hw36 hz6
    clear hbl6 hw36 hz6
    clear hb6 H6
    go_wp2_with fail
    go_loopw [39] (fun i wr => ∃ k : Nat,k ≤ rows.length ∧ i = .int .i64 k ∧ IsB w3.heap.size w3.heap.size (lnX (gensX gs) ++ (rows.take k).flatMap (fun r => lnX (rowX r))) wr ∧ Below w3.heap.size w3 wr) (fun i _ => rows.length - (Go.RowKit.intOf i).toNat)
    case atStart => exact ⟨0,by omega,rfl,by simpa [lnX] using Hbl6.out,Hw36.out⟩
    case round =>
     obtain ⟨k,hk,rfl,hbl,hbw⟩:=hrel
     clear o0 o1 o2
     have hsz:=hbw.size
     have hb0r:=Hb03.out.trans (hbw.mono Hb03.out.size)
     have hrl:=rows_len Htok.out (l:=rows.take k) (fun r hr => List.mem_of_mem_take hr)
     rw [List.length_take] at hrl
     have hal : (lnX (gensX gs) ++ (rows.take k).flatMap (fun r => lnX (rowX r))).length ≤ 50000:=by
      rw [List.length_append];unfold lnX at *;rw [List.length_append];simp only [List.length_cons,List.length_nil];omega
     by_cases hlt : k < rows.length
     ·obtain ⟨ab,ao,rfl,hab,hc⟩:=(HLA.out.2.2.1.below hb0r).rec_at rwC_len (by omega) hlt
      have hc1 : ∀ j u,(rwC rows[k])[j]? = some u → wr.cell? ((⟨ab,ao + k * 11,none⟩ : Addr).add j) = some u:=fun j u hu => by
       have:=hc j u hu
       rw [Addr.add_mid];exact this
      have htr:=Htok.out.r _ (List.getElem_mem hlt)
      have hrx:=row_len Htok.out (List.getElem_mem hlt)
      have hts : (rows.take (k + 1)).flatMap (fun r => lnX (rowX r)) = (rows.take k).flatMap (fun r => lnX (rowX r)) ++ lnX (rowX rows[k]):=by rw [take_succ_get rows k hlt,List.flatMap_append];simp
      have hki : (k : Int) < (rows.length : Int):=by omega
      generalize rows[k] = x at *
      obtain ⟨⟨s,g⟩,K,a0,a1,a2,a3,a4,a5,a6,a7⟩:=x
      generalize hacc : lnX (gensX gs) ++ (rows.take k).flatMap (fun r => lnX (rowX r)) = acc at *
      have Hacc:=Lib.hid hacc
      clear hacc
      have Hblt:=Lib.hid hbl.lt
      obtain ⟨kn,hkn,hK,hvs⟩:=(beastZ_iff _).1 htr.2.2
      simp only at hK
      subst hK
      have hval : ∀ j,j < 8 → SmallI (valK j ((kn : Int),a0,a1,a2,a3,a4,a5,a6,a7)):=fun j hj => val_small (r:=((s,g),((kn : Int),a0,a1,a2,a3,a4,a5,a6,a7))) htr.2.2 hj
      obtain ⟨wb,hwb,hbb,hzb,hsb⟩:=box1 wr (.cells #[.int .i64 s,.int .i64 g,.int .i64 (kn : Int),.int .i64 a0,.int .i64 a1,.int .i64 a2,.int .i64 a3,.int .i64 a4,.int .i64 a5,.int .i64 a6,.int .i64 a7] 51)
      obtain ⟨wc,hwc,hbc,hzc,hsc⟩:=box1 wb (.cells #[.int .i64 s,.int .i64 g] 3)
      have hw3c:=(hbw.trans (hbb.mono hsz)).trans (hbc.mono (Nat.le_trans hsz hbb.size))
      have hb0c:=Hb03.out.trans (hw3c.mono Hb03.out.size)
      have hsg : ∀ n ∈ [s,g],InR n:=fun n hn => by
       simp only [List.mem_cons,List.not_mem_nil,or_false] at hn
       rcases hn with rfl | rfl
       ·exact smallI_in htr.1
       ·exact smallI_in htr.2.1
      have H7:=Lib.hid (line_any (w:=wc) (A:=some ⟨wb.heap.size,0,none⟩) (c:=2) (l:=[s,g]) wRow (HLA.out.1.below hb0c) (by show 3 + 22 * 2 ≤ _;omega) (new_ints hzc) hsg)
      have hblc:=(hbl.below hbb).below hbc
      have hzbc:=(Mod.ofBelow hbc).keep hzb (by simp)
      have hn7:=nums_len hsg
      simp only [List.length_cons,List.length_nil] at hn7
      obtain ⟨x0,x1,x2,x3,x4,x5,x6,x7,x8,x9,x10,xl⟩:=cells11 hzb
      have Hc1:=Lib.hid hc1;have Hwb:=Lib.hid hwb;have Hwc:=Lib.hid hwc;have Hsb:=Lib.hid hsb;have Hsc:=Lib.hid hsc;have Hblc:=Lib.hid hblc;have Hw3c:=Lib.hid hw3c;have Htr:=Lib.hid htr;have Hval:=Lib.hid hval;have Hts:=Lib.hid hts;have Hrx:=Lib.hid hrx;have Hvs:=Lib.hid hvs;have Hzbc:=Lib.hid hzbc;have Hkn:=Lib.hid hkn;have Hsg:=Lib.hid hsg;have HAB:=Lib.hid hab;have HAL:=Lib.hid hal
      clear hc1 hwb hwc hsb hsc hblc hw3c htr hval hts hrx hvs hzbc hkn hsg hab hal
      clear hc hbl hbw hb0r hbb hbc hzb hzc hb0c
      go_wp2_with (first | (refine wpList_load_flat rfl 51 (.tmp 41) rfl _ rfl (rwC ((s,g),((kn : Int),a0,a1,a2,a3,a4,a5,a6,a7))) _ Tryz.underlying51 rfl (sz_Row _) Hc1.out ?_) | (refine wpList_store_new rfl 51 (.tmp 8) (.tmp 42) rfl wr (ints [0,0,0,0,0,0,0,0,0,0,0]) (rwC ((s,g),((kn : Int),a0,a1,a2,a3,a4,a5,a6,a7))) 51 rfl rfl rfl (sz_Row _) (rwC_one _) ?_;rw [show (rwC ((s,g),((kn : Int),a0,a1,a2,a3,a4,a5,a6,a7))).toArray = #[.int .i64 s,.int .i64 g,.int .i64 (kn : Int),.int .i64 a0,.int .i64 a1,.int .i64 a2,.int .i64 a3,.int .i64 a4,.int .i64 a5,.int .i64 a6,.int .i64 a7] from rfl,Hwb.out]) | fail)
      rw [Hwc.out]
      refine H7.out.mono ?_
      rintro e wd ⟨rfl,hbd⟩
      have hbld:=Hblc.out.below hbd
      have hw3d:=Hw3c.out.trans (hbd.mono Hw3c.out.size)
      have hzbd:=(Mod.ofBelow hbd).keep Hzbc.out (by simp)
      have H8:=Lib.hid (write_any (s:=wRow ++ nums [s,g]) hbld (by have:=HAL.out;rw [List.length_append];show _ + (3 + _) ≤ _;omega) hw3d.size)
      unfold str
      obtain ⟨Hw3d,Hzbd⟩:=hid2 hw3d hzbd
      clear hw3d hzbd
      clear hbld hbd H7
      go_wp2_with fail
      refine H8.out.mono ?_
      rintro e we ⟨⟨v8,rfl⟩,hble,hbe,hoe⟩
      have hw3e:=Hw3d.out.trans hbe
      have hzbe:=hoe _ _ Hzbd.out (fun e2 => by have:=Hblt.out;have:=Option.some.inj e2;omega) (by intro c fz e2;cases e2)
      obtain ⟨y0,y1,y2,y3,y4,y5,y6,y7,y8,y9,y10,yl⟩:=cells11 hzbe
      have H9:=Lib.hid (listKn_any kn Hkn.out we)
      obtain ⟨Hble,Hw3e,Hzbe⟩:=hid3 hble hw3e hzbe
      clear hble hw3e hzbe
      clear hbe hoe H8 Hzbd x0 x1 x2 x3 x4 x5 x6 x7 x8 x9 x10 xl
      go_wp2_with fail
      refine H9.out.mono ?_
      rintro e wf ⟨vk,rfl,hvk,hbf⟩
      obtain ⟨Ak,ck,rfl,hck,hLk⟩:=row_lies hvk
      have hnk:=natKinds_len kn 8
      have hklt : ∀ k ∈ natKinds kn 8,k < 8:=fun k hk => natKinds_lt hk
      have hrx2 : rowX ((s,g),((kn : Int),a0,a1,a2,a3,a4,a5,a6,a7)) = (wRow ++ nums [s,g]) ++ (natKinds kn 8).flatMap (fun k => 32 :: pairX ((kn : Int),a0,a1,a2,a3,a4,a5,a6,a7) k):=rfl
      rw [List.length_map] at hvk hck
      simp only [List.length_map]
      have hw3f:=Hw3e.out.trans (hbf.mono Hw3e.out.size)
      have hb0f:=Hb03.out.trans (hw3f.mono Hb03.out.size)
      have hblf:=Hble.out.below hbf
      have hzbf:=(Mod.ofBelow hbf).keep Hzbe.out (by simp)
      have hbe0 : w3.heap.size < we.heap.size:=Hble.out.lt
      have hvk:=row_base hvk (B':=w3.heap.size + 1) (fun g hg => by have:=own_ge hvk g hg;omega)
      generalize natKinds kn 8 = ks at *
      generalize hb8 : wr.heap.size = b8 at *
      obtain ⟨Hw3f,Hblf,Hzbf,Hvk,Hnk,Hklt,Hrx2,Hb0f⟩:=hid8 hw3f hblf hzbf hvk hnk hklt hrx2 hb0f
      clear hw3f hblf hzbf hvk hnk hklt hrx2 hb0f
      clear hb8 y0 y1 y2 y3 y4 y5 y6 y7 y8 y9 y10 yl hLk hbf Hble Hw3e Hzbe
      go_wp2_with fail
      go_loopw [57] (fun i V => ∃ j : Nat,j ≤ ks.length ∧ i = .int .i64 j ∧ IsB w3.heap.size w3.heap.size ((acc ++ (wRow ++ nums [s,g])) ++ (ks.take j).flatMap (fun k => 32 :: pairX ((kn : Int),a0,a1,a2,a3,a4,a5,a6,a7) k)) V ∧ Below w3.heap.size w3 V ∧ V.heap[b8]? = some (.cells #[.int .i64 s,.int .i64 g,.int .i64 (kn : Int),.int .i64 a0,.int .i64 a1,.int .i64 a2,.int .i64 a3,.int .i64 a4,.int .i64 a5,.int .i64 a6,.int .i64 a7] 51 (0,0)) ∧ V.ownsRow (w3.heap.size + 1) 3 1 (.slice Ak ks.length ck) ks.length (ints (ks.map fun (k : Nat) => (k : Int)))) (fun i _ => ks.length - (Go.RowKit.intOf i).toNat)
      case atStart => exact ⟨0,by omega,rfl,by simpa using Hblf.out,Hw3f.out,Hzbf.out,Hvk.out⟩
      case round =>
       obtain ⟨j,hj,rfl,hblj,hbwj,hzj,hvj⟩:=hrel
       have hb0r:=Hb03.out.trans (hbwj.mono Hb03.out.size)
       by_cases hlt2 : j < ks.length
       ·obtain ⟨Ak',ck',e1,-,hLj⟩:=row_lies hvj
        simp only [Value.slice.injEq] at e1
        obtain ⟨rfl,-,rfl⟩:=e1
        obtain ⟨ak,rfl,hak,hkc⟩:=hLj.int (k:=j) (by rw [List.length_map];exact hlt2)
        rw [List.getElem_map] at hkc
        have hk8:=Hklt.out _ (List.getElem_mem hlt2)
        have hts2 : (ks.take (j + 1)).flatMap (fun k => 32 :: pairX ((kn : Int),a0,a1,a2,a3,a4,a5,a6,a7) k) = (ks.take j).flatMap (fun k => 32 :: pairX ((kn : Int),a0,a1,a2,a3,a4,a5,a6,a7) k) ++ 32 :: pairX ((kn : Int),a0,a1,a2,a3,a4,a5,a6,a7) ks[j]:=by rw [take_succ_get ks j hlt2,List.flatMap_append];simp
        have hjl : ((ks.take j).flatMap (fun k => 32 :: pairX ((kn : Int),a0,a1,a2,a3,a4,a5,a6,a7) k)).length ≤ 44 * j:=by
         have h0:=pairs_len Hval.out (ks.take j) (fun k hk => Hklt.out k (List.mem_of_mem_take hk))
         rw [List.length_take] at h0;omega
        generalize ks[j] = kk at *
        have hvs:=Hval.out kk hk8
        have hcell : ∀ V,Below wr.heap.size wr V → V.cell? ⟨b8,3 + kk,none⟩ = some (.int .i64 (valK kk ((kn : Int),a0,a1,a2,a3,a4,a5,a6,a7))):=fun V hV => by
         have h1:=(Mod.ofBelow hV).keep hzj (by simp)
         rw [blk_cell h1 (3 + kk)]
         show (rwC ((s,g),((kn : Int),a0,a1,a2,a3,a4,a5,a6,a7))).toArray[3 + kk]? = _
         rw [List.getElem?_toArray]
         exact valK_lt kk hk8 ((s,g),((kn : Int),a0,a1,a2,a3,a4,a5,a6,a7))
        have hpx : 32 :: pairX ((kn : Int),a0,a1,a2,a3,a4,a5,a6,a7) kk = 32 :: (Lib.itoa (kk : Int) ++ 61 :: Lib.itoa (valK kk ((kn : Int),a0,a1,a2,a3,a4,a5,a6,a7))):=rfl
        have HIt:=Lib.hid (fun V (hV : Below wr.heap.size wr V) => itoa_any (n:=valK kk ((kn : Int),a0,a1,a2,a3,a4,a5,a6,a7)) (w:=V) (by have:=smallI_in hvs;exact this.1) (by have:=smallI_in hvs;exact this.2) (HLA.out.1.below (hb0r.trans (hV.mono hb0r.size))) |>.mono fun e w' h => (show e = .returned (.string ⟨(Lib.itoa (valK kk ((kn : Int),a0,a1,a2,a3,a4,a5,a6,a7))).toArray⟩) ∧ Below V.heap.size V w' from h))
        have HLn:=Lib.hid (fun V nb (hV : Below wr.heap.size wr V) (hnb : V.heap[nb]? = some (.cells #[.int .i64 (kk : Int)] 3 (0,0))) => line_any (w:=V) (A:=some ⟨nb,0,none⟩) (c:=1) (l:=[(kk : Int)]) [] (HLA.out.1.below (hb0r.trans (hV.mono hb0r.size))) (by simp) (new_ints hnb) (by intro n hn;simp at hn;subst hn;unfold InR;omega) |>.mono fun e w' h => (show e = .returned (.string ⟨(32 :: Lib.itoa (kk : Int)).toArray⟩) ∧ Below V.heap.size V w' from ⟨h.1.trans (by unfold str nums;simp),h.2⟩))
        have hil:=itoa_small (n:=(kk : Int)) (by unfold SmallI;omega)
        have hvl:=itoa_small hvs
        generalize valK kk ((kn : Int),a0,a1,a2,a3,a4,a5,a6,a7) = vv at *
        have hno3 : ¬ 9223372036854775807 < (Lib.itoa (kk : Int)).length + 1 + 1:=by omega
        have hno4 : ¬ 9223372036854775807 < (Lib.itoa (kk : Int)).length + 1 + 1 + (Lib.itoa vv).length:=by omega
        have hno5 : ¬ 9223372036854775807 < (Lib.itoa (kk : Int)).length + (1 + (Lib.itoa vv).length) + 1:=by omega
        have hki2 : (j : Int) < (ks.length : Int):=by omega
        have hki3 : (kk : Int) < 8:=by omega
        obtain ⟨Hblj,Hbwj,Hzj,Hvj,Hvs,Hts2,Hcell,Hpx,Hb0r,Hil,Hvl,Hjl⟩:=hid12 hblj hbwj hzj hvj hvs hts2 hcell hpx hb0r hil hvl hjl
        clear hblj hbwj hzj hvj hvs hts2 hcell hpx hb0r hil hvl hjl
        clear hLj
        go_wp2_with fail
        refine wp_planK [1] 11 [0,4] [some 61,some 62,some 63,some 64,some 65,some 66,some 67,some 68,some 69,some 70,some 71,some 72] [[],[0],[0,1],[0,1,2],[],[],[5],[4,5,6],[4,5,6,7],[0,1,2,4,5,6,7,8],[0,1,2,3,4,5,6,7,8,9],[0,1,2,3,4,5,6,7,8,9,10]] [0,1,2,3,4,5,6,7,8,9,10] (fun Lf σ V => IBt wr (kk : Int) Lf σ V) mixed rfl (by kernel_rfl) (by decide) (by decide) (by decide) (IBt.start below_drew) rfl ?_
        iterate 11 apply Exists.intro
        refine ⟨rfl,?_,?_⟩
        ·simp only [tS,List.take_zero,AllFrom.cons_eq,AllFrom.nil_eq,OpGoalK]
         refine ⟨?_,?_,?_,?_,?_,?_,?_,?_,?_,?_,?_,trivial⟩
         all_goals (intro L' σ V h1 h2 h3 hI hp;have HA1:=Lib.hid h1;have HA2:=Lib.hid h2;have HA3:=Lib.hid h3;clear h1 h2 h3;(try simp only [gZ,gS,preK_cons,preK_nil] at hp);(try simp only [List.mem_cons,List.not_mem_nil,or_false,eq_self,Nat.reduceEqDiff,Nat.reduceAdd,Nat.zero_add,false_or,true_or,true_and,and_true] at hp);(first | (have hq : True:=hp;clear hq hp) | skip);have HI:=Lib.hid hI;clear hI)
         all_goals (have hcv:=Hcell.out V HI.out.b)
         ·(go_simp;exact ⟨.inr rfl,HI.out.read (by decide) _⟩)
         ·go_simp
          exact PostK.mk (c:=undef) (.inl (by decide)) HI.out.made
         ·have hr:=HI.out.r (HA2.out 1 (by decide))
          have h1:=Classical.choose_spec hr
          generalize Classical.choose hr = nb at *
          have HS:=Lib.hid (HLn.out V nb HI.out.b h1.2)
          have s2:=h1.1
          clear h1 hr
          go_simp
          try simp only [s2]
          try go_simp
          refine HS.out.mono ?_
          rintro e V' ⟨rfl,hb⟩
          exact ⟨_,rfl,.inr rfl,HI.out.call (by decide) hb _⟩
         iterate 6 · (go_simp;exact ⟨.inr rfl,HI.out.read (by decide) _⟩)
         ·go_simp
          refine (HIt.out V HI.out.b).mono ?_
          rintro e V' ⟨rfl,hb⟩
          exact ⟨_,rfl,.inr rfl,HI.out.call (by decide) hb _⟩
         ·(go_simp;exact ⟨.inr rfl,HI.out.read (by decide) _⟩)
        ·intro L' σ Va h1 hI hp
         have hba:=hI.b
         clear h1 hI
         simp only [preK_cons,preK_nil,gZ,gS] at hp;simp only [List.mem_cons,List.not_mem_nil,or_false,eq_self,Nat.reduceEqDiff,false_or,true_or,true_and,and_true] at hp
         have hbla:=Hblj.out.below hba
         have hsz3:=Hbwj.out.size
         have H10:=Lib.hid (write_any (s:=32 :: (Lib.itoa (kk : Int) ++ 61 :: Lib.itoa vv)) hbla (by have:=HAL.out;have:=Hil.out;have:=Hvl.out;have:=Hjl.out;have:=Hnk.out;simp only [List.length_append,List.length_cons,List.length_nil,wRow];omega) (Nat.le_trans hsz3 hba.size))
         obtain ⟨Hba,Hbla⟩:=hid2 hba hbla
         clear hba hbla
         simp only [dS,List.drop_zero]
         go_simp
         clear hp
         go_wp2_with fail
         refine H10.out.mono ?_
         rintro e Vb ⟨⟨v9,rfl⟩,hblb,hbb,hob⟩
         have hw3b:=(Hbwj.out.trans (Hba.out.mono hsz3)).trans hbb
         have hzVb:=hob _ _ ((Mod.ofBelow Hba.out).keep Hzj.out (by simp)) (fun e2 => by have:=Hblt.out;have:=Option.some.inj e2;omega) (by intro c fz e2;cases e2)
         have hvb:=row_others hob (row_mod Hvj.out (Mod.ofBelow Hba.out) (by simp)) (by decide) (fun g hg e2 => by have:=own_ge Hvj.out g hg;have:=Option.some.inj e2;omega)
         obtain ⟨Hblb,Hw3b,HzVb,Hvb⟩:=hid4 hblb hw3b hzVb hvb
         clear hblb hw3b hzVb hvb
         clear hbb hob H10
         have hks8:=Hnk.out
         go_wp2
         refine ⟨rfl,?_⟩
         go_wp2
         go_roundw
         case rel => exact ⟨j + 1,by omega,by go_num,by rw [Hts2.out,Hpx.out,← List.append_assoc];exact Hblb.out,Hw3b.out,HzVb.out,Hvb.out⟩
         case measure => simp [Go.RowKit.intOf];omega
       ·obtain rfl : j = ks.length:=by omega
        rw [List.take_length,List.append_assoc,← Hrx2.out] at hblj
        have hrxl : (rowX ((s,g),((kn : Int),a0,a1,a2,a3,a4,a5,a6,a7))).length ≤ 500:=by have:=Hrx.out;unfold lnX at this;rw [List.length_append] at this;omega
        have H11:=Lib.hid (write_any (s:=[10]) hblj (by have:=HAL.out;rw [List.length_append];simp only [List.length_cons,List.length_nil];omega) hbwj.size)
        obtain ⟨Hblj,Hbwj,Hzj,Hvj,Hrxl,Hb0r⟩:=hid6 hblj hbwj hzj hvj hrxl hb0r
        clear hblj hbwj hzj hvj hrxl hb0r
        go_wp2_with fail
        refine H11.out.mono ?_
        rintro e Vc ⟨⟨v10,rfl⟩,hblc,hbc,-⟩
        have hw3c:=Hbwj.out.trans hbc
        obtain ⟨HBLC,HW3C⟩:=hid2 hblc hw3c
        clear hblc hw3c
        clear hbc H11
        go_wp2
        go_roundw
        case rel => exact ⟨k + 1,by omega,by go_num,by rw [Hts.out,← List.append_assoc,Hacc.out];have:=HBLC.out;rw [List.append_assoc] at this;exact this,HW3C.out⟩
        case measure => simp [Go.RowKit.intOf];omega
     ·obtain rfl : k = rows.length:=by omega
      rw [List.take_length] at hbl hal
      have hzr:=(Mod.ofBelow hbw).keep Hz3.out (by simp)
      obtain ⟨o0,o1,o2,ol⟩:=cells3 hzr
      generalize hacc : lnX (gensX gs) ++ rows.flatMap (fun r => lnX (rowX r)) = acc at *
      obtain ⟨Hbl,Hbw,Hal,Hzr,Hacc,Hb0r,Hrl⟩:=hid7 hbl hbw hal hzr hacc hb0r hrl
      clear hbl hbw hal hzr hacc hb0r hrl
      go_wp2_with fail
      go_loopw [79] (fun i V => ∃ j : Nat,j ≤ bs.length ∧ i = .int .i64 j ∧ IsB w3.heap.size w3.heap.size (acc ++ (bs.take j).flatMap (fun b => lnX (bondX b))) V ∧ Below w3.heap.size w3 V) (fun i _ => bs.length - (Go.RowKit.intOf i).toNat)
      case atStart => exact ⟨0,by omega,rfl,by simpa using Hbl.out,Hbw.out⟩
      case round =>
       obtain ⟨j,hj,rfl,hblj,hbwj⟩:=hrel
       clear o0 o1 o2 ol
       have hszj:=hbwj.size
       have hb0j:=Hb03.out.trans (hbwj.mono Hb03.out.size)
       have hjl:=bonds_len Htok.out (l:=bs.take j) (fun r hr => List.mem_of_mem_take hr)
       rw [List.length_take] at hjl
       by_cases hlt2 : j < bs.length
       ·obtain ⟨ab,ao,rfl,hab,hc⟩:=(HLA.out.2.2.2.below hb0j).rec_at bdC_len (by omega) hlt2
        have hc1 : ∀ i u,(bdC bs[j])[i]? = some u → wr.cell? ((⟨ab,ao + j * 4,none⟩ : Addr).add i) = some u:=fun i u hu => by
         have:=hc i u hu
         rw [Addr.add_mid];exact this
        have htb:=Htok.out.b _ (List.getElem_mem hlt2)
        have hbx:=bond_len Htok.out (List.getElem_mem hlt2)
        have hts : (bs.take (j + 1)).flatMap (fun b => lnX (bondX b)) = (bs.take j).flatMap (fun b => lnX (bondX b)) ++ lnX (bondX bs[j]):=by rw [take_succ_get bs j hlt2,List.flatMap_append];simp
        have hki : (j : Int) < (bs.length : Int):=by omega
        generalize bs[j] = x at *
        obtain ⟨⟨s,g⟩,⟨t,u⟩⟩:=x
        obtain ⟨wb,hwb,hbb,hzb,hsb⟩:=box1 wr (.cells #[.int .i64 s,.int .i64 g,.int .i64 t,.int .i64 u] 55)
        obtain ⟨wc,hwc,hbc,hzc,hsc⟩:=box1 wb (.cells #[.int .i64 s,.int .i64 g,.int .i64 t,.int .i64 u] 3)
        have hw3c:=(hbwj.trans (hbb.mono hszj)).trans (hbc.mono (Nat.le_trans hszj hbb.size))
        have hb0c:=Hb03.out.trans (hw3c.mono Hb03.out.size)
        have hsg : ∀ n ∈ [s,g,t,u],InR n:=fun n hn => by
         simp only [List.mem_cons,List.not_mem_nil,or_false] at hn
         rcases hn with rfl | rfl | rfl | rfl
         ·exact smallI_in htb.1
         ·exact smallI_in htb.2.1
         ·exact smallI_in htb.2.2.1
         ·exact smallI_in htb.2.2.2
        have H7:=Lib.hid (line_any (w:=wc) (A:=some ⟨wb.heap.size,0,none⟩) (c:=4) (l:=[s,g,t,u]) wBond (HLA.out.1.below hb0c) (by show 4 + 22 * 4 ≤ _;omega) (new_ints hzc) hsg)
        have hblc:=(hblj.below hbb).below hbc
        have hn7:=nums_len hsg
        simp only [List.length_cons,List.length_nil] at hn7
        have hbx2 : bondX ((s,g),(t,u)) = wBond ++ nums [s,g,t,u]:=rfl
        have hbxl : (bondX ((s,g),(t,u))).length ≤ 500:=by have:=hbx;unfold lnX at this;rw [List.length_append] at this;omega
        have hno6 : ¬ 9223372036854775807 < (bondX ((s,g),(t,u))).length + 1:=by omega
        obtain ⟨x0,x1,x2,x3,xl⟩:=cells4 hzb
        obtain ⟨Hc1,Hwb,Hwc,Hsb,Hsc,Hblc,Hw3c,Htb,Hts,Hbx,Hbx2,Hsg,HAB,Hjl,Hbxl⟩:=hid15 hc1 hwb hwc hsb hsc hblc hw3c htb hts hbx hbx2 hsg hab hjl hbxl
        clear hc1 hwb hwc hsb hsc hblc hw3c htb hts hbx hbx2 hsg hab hjl hbxl
        clear hc hblj hbwj hb0j hbb hbc hzb hzc hb0c
        go_wp2_with (first | (refine wpList_load_flat rfl 55 (.tmp 81) rfl _ rfl (bdC ((s,g),(t,u))) _ Tryz.underlying55 rfl (sz_Bond _) Hc1.out ?_) | (refine wpList_store_new rfl 55 (.tmp 12) (.tmp 82) rfl wr (ints [0,0,0,0]) (bdC ((s,g),(t,u))) 55 rfl rfl rfl (sz_Bond _) (bdC_one _) ?_;rw [show (bdC ((s,g),(t,u))).toArray = #[.int .i64 s,.int .i64 g,.int .i64 t,.int .i64 u] from rfl,Hwb.out]) | fail)
        rw [Hwc.out]
        refine H7.out.mono ?_
        rintro e wd ⟨rfl,hbd⟩
        rw [← Hbx2.out]
        have hbld:=Hblc.out.below hbd
        have hw3d:=Hw3c.out.trans (hbd.mono Hw3c.out.size)
        have H8:=Lib.hid (write_any (s:=bondX ((s,g),(t,u)) ++ [10]) hbld (by have:=Hal.out;have:=Hjl.out;have:=Hbxl.out;simp only [List.length_append,List.length_cons,List.length_nil];omega) hw3d.size)
        unfold str
        have Hw3d:=Lib.hid hw3d
        clear hw3d
        clear hbld hbd H7
        go_wp2_with fail
        refine H8.out.mono ?_
        rintro e we ⟨⟨v8,rfl⟩,hble,hbe,-⟩
        have hw3e:=Hw3d.out.trans hbe
        obtain ⟨Hble,Hw3e⟩:=hid2 hble hw3e
        clear hble hw3e
        clear hbe H8 x0 x1 x2 x3 xl
        go_wp2
        go_roundw
        case rel => exact ⟨j + 1,by omega,by go_num,by rw [Hts.out,← List.append_assoc];exact Hble.out,Hw3e.out⟩
        case measure => simp [Go.RowKit.intOf];omega
       ·obtain rfl : j = bs.length:=by omega
        rw [List.take_length] at hblj
        have H9:=Lib.hid (bstring_any hblj hszj)
        obtain ⟨Hblj,Hbwj,Hb0j⟩:=hid3 hblj hbwj hb0j
        clear hblj hbwj hb0j
        go_wp2_with fail
        refine H9.out.mono ?_
        rintro e wz ⟨rfl,hbz⟩
        have hbf:=Hb03.out.trans ((Hbwj.out.trans hbz).mono Hb03.out.size)
        have Hbf:=Lib.hid hbf
        clear hbf
        clear hbz
        go_wp2
        go_ret2
        exact ⟨by rw [HP0.out.1,HP0.out.2,printX_cat,Hacc.out];rfl,Hbf.out⟩
end Go.Proofs.YtoheblfpjinmnaaGreatDoor
