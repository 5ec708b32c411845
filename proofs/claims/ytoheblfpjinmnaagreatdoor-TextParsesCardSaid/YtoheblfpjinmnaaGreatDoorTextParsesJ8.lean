import Derived.Test.YtoheblfpjinmnaaGreatDoorTextParsesJ7
import Derived.Lib.ItoaLen
import Derived.Laws.Concat
import Derived.ChangeKeysEq
import Derived.Deep.QuietTactic
import Derived.BigQuiet
set_option linter.unusedVariables false
set_option linter.unusedSimpArgs false
/- A part of the proof that TextParses returns true. -/
namespace Go.Proofs.YtoheblfpjinmnaaGreatDoor
open Go Go.RowKit
attribute [local go_sem] ByteArray.mk_append_mk
theorem nums_snoc (l : List Int) (n : Int) : nums (l ++ [n]) = nums l ++ 32 :: Lib.itoa n:=by simp [nums]
theorem nums_take (l : List Int) (k : Nat) (h : k < l.length) : nums (l.take (k + 1)) = nums (l.take k) ++ 32 :: Lib.itoa l[k]:=by
 rw [take_succ_get l k h,nums_snoc]
theorem nums_len : ∀ {l : List Int},(∀ n ∈ l,InR n) → (nums l).length ≤ 22 * l.length
 | [],_ => by simp [nums]
 | n :: l,h => by
  have h1:=nums_len (l:=l) (fun m hm => h m (by simp [hm]))
  have hn:=h n (by simp)
  have h2:=Lib.itoa_length_le n hn.1 hn.2
  unfold nums at *
  rw [List.flatMap_cons,List.length_append,List.length_cons,List.length_cons]
  omega
set_option maxRecDepth 20000 in
theorem line_any {w : World} {A : Option Addr} {c : Nat} {l : List Int} (s : Bs) (hL : LaidV w) (hl : s.length + 22 * l.length ≤ 9223372036854775807) (hA : Lies w w.heap.size A (ints l)) (hin : ∀ n ∈ l,InR n) :
  Calls Tryz.prog 31 #[str s,.slice A l.length c] w fun e w' => e = .returned (str (s ++ nums l)) ∧ Below w.heap.size w w':=by
 obtain ⟨HL,HA,Hin⟩:=hid3 hL hA hin
 clear hL hA hin
 unfold str
 go_enter Tryz.func31,Tryz.ntmps31
 go_wp2
 go_loopw [0,6,9] (fun u x i wr => ∃ k : Nat,k ≤ l.length ∧ u = .string ⟨(s ++ nums (l.take k)).toArray⟩ ∧ i = .int .i64 k ∧ Below w.heap.size w wr) (fun u x i wr => l.length - (Go.RowKit.intOf i).toNat)
 case atStart => exact ⟨0,by omega,by simp [nums],rfl,Below.refl _ _⟩
 case round =>
  obtain ⟨k,hk,rfl,rfl,hB⟩:=hrel
  by_cases hlt : k < l.length
  ·obtain ⟨a,rfl,hal,hc⟩:=(HA.out.below hB).int hlt
   have hx:=Hin.out _ (List.getElem_mem hlt)
   have hs:=nums_take l k hlt
   generalize l[k] = x at *
   have H1:=Lib.hid (fun V (hb : Below w.heap.size w V) => itoa_any (w:=V) hx.1 hx.2 (HL.out.below hb))
   have hlen:=nums_len (l:=l.take k) (fun n hn => Hin.out n (List.mem_of_mem_take hn))
   rw [List.length_take] at hlen
   have hlx:=Lib.itoa_length_le x hx.1 hx.2
   have hno : ¬ 9223372036854775807 < s.length + (nums (l.take k)).length + ((Lib.itoa x).length + 1):=by omega
   have hno2 : ¬ 9223372036854775807 < 1 + (Lib.itoa x).length:=by omega
   obtain ⟨Hs,HB,Hx,Hlen,Hlx⟩:=hid5 hs hB hx hlen hlx
   clear hs hB hx hlen hlx
   go_wp2_with fail
   refine (H1.out _ HB.out).mono ?_
   rintro e w2 ⟨rfl,hb2⟩
   unfold str
   have hB2:=HB.out.trans (hb2.mono HB.out.size)
   have HB2:=Lib.hid hB2
   clear hB2
   clear hb2
   go_wp2
   go_roundw
   case rel => exact ⟨k + 1,by omega,by rw [Hs.out],by go_num,HB2.out⟩
   case measure => simp [Go.RowKit.intOf];omega
  ·obtain rfl : k = l.length:=by omega
   rw [List.take_length]
   have HB:=Lib.hid hB
   clear hB
   go_wp2
   go_ret
   exact ⟨rfl,HB.out⟩
theorem Lies.str_ {w : World} {B : Nat} {A : Option Addr} {ws : List Bs} (h : Lies w B A (ws.map str)) {k : Nat} (hk : k < ws.length) : ∃ a,A = some a ∧ a.block < B ∧ w.cell? (a.add k) = some (str ws[k]):=by
 obtain ⟨a,h1,h2,h3⟩:=h.at_ (k:=k) (by rw [List.length_map];exact hk)
 rw [List.getElem_map] at h3
 exact ⟨a,h1,h2,h3⟩
set_option maxRecDepth 20000 in
set_option maxHeartbeats 1000000 in
theorem numbers_any {w : World} {A : Option Addr} {c : Nat} {ws : List Bs} (hL : LaidV w) (hl : ws.length < 8796093022208) (hb : ∀ x ∈ ws,x.length ≤ 281474976710656) (hA : Lies w w.heap.size A (ws.map str)) :
  Calls Tryz.prog 24 #[.slice A ws.length c] w (MadeInts w.heap.size (ws.map num0) w):=by
 obtain ⟨HL,HA,Hb⟩:=hid3 hL hA hb
 clear hL hA hb
 go_enter Tryz.func24,Tryz.ntmps24
 go_wp2
 go_loopw [3,5,6,7,10] (fun v x n e i wr => ∃ k : Nat,k ≤ ws.length ∧ i = .int .i64 k ∧ wr.ownsRow w.heap.size 3 1 v k (ints ((ws.take k).map num0)) ∧ Below w.heap.size w wr) (fun v x n e i wr => ws.length - (Go.RowKit.intOf i).toNat)
 case atStart => exact ⟨0,by omega,rfl,⟨rfl,.inl ⟨rfl,rfl⟩⟩,Below.refl _ _⟩
 case round =>
  obtain ⟨k,hk,rfl,hown,hB⟩:=hrel
  by_cases hlt : k < ws.length
  ·obtain ⟨a,rfl,hal,hc⟩:=(HA.out.below hB).str_ hlt
   have hx:=Hb.out _ (List.getElem_mem hlt)
   have hs:=take_succ_get ws k hlt
   have hlk : ((ws.take k).map num0).length = k:=by rw [List.length_map,List.length_take];omega
   generalize ws[k] = x at *
   have H1:=Lib.hid (fun V (hb : Below w.heap.size w V) => atoi_any x (w:=V) (HL.out.below hb) hx)
   obtain ⟨Hs,HB,Hx,Hown,Hlk⟩:=hid5 hs hB hx hown hlk
   clear hs hB hx hown hlk
   go_wp2_with fail
   refine (H1.out _ HB.out).mono ?_
   rintro e w2 ⟨u,rfl,hu,hb2⟩
   have hB2:=HB.out.trans (hb2.mono HB.out.size)
   have hown2:=row_mod Hown.out (Mod.ofBelow hb2) (by simp)
   generalize hy : num0 x = y at *
   have Hy:=Lib.hid hy
   clear hy
   have hsz:=hB2.size
   have HB2:=Lib.hid hB2
   clear hB2
   clear hb2 H1
   go_wp2_with (at_builtin;refine app_int rfl _ _ rfl w.heap.size _ ((ws.take k).map num0) y ⟨w2.heap.size,0,none⟩ 1 rfl (by rw [Hlk.out];exact hown2.alloc _) rfl (by simp) (by rw [Hlk.out];omega) (by simp;omega) ?_;intro v' w1 hown3 hb1)
   go_roundw
   case rel => exact ⟨k + 1,by omega,by go_num,by rw [Hs.out,List.map_append,List.map_cons,List.map_nil,Hy.out];rw [List.length_append,Hlk.out] at hown3;exact hown3,(HB2.out.alloc hsz _).trans hb1⟩
   case measure => simp [Go.RowKit.intOf];omega
  ·obtain rfl : k = ws.length:=by omega
   rw [List.take_length] at hown
   obtain ⟨HB,Hown⟩:=hid2 hB hown
   clear hB hown
   go_wp2
   go_ret
   exact ⟨_,rfl,by rw [List.length_map];exact Hown.out,HB.out⟩
end Go.Proofs.YtoheblfpjinmnaaGreatDoor
namespace Go.Proofs.YtoheblfpjinmnaaGreatDoor
open Go Go.RowKit
section
variable {P : Program}
def piece (P : Program) (t : TypeId) (cs : List Value) (off : Nat) : List Value:=(cs.drop off).take (P.cellsOf t)
def IE (P : Program) (d : Nat) (t : TypeId) (G : List Value → Prop) : Prop :=
 ∀ (w : World) (cs cs' : List Value) (off : Nat),G (piece P t cs off) → G (piece P t cs' off) →
  ∃ a b r,(part t cs.toArray off).run P w = .ok a w ∧ (part t cs'.toArray off).run P w = .ok b w ∧ (Op.equalIn d t a b).run P w = .ok r w ∧ (r = true ↔ piece P t cs off = piece P t cs' off)
def ES (P : Program) (d : Nat) (t : TypeId) (G : List Value → Prop) : Prop :=
 ∀ (w : World) (cs cs' : List Value),G cs → G cs' → ∃ r,(Op.equalIn d t (.agg cs.toArray) (.agg cs'.toArray)).run P w = .ok r w ∧ (r = true ↔ cs = cs')
def GInt (cs : List Value) : Prop:=∃ z,cs = [.int .i64 z]
def GBool (cs : List Value) : Prop:=∃ b,cs = [.bool b]
def GInts (n : Nat) (cs : List Value) : Prop:=∃ zs : List Int,cs = ints zs ∧ zs.length = n
theorem part_one {t : TypeId} {d : TypeDesc} (ht : P.underlying t = some d) (hd : (match d with | .struct _ | .array _ _ => true | _ => false) = false) {cs : List Value} {off n : Nat} {v : Value} (h : (cs.drop off).take n = [v]) (w : World) :
  (part t cs.toArray off).run P w = .ok v w:=by
 have hv : cs[off]? = some v:=by
  have : ((cs.drop off).take n)[0]? = some v:=by rw [h];rfl
  rw [List.getElem?_take,List.getElem?_drop] at this
  split at this
  ·simpa using this
  ·cases this
 unfold part isAgg
 cases d <;> simp_all [Sem.run_bind,run_underlying ht]
theorem IE.int {d : Nat} {t : TypeId} {k : IntKind} (ht : P.underlying t = some (.int k)) : IE P (d + 1) t GInt:=by
 intro w cs cs' off ⟨z,h⟩ ⟨z',h'⟩
 refine ⟨_,_,z == z',part_one ht rfl h w,part_one ht rfl h' w,by simp [Op.equalIn,run_underlying ht],?_⟩
 rw [h,h'];simp
theorem IE.bool {d : Nat} {t : TypeId} (ht : P.underlying t = some .bool) : IE P (d + 1) t GBool:=by
 intro w cs cs' off ⟨z,h⟩ ⟨z',h'⟩
 refine ⟨_,_,z == z',part_one ht rfl h w,part_one ht rfl h' w,by simp [Op.equalIn,run_underlying ht],?_⟩
 rw [h,h'];simp
theorem IE.mono {d : Nat} {t : TypeId} {G G' : List Value → Prop} (h : IE P d t G) (hg : ∀ cs,G' cs → G cs) : IE P d t G' :=
 fun w cs cs' off h1 h2 => h w cs cs' off (hg _ h1) (hg _ h2)
theorem ES.part {d : Nat} {t : TypeId} {i : TypeInfo} {td : TypeDesc} {G : List Value → Prop} (h : ES P d t G) (ht : P.underlying t = some td) (hd : (match td with | .struct _ | .array _ _ => true | _ => false) = true) (hi : P.info? t = some i) : IE P d t G:=by
 intro w cs cs' off h1 h2
 obtain ⟨r,hr,hiff⟩:=h w _ _ h1 h2
 have key : ∀ cs : List Value,(Go.part t cs.toArray off).run P w = .ok (.agg (piece P t cs off).toArray) w:=by
  intro cs
  have ha : (isAgg t).run P w = .ok true w:=by unfold isAgg;cases td <;> simp_all [Sem.run_bind,run_underlying ht]
  have he : cs.toArray.extract off (off + P.cellsOf t) = (piece P t cs off).toArray:=by
   unfold piece
   apply Array.ext'
   simp [List.extract_eq_take_drop]
  unfold Go.part
  simp only [Sem.run_bind,ha,Result.andThen_ok,if_true,run_sizeOf w hi,he]
  rfl
 exact ⟨_,_,r,key cs,key cs',hr,hiff⟩
def contig (P : Program) : List Field → Nat → Nat → Bool
 | [],o,n => o == n
 | f :: fs, o, n => (f.name != "_") && f.offset == o && contig P fs (o + P.cellsOf f.type) n
theorem drop_eq_iff (a b : List Value) (o m : Nat) : a.drop o = b.drop o ↔ (a.drop o).take m = (b.drop o).take m ∧ a.drop (o + m) = b.drop (o + m):=by
 constructor
 ·intro h
  have e : ∀ c : List Value,c.drop (o + m) = (c.drop o).drop m:=fun c => by rw [List.drop_drop]
  rw [e,e,h]
  exact ⟨rfl,rfl⟩
 ·rintro ⟨h1,h2⟩
  have e : ∀ c : List Value,c.drop (o + m) = (c.drop o).drop m:=fun c => by rw [List.drop_drop]
  rw [e,e] at h2
  rw [← List.take_append_drop m (a.drop o),← List.take_append_drop m (b.drop o),h1,h2]
theorem eqFields_run {d : Nat} {Gs : List (List Value → Prop)} (w : World) (cs cs' : List Value) (n : Nat) (hl : cs.length = n) (hl' : cs'.length = n) : ∀ (fs : List Field) (o : Nat),contig P fs o n = true →
  (∀ f ∈ fs,∃ G,IE P d f.type G ∧ G (piece P f.type cs f.offset) ∧ G (piece P f.type cs' f.offset)) →
  ∃ r,(Op.eqFields d cs.toArray cs'.toArray fs).run P w = .ok r w ∧ (r = true ↔ cs.drop o = cs'.drop o)
 | [],o,h,_ => by
  have : o = n:=by simpa [contig] using h
  subst this
  exact ⟨true,by simp [Op.eqFields],by simp [List.drop_of_length_le,hl,hl']⟩
 | f :: fs,o,h,hG => by
  simp only [contig,Bool.and_eq_true,bne_iff_ne,beq_iff_eq] at h
  obtain ⟨⟨hn,ho⟩,hc⟩:=h
  obtain ⟨G,hI,g1,g2⟩:=hG f (by simp)
  obtain ⟨a,b,r,p1,p2,p3,hiff⟩:=hI w cs cs' f.offset g1 g2
  obtain ⟨r',hr',hiff'⟩:=eqFields_run (Gs:=Gs) w cs cs' n hl hl' fs _ hc (fun g hg => hG g (by simp [hg]))
  simp only [Op.eqFields,hn,ne_eq,not_false_eq_true,if_true,Sem.run_bind,p1,p2,p3,Result.andThen_ok]
  rw [drop_eq_iff cs cs' o (P.cellsOf f.type)]
  rw [ho] at hiff
  unfold piece at hiff
  cases r
  ·exact ⟨false,by simp,by simp;intro e;exact absurd (hiff.2 e) (by simp)⟩
  ·refine ⟨r',by simpa using hr',?_⟩
   rw [hiff']
   exact ⟨fun h => ⟨hiff.1 rfl,h⟩,fun h => h.2⟩
theorem ES.struct {d : Nat} {t : TypeId} {G : List Value → Prop} (ht : P.underlying t = some (.struct (P.fieldsOf t))) (hp : P.stoodInHeld t = false) (n : Nat) (hc : contig P (P.fieldsOf t).toList 0 n = true)
  (hG : ∀ cs,G cs → cs.length = n) (hf : ∀ f ∈ (P.fieldsOf t).toList,∃ G',IE P d f.type G' ∧ ∀ cs,G cs → G' (piece P f.type cs f.offset)) : ES P (d + 1) t G:=by
 intro w cs cs' h1 h2
 rw [run_equalIn_struct w d t _ _ ht hp]
 have:=eqFields_run (d:=d) (Gs:=[]) w cs cs' n (hG _ h1) (hG _ h2) (P.fieldsOf t).toList 0 hc (fun f hfm => by
  obtain ⟨G',a,b⟩:=hf f hfm
  exact ⟨G',a,b _ h1,b _ h2⟩)
 simpa using this
theorem eqItems_run {d : Nat} {e : TypeId} {G : List Value → Prop} (hI : IE P d e G) (w : World) (cs cs' : List Value) (n : Nat) (hl : cs.length = n * P.cellsOf e) (hl' : cs'.length = n * P.cellsOf e) : ∀ (m o : Nat),o + m = n →
  (∀ i,i < n → G (piece P e cs (i * P.cellsOf e)) ∧ G (piece P e cs' (i * P.cellsOf e))) →
  ∃ r,(Op.eqItems d e (P.cellsOf e) cs.toArray cs'.toArray (List.range' o m)).run P w = .ok r w ∧ (r = true ↔ cs.drop (o * P.cellsOf e) = cs'.drop (o * P.cellsOf e))
 | 0,o,ho,_ => by
  have : o = n:=by omega
  subst this
  exact ⟨true,by simp [Op.eqItems],by simp [List.drop_of_length_le,hl,hl']⟩
 | m + 1,o,ho,hG => by
  obtain ⟨g1,g2⟩:=hG o (by omega)
  obtain ⟨a,b,r,p1,p2,p3,hiff⟩:=hI w cs cs' (o * P.cellsOf e) g1 g2
  obtain ⟨r',hr',hiff'⟩:=eqItems_run hI w cs cs' n hl hl' m (o + 1) (by omega) hG
  simp only [List.range'_succ,Op.eqItems,Sem.run_bind,p1,p2,p3,Result.andThen_ok]
  rw [drop_eq_iff cs cs' (o * P.cellsOf e) (P.cellsOf e)]
  rw [Nat.succ_mul] at hiff'
  unfold piece at hiff
  cases r
  ·exact ⟨false,by simp,by simp;intro e;exact absurd (hiff.2 e) (by simp)⟩
  ·refine ⟨r',by simpa using hr',?_⟩
   rw [hiff']
   exact ⟨fun h => ⟨hiff.1 rfl,h⟩,fun h => h.2⟩
theorem ES.array {d : Nat} {t e : TypeId} {n : Nat} {i : TypeInfo} {G G' : List Value → Prop} (ht : P.underlying t = some (.array n e)) (hi : P.info? e = some i) (hI : IE P d e G') (hG : ∀ cs,G cs → cs.length = n * P.cellsOf e ∧ ∀ i,i < n → G' (piece P e cs (i * P.cellsOf e))) : ES P (d + 1) t G:=by
 intro w cs cs' h1 h2
 rw [run_equalIn_array w d _ _ ht hi,List.range_eq_range']
 have:=eqItems_run hI w cs cs' n (hG _ h1).1 (hG _ h2).1 n 0 (by omega) (fun i hi => ⟨(hG _ h1).2 i hi,(hG _ h2).2 i hi⟩)
 simpa using this
theorem gInts_piece {t : TypeId} {n off : Nat} {cs : List Value} (h : GInts n cs) (hle : off + P.cellsOf t ≤ n) : GInts (P.cellsOf t) (piece P t cs off):=by
 obtain ⟨zs,rfl,hl⟩:=h
 refine ⟨(zs.drop off).take (P.cellsOf t),?_,by rw [List.length_take,List.length_drop];omega⟩
 unfold piece ints
 rw [List.map_take,List.map_drop]
theorem gInts_one {cs : List Value} (h : GInts 1 cs) : GInt cs:=by
 obtain ⟨zs,rfl,hl⟩:=h
 match zs,hl with
 | [z],_ => exact ⟨z,rfl⟩
theorem IE.ints1 {d : Nat} {t : TypeId} {k : IntKind} (ht : P.underlying t = some (.int k)) : IE P (d + 1) t (GInts 1):=(IE.int ht).mono fun _ => gInts_one
theorem ES.flat {d : Nat} {t : TypeId} (ht : P.underlying t = some (.struct (P.fieldsOf t))) (hp : P.stoodInHeld t = false) (n : Nat) (hc : contig P (P.fieldsOf t).toList 0 n = true)
  (hle : ((P.fieldsOf t).toList.all fun f => decide (f.offset + P.cellsOf f.type ≤ n)) = true)
  (hf : ∀ f ∈ (P.fieldsOf t).toList,IE P d f.type (GInts (P.cellsOf f.type))) : ES P (d + 1) t (GInts n):=by
 refine ES.struct ht hp n hc (fun cs h => ?_) (fun f hfm => ⟨_,hf f hfm,fun cs h => gInts_piece h ?_⟩)
 ·obtain ⟨zs,rfl,hl⟩:=h;rw [ints_length];exact hl
 ·simpa using List.all_eq_true.1 hle f hfm
theorem ES.intArr {d : Nat} {t e : TypeId} {n : Nat} {i : TypeInfo} {k : IntKind} (ht : P.underlying t = some (.array n e)) (hi : P.info? e = some i) (he : P.underlying e = some (.int k)) (h1 : P.cellsOf e = 1) : ES P (d + 2) t (GInts n):=by
 refine ES.array ht hi ((IE.int he).mono (fun _ => id)) (fun cs h => ⟨?_,fun j hj => gInts_one ?_⟩)
 ·obtain ⟨zs,rfl,hl⟩:=h;rw [ints_length,h1];omega
 ·have:=gInts_piece (P:=P) (t:=e) (off:=j * P.cellsOf e) h (by rw [h1];omega)
  rwa [h1] at this ⊢
theorem ints_inj {a b : List Int} : ints a = ints b ↔ a = b:=by
 constructor
 ·intro h
  unfold ints at h
  exact List.map_inj_right (fun x y h => by cases h;rfl) |>.1 h
 ·rintro rfl;rfl
theorem ES.eqlI {t : TypeId} {n : Nat} (h : ES P 10000 t (GInts n)) (w : World) (a b : List Int) (ha : a.length = n) (hb : b.length = n) {x y : Array Value} (hx : x = (ints a).toArray) (hy : y = (ints b).toArray) :
  (binOp .eql t (.agg x) (.agg y)).run P w = .ok (.bool (eqB a b)) w:=by
 subst hx;subst hy
 obtain ⟨r,hr,hiff⟩:=h w (ints a) (ints b) ⟨a,rfl,ha⟩ ⟨b,rfl,hb⟩
 rw [run_eql_struct,hr]
 have : r = eqB a b:=by rw [Bool.eq_iff_iff,hiff,ints_inj];simp [eqB]
 simp [this]
theorem ES.neqI {t : TypeId} {n : Nat} (h : ES P 10000 t (GInts n)) (w : World) (a b : List Int) (ha : a.length = n) (hb : b.length = n) {x y : Array Value} (hx : x = (ints a).toArray) (hy : y = (ints b).toArray) :
  (binOp .neq t (.agg x) (.agg y)).run P w = .ok (.bool (!eqB a b)) w:=by
 subst hx;subst hy
 obtain ⟨r,hr,hiff⟩:=h w (ints a) (ints b) ⟨a,rfl,ha⟩ ⟨b,rfl,hb⟩
 rw [run_neq_struct,hr]
 have : r = eqB a b:=by rw [Bool.eq_iff_iff,hiff,ints_inj];simp [eqB]
 simp [this]
end
theorem ieInt (d : Nat) : IE Tryz.prog (d + 1) 3 (GInts (Tryz.prog.cellsOf 3)):=by
 rw [show Tryz.prog.cellsOf 3 = 1 by kernel_rfl];exact IE.ints1 Tryz.underlying3
theorem esHandle (d : Nat) : ES Tryz.prog (d + 2) 46 (GInts 2):=by
 refine ES.flat (by kernel_rfl) (by kernel_rfl) 2 (by kernel_rfl) (by kernel_rfl) ?_
 intro f hf
 simp only [Program.fieldsOf,Tryz.underlying46,List.mem_cons,List.not_mem_nil,or_false] at hf
 rcases hf with rfl | rfl <;> exact ieInt d
theorem esArr (d : Nat) : ES Tryz.prog (d + 2) 47 (GInts 8):=by
 obtain ⟨i,hi⟩:=Option.isSome_iff_exists.1 (show (Tryz.prog.info? 3).isSome = true by kernel_rfl)
 exact ES.intArr Tryz.underlying47 hi Tryz.underlying3 (by kernel_rfl)
theorem esBeast (d : Nat) : ES Tryz.prog (d + 3) 49 (GInts 9):=by
 refine ES.flat (by kernel_rfl) (by kernel_rfl) 9 (by kernel_rfl) (by kernel_rfl) ?_
 intro f hf
 simp only [Program.fieldsOf,Tryz.underlying49,List.mem_cons,List.not_mem_nil,or_false] at hf
 rcases hf with rfl | rfl
 ·exact ieInt (d + 1)
 ·show IE Tryz.prog (d + 2) 47 (GInts (Tryz.prog.cellsOf 47))
  rw [show Tryz.prog.cellsOf 47 = 8 by kernel_rfl]
  obtain ⟨i,hi⟩:=Option.isSome_iff_exists.1 (show (Tryz.prog.info? 47).isSome = true by kernel_rfl)
  exact (esArr d).part Tryz.underlying47 rfl hi
theorem esSlot (d : Nat) : ES Tryz.prog (d + 2) 162 (fun cs => ∃ z b,cs = [.int .i64 z,.bool b]):=by
 refine ES.struct (by kernel_rfl) (by kernel_rfl) 2 (by kernel_rfl) (fun cs h => by obtain ⟨z,b,rfl⟩:=h;rfl) ?_
 intro f hf
 simp only [Program.fieldsOf,Tryz.underlying162,List.mem_cons,List.not_mem_nil,or_false] at hf
 rcases hf with rfl | rfl
 ·refine ⟨GInt,IE.int Tryz.underlying3,?_⟩
  rintro cs ⟨z,b,rfl⟩
  have e : Tryz.prog.cellsOf 3 = 1:=by kernel_rfl
  simp only [piece,e]
  exact ⟨z,rfl⟩
 ·refine ⟨GBool,IE.bool Tryz.underlying4,?_⟩
  rintro cs ⟨z,b,rfl⟩
  have e : Tryz.prog.cellsOf 4 = 1:=by kernel_rfl
  simp only [piece,e]
  exact ⟨b,rfl⟩
theorem guardSlot : Tryz.prog.eqGuardType Tryz.prog.depth 162 = false:=by kernel_rfl
theorem eqlHandle (w : World) (a b c d : Int) : (binOp .eql 46 (.agg #[.int .i64 a,.int .i64 b]) (.agg #[.int .i64 c,.int .i64 d])).run Tryz.prog w = .ok (.bool (eqB (a,b) (c,d))) w:=by
 have h:=(esHandle 9998).eqlI w [a,b] [c,d] rfl rfl (x:=#[.int .i64 a,.int .i64 b]) (y:=#[.int .i64 c,.int .i64 d]) rfl rfl
 refine h.trans ?_
 have e : eqB [a,b] [c,d] = eqB (a,b) (c,d):=by simp [eqB]
 rw [e]
theorem eqlSlot (w : World) (a b : Int) (x y : Bool) : (binOp .eql 162 (.agg #[.int .i64 a,.bool x]) (.agg #[.int .i64 b,.bool y])).run Tryz.prog w = .ok (.bool (eqB (a,x) (b,y))) w:=by
 obtain ⟨r,hr,hiff⟩:=esSlot 9998 w [.int .i64 a,.bool x] [.int .i64 b,.bool y] ⟨_,_,rfl⟩ ⟨_,_,rfl⟩
 rw [run_eql_struct]
 rw [show (10000 : Nat) = 9998 + 2 from rfl,hr]
 have : r = eqB (a,x) (b,y):=by rw [Bool.eq_iff_iff,hiff];simp [eqB]
 simp [this]
end Go.Proofs.YtoheblfpjinmnaaGreatDoor
namespace Go.Proofs.YtoheblfpjinmnaaGreatDoor
open Go
abbrev Sl:=List (Int × Bool)
def firstI {α : Type} (p : α → Bool) (l : List α) : Int:=match l.findIdx? p with | some k => (k : Int) | none => -1
theorem fi_some {α : Type} {p : α → Bool} {l : List α} {k : Nat} (hk : k < l.length) (hp : p l[k] = true) (hn : ∀ j (h : j < k),p (l[j]'(by omega)) = false) : l.findIdx? p = some k:=by
 rw [List.findIdx?_eq_some_iff_getElem]
 exact ⟨hk,hp,fun j hj => by simp [hn j hj]⟩
theorem fi_none {α : Type} {p : α → Bool} {l : List α} (h : ∀ j (hj : j < l.length),p l[j] = false) : l.findIdx? p = none:=by
 rw [List.findIdx?_eq_none_iff]
 intro x hx
 obtain ⟨j,hj,rfl⟩:=List.mem_iff_getElem.1 hx
 exact h j hj
theorem fi_lt {α : Type} {p : α → Bool} {l : List α} {k : Nat} (h : l.findIdx? p = some k) : ∃ hk : k < l.length,p l[k] = true:=by
 rw [List.findIdx?_eq_some_iff_getElem] at h
 exact ⟨h.1,h.2.1⟩
theorem firstI_some {α : Type} {p : α → Bool} {l : List α} {k : Nat} (h : l.findIdx? p = some k) : firstI p l = k:=by unfold firstI;rw [h]
theorem firstI_none {α : Type} {p : α → Bool} {l : List α} (h : l.findIdx? p = none) : firstI p l = -1:=by unfold firstI;rw [h]
def liveB (l : Sl) (s g : Int) : Bool:=decide (0 ≤ s) && (match l[s.toNat]? with | some x => x.2 && decide (x.1 = g) | none => false)
def allFrom : Nat → Sl → List (Int × Int)
 | _,[] => []
 | k,x :: l => (if x.2 = true then [((k : Int),x.1)] else []) ++ allFrom (k + 1) l
def allS (l : Sl) : List (Int × Int):=allFrom 0 l
def gensS (l : Sl) : List Int:=l.map (·.1)
def livesS (l : Sl) : List Bool:=l.map (·.2)
theorem mem_allFrom (l : Sl) (k : Nat) (s g : Int) : (s,g) ∈ allFrom k l ↔ ∃ j : Nat,s = ((k + j : Nat) : Int) ∧ ∃ h : j < l.length,l[j].2 = true ∧ l[j].1 = g:=by
 induction l generalizing k with
 | nil => simp [allFrom]
 | cons x l ih =>
  rw [allFrom,List.mem_append,ih]
  constructor
  ·rintro (h | ⟨j,h1,h2,h3⟩)
   ·split at h
    ·rename_i hx
     simp only [List.mem_singleton,Prod.mk.injEq] at h
     exact ⟨0,by simpa using h.1,by simp,by simpa using hx,by simpa using h.2.symm⟩
    ·simp at h
   ·exact ⟨j + 1,by rw [h1];omega,by simpa using h2,by simpa using h3⟩
  ·rintro ⟨j,h1,h2,h3⟩
   cases j with
   | zero =>
    left
    simp only [List.getElem_cons_zero] at h3
    rw [if_pos h3.1]
    simp only [List.mem_singleton,Prod.mk.injEq]
    exact ⟨by simpa using h1,h3.2.symm⟩
   | succ j =>
    right
    exact ⟨j,by rw [h1];omega,by simpa using h2,by simpa using h3⟩
theorem liveB_iff (l : Sl) (s g : Int) : liveB l s g = true ↔ (s,g) ∈ allS l:=by
 rw [allS,mem_allFrom]
 unfold liveB
 constructor
 ·intro h
  rw [Bool.and_eq_true,decide_eq_true_eq] at h
  obtain ⟨h0,h1⟩:=h
  cases hx : l[s.toNat]? with
  | none => rw [hx] at h1;cases h1
  | some x =>
   rw [hx] at h1
   simp only [Bool.and_eq_true,decide_eq_true_eq] at h1
   obtain ⟨hl,he⟩:=List.getElem?_eq_some_iff.1 hx
   exact ⟨s.toNat,by omega,hl,by rw [he];exact h1.1,by rw [he];exact h1.2⟩
 ·rintro ⟨j,rfl,hj,h1,h2⟩
  rw [Bool.and_eq_true]
  refine ⟨by simp,?_⟩
  have : ((0 + j : Nat) : Int).toNat = j:=by omega
  rw [this,List.getElem?_eq_getElem hj]
  simp [h1,h2]
theorem liveB_lt {l : Sl} {s g : Int} (h : liveB l s g = true) : 0 ≤ s ∧ ∃ hk : s.toNat < l.length,l[s.toNat] = (g,true):=by
 unfold liveB at h
 rw [Bool.and_eq_true,decide_eq_true_eq] at h
 obtain ⟨h0,h1⟩:=h
 cases hx : l[s.toNat]? with
 | none => rw [hx] at h1;cases h1
 | some x =>
  rw [hx] at h1
  simp only [Bool.and_eq_true,decide_eq_true_eq] at h1
  obtain ⟨hl,he⟩:=List.getElem?_eq_some_iff.1 hx
  exact ⟨h0,hl,by rw [he];exact Prod.ext h1.2 h1.1⟩
theorem allFrom_len (l : Sl) (k : Nat) : (allFrom k l).length ≤ l.length:=by
 induction l generalizing k with
 | nil => simp [allFrom]
 | cons x l ih =>
  have:=ih (k + 1)
  simp only [allFrom,List.length_append,List.length_cons]
  split
  ·simp only [List.length_cons,List.length_nil];omega
  ·simp only [List.length_nil];omega
theorem allS_len (l : Sl) : (allS l).length ≤ l.length:=allFrom_len l 0
def SlOk (l : Sl) : Prop:=l.length ≤ 60 ∧ ∀ x ∈ l,0 ≤ x.1 ∧ x.1 ≤ 1000000 ∧ (x.2 = true → x.1 < 1000000)
theorem slOk_nil : SlOk []:=⟨by simp,by simp⟩
theorem SlOk.at_ {l : Sl} (h : SlOk l) {k : Nat} (hk : k < l.length) : 0 ≤ l[k].1 ∧ l[k].1 ≤ 1000000 ∧ (l[k].2 = true → l[k].1 < 1000000):=h.2 _ (List.getElem_mem hk)
end Go.Proofs.YtoheblfpjinmnaaGreatDoor
namespace Go.Proofs.YtoheblfpjinmnaaGreatDoor
open Go.RowKit
def slotC (x : Int × Bool) : List Value:=[.int .i64 x.1,.bool x.2]
theorem slotC_len (x : Int × Bool) : (slotC x).length = 2:=rfl
theorem below_drewN {B : Nat} {a w : World} (h : Below B a w) (n : Nat) : Below B a (w.drewN n):=⟨h.os,h.tape,h.output,h.size,h.block⟩
def RepS (w : World) (p : Nat) (l : Sl) (F : List Nat) : Prop :=
 ∃ v,w.heap[p]? = some (.cells #[v] 160 (0,0)) ∧ w.ownsRow 0 162 2 v l.length (l.flatMap slotC) ∧ F = p :: v.ownBlock.toList ∧ F.Nodup
theorem RepS.mod {w w' : World} {p : Nat} {l : Sl} {F G : List Nat} (h : RepS w p l F) (hm : Mod G w w') (hd : ∀ k ∈ F,k ∉ G) : RepS w' p l F:=by
 obtain ⟨v,h1,h2,rfl,h3⟩:=h
 exact ⟨v,hm.keep h1 (hd p (by simp)),row_mod h2 hm (fun k hk => hd k (by simp [hk])),rfl,h3⟩
theorem RepS.lt {w : World} {p : Nat} {l : Sl} {F : List Nat} (h : RepS w p l F) : ∀ k ∈ F,k < w.heap.size:=by
 obtain ⟨v,h1,h2,rfl,h3⟩:=h
 intro k hk
 rcases List.mem_cons.1 hk with rfl | hk
 ·exact blk_lt h1
 ·exact row_lt h2 k (by simpa using hk)
theorem liveB_neg {l : Sl} {s g : Int} (h : s < 0) : liveB l s g = false:=by
 unfold liveB
 rw [show decide (0 ≤ s) = false by simp;omega];rfl
theorem liveB_out {l : Sl} {n : Nat} {g : Int} (h : l.length ≤ n) : liveB l n g = false:=by
 unfold liveB
 rw [Int.toNat_natCast,List.getElem?_eq_none h];simp
theorem liveB_in {l : Sl} {n : Nat} {g : Int} (h : n < l.length) : liveB l n g = eqB l[n] (g,true):=by
 unfold liveB
 rw [Int.toNat_natCast,List.getElem?_eq_getElem h]
 obtain ⟨a,b⟩:=l[n]
 simp [eqB]
 cases b <;> simp
set_option maxHeartbeats 1000000 in
theorem live_any (p : Nat) (l : Sl) (F : List Nat) (s g : Int) (w : World) (h : RepS w p l F) :
  Calls Tryz.prog 70 #[.pointer (some ⟨p,0,none⟩),.agg #[.int .i64 s,.int .i64 g]] w fun e w' => e = .returned (.bool (liveB l s g)) ∧ Below w.heap.size w w':=by
 obtain ⟨v,hp,hrow,rfl,hne⟩:=h
 obtain ⟨A,cap,rfl,hc1,hc2⟩:=row_slice hrow
 have hc:=blk_cell hp 0
 simp at hc
 have hle : l.length ≤ 9223372036854775807:=by unfold maxLen at hc2;omega
 have hpl:=blk_lt hp
 have hB : ∀ nq,Below w.heap.size w ((w.alloc (.cells #[.int .i64 s,.int .i64 g] 46)).drewN nq):=fun nq => below_drewN ((Below.refl _ _).alloc (Nat.le_refl _) _) nq
 clear hp hne hc2
 by_cases hs : s < 0
 ·have H:=Lib.hid (liveB_neg (l:=l) (g:=g) hs)
  have hd : decide (0 ≤ s) = false:=by simp;omega
  clear hrow
  go_enter Tryz.func70,Tryz.ntmps70
  go_wp2
  go_quiet (fail)
  go_wp2
  go_ret
  exact ⟨by rw [H.out];rfl,hB _⟩
 ·obtain ⟨n,rfl⟩:=Int.eq_ofNat_of_zero_le (show 0 ≤ s by omega)
  clear hs
  by_cases hn : n < l.length
  ·obtain ⟨g0,cap',he,hcell⟩:=row_rec slotC_len hrow hn
   cases he
   have hgl:=row_lt hrow g0 rfl
   have hx:=liveB_in (g:=g) hn
   have c0:=hcell 0 _ rfl
   have c1:=hcell 1 _ rfl
   simp only [Nat.add_zero] at c0
   clear hcell hrow
   generalize l[n] = x at *
   obtain ⟨a,b⟩:=x
   simp only at c0 c1
   have H:=Lib.hid hx
   clear hx
   have he:=fun w => eqlSlot w a g b true
   have hg:=guardSlot
   generalize eqB (a,b) (g,true) = r at *
   go_enter Tryz.func70,Tryz.ntmps70
   go_wp2
   go_quiet (fail)
   go_wp2
   go_ret
   exact ⟨by rw [H.out];rfl,hB _⟩
  ·have H:=Lib.hid (liveB_out (l:=l) (g:=g) (Nat.le_of_not_lt hn))
   have hd : decide ((n : Int) < (l.length : Int)) = false:=by simp;omega
   have hd2 : decide (n < l.length) = false:=by simp;omega
   clear hrow
   go_enter Tryz.func70,Tryz.ntmps70
   go_wp2
   go_quiet (fail)
   go_wp2
   go_ret
   exact ⟨by rw [H.out];rfl,hB _⟩
def handleC (h : Int × Int) : List Value:=[.int .i64 h.1,.int .i64 h.2]
theorem handleC_len (x : Int × Int) : (handleC x).length = 2:=rfl
theorem handleC_one (x : Int × Int) : ∀ u ∈ handleC x,u.oneCell' = true:=by intro u hu;simp [handleC] at hu;rcases hu with rfl | rfl <;> rfl
theorem slotC_one (x : Int × Bool) : ∀ u ∈ slotC x,u.oneCell' = true:=by intro u hu;simp [slotC] at hu;rcases hu with rfl | rfl <;> rfl
theorem info_handle : (Tryz.prog.info? 46).map (fun i => (i.zero,i.size,i.bytes)) = some (some (.agg #[.int .i64 0,.int .i64 0]),2,16):=by kernel_rfl
theorem info_slot : (Tryz.prog.info? 162).map (fun i => (i.zero,i.size,i.bytes)) = some (some (.agg #[.int .i64 0,.bool false]),2,16):=by kernel_rfl
theorem info_bool : (Tryz.prog.info? 4).map (fun i => (i.zero,i.size,i.bytes)) = some (some (.bool false),1,1):=by kernel_rfl
def MadeRecs {α : Type} (E k : Nat) (enc : α → List Value) (l : List α) (w : World) (e : Ending) (w' : World) : Prop :=
 ∃ v,e = .returned v ∧ w'.ownsRow w.heap.size E k v l.length (l.flatMap enc) ∧ Below w.heap.size w w'
theorem new_rec {w : World} {n : Nat} {cs : Array Value} {t : TypeId} {xs : List Value} (hn : n = w.heap.size) (h : cs.toList = xs) : ∀ j u,xs[j]? = some u → (w.alloc (.cells cs t)).cell? ((⟨n,0,none⟩ : Addr).add j) = some u:=by
 intro j u hu
 subst h;subst hn
 have e : (⟨w.heap.size,0,none⟩ : Addr).add j = ⟨w.heap.size,j,none⟩:=by unfold Addr.add;split <;> simp_all
 rw [e]
 simpa using hu
theorem app_handle {w : World} {ops : Array Oper} {rest : List Oper} {o : Oper} {a : Act} {Q : Exit → Act → World → Prop} (hgd : o.guard = none) (s x : Operand)
  (ho : o.op = .call { callee:=.builtin .append,args:=#[s,x],argTypes:=#[127,127] }) (base : Nat) (v : Value) (l : List (Int × Int)) (y : Int × Int) (ad : Addr) (c : Nat)
  (hs : a.eval s = v) (hown : w.ownsRow base 46 2 v l.length (l.flatMap handleC)) (hx : a.eval x = .slice (some ad) 1 c) (hc : ∀ j u,(handleC y)[j]? = some u → w.cell? (ad.add j) = some u)
  (hlen : l.length < 8796093022207) (hbase : base ≤ w.heap.size)
  (h : ∀ v' w',w'.ownsRow base 46 2 v' (l ++ [y]).length ((l ++ [y]).flatMap handleC) → Below base w w' → wpList Tryz.prog ops Q rest (a.put o.dst v') w') : wpList Tryz.prog ops Q (o :: rest) a w:=by
 refine app_rec (enc:=handleC) (n:=2) (z:=.agg #[.int .i64 0,.int .i64 0]) (bytes:=16) hgd s x 127 46 ho Tryz.underlying127 info_handle rfl (by omega) (by omega) handleC_one handleC_len base v l y ad c hs hown hx hc (by omega) hbase ?_
 intro v' w' h1 h2 _
 exact h v' w' h1 ((Below.refl base w).grown h2 hbase (own_ge hown))
set_option maxHeartbeats 1000000 in
theorem hasHandle_any (A : Option Addr) (c : Nat) (l : List (Int × Int)) (s g : Int) (w : World) (hl : l.length ≤ 9223372036854775807) (hA : Lies w w.heap.size A (l.flatMap handleC)) :
  Calls Tryz.prog 86 #[.slice A l.length c,.agg #[.int .i64 s,.int .i64 g]] w fun e w' => e = .returned (.bool (hasB l (s,g))) ∧ Below w.heap.size w w':=by
 go_enter Tryz.func86,Tryz.ntmps86
 go_wp2
 go_loopw [9] (fun i wr => ∃ k : Nat,k ≤ l.length ∧ i = .int .i64 k ∧ hasB (l.take k) (s,g) = false ∧ Below (w.heap.size + 1) (w.alloc (.cells #[.int .i64 s,.int .i64 g] 46)) wr) (fun i _ => l.length - (Go.RowKit.intOf i).toNat)
 case atStart => exact ⟨0,by omega,rfl,hasB_nil _,Below.refl _ _⟩
 case round =>
  obtain ⟨k,hk,rfl,hno,hbel⟩:=hrel
  have hsz:=hbel.size
  simp only [World.size_alloc] at hsz
  have hsz2 : w.heap.size < wr.heap.size:=hsz
  have hb0 : Below w.heap.size w wr:=((Below.refl w.heap.size w).alloc (Nat.le_refl _) _).trans (hbel.mono (by omega))
  have d0 : wr.cell? ⟨w.heap.size,0,none⟩ = some (.int .i64 s):=(hbel.cell (p:=⟨w.heap.size,0,none⟩) (by simp)).trans (by simp)
  have d1 : wr.cell? ⟨w.heap.size,1,none⟩ = some (.int .i64 g):=(hbel.cell (p:=⟨w.heap.size,1,none⟩) (by simp)).trans (by simp)
  by_cases hlt : k < l.length
  ·obtain ⟨a,rfl,hal,hcell⟩:=hA.rec_ handleC_len (by omega) hlt
   have hs : hasB (l.take (k + 1)) (s,g) = (hasB (l.take k) (s,g) || eqB (s,g) l[k]):=by
    rw [take_succ_get l k hlt,hasB_snoc];rfl
   have hs2 : eqB (s,g) l[k] = true → hasB l (s,g) = true:=by
    intro h
    rw [hasB_iff]
    have : (s,g) = l[k]:=by simpa [eqB] using h
    rw [this];exact List.getElem_mem _
   have hc0:=fun j u hu => (hb0.cell (p:=(a.add (k * 2)).add j) (by rw [add_block,add_block];exact hal)).trans (hcell j u hu)
   have Hc0:=Lib.hid hc0
   clear hcell hc0 hA
   generalize l[k] = x at *
   obtain ⟨x0,x1⟩:=x
   have he:=fun w => eqlHandle w s g x0 x1
   rw [hno,Bool.false_or] at hs
   generalize hr : eqB (s,g) (x0,x1) = r at *
   obtain ⟨Hs,Hs2,Hr,Hno,Hb,Hb0⟩:=hid6 hs hs2 hr hno hbel hb0
   clear hs hs2 hr hno hbel hb0
   cases r with
   | true =>
    have H:=Lib.hid (Hs2.out rfl)
    go_wp2_with (refine wpList_load_flat rfl 46 (.tmp 11) rfl _ rfl [.int .i64 x0,.int .i64 x1] _ Tryz.underlying46 rfl (by kernel_rfl) Hc0.out ?_)
    go_ret
    exact ⟨by rw [H.out];rfl,Hb0.out.alloc (by omega) _⟩
   | false =>
    go_wp2_with (refine wpList_load_flat rfl 46 (.tmp 11) rfl _ rfl [.int .i64 x0,.int .i64 x1] _ Tryz.underlying46 rfl (by kernel_rfl) Hc0.out ?_)
    go_roundw
    case rel => exact ⟨k + 1,by omega,by go_num,Hs.out,Hb.out.alloc (by omega) _⟩
    case measure => simp [Go.RowKit.intOf];omega
  ·have hf : hasB l (s,g) = false:=by rw [← hno,List.take_of_length_le (by omega)]
   have H:=Lib.hid hf
   clear hf hno
   go_wp2
   go_ret
   exact ⟨by rw [H.out];rfl,hb0⟩
theorem flat2_set {α : Type} {enc : α → List Value} (hf : ∀ x,(enc x).length = 2) (y : α) (u v : Value) (hy : enc y = [u,v]) : ∀ (l : List α) (k : Nat),k < l.length →
  ((l.flatMap enc).set (k * 2) u).set (k * 2 + 1) v = (l.set k y).flatMap enc
 | x :: l,0,_ => by
  obtain ⟨a,b,hx⟩ : ∃ a b,enc x = [a,b]:=by
   match h : enc x,hf x with
   | [a,b],_ => exact ⟨a,b,rfl⟩
  simp [hx,hy]
 | x :: l,k + 1,hk => by
  have ih:=flat2_set hf y u v hy l k (by simpa using hk)
  have hx:=hf x
  simp only [List.flatMap_cons,List.set_cons_succ]
  rw [List.set_append_right _ _ (by omega),List.set_append_right _ _ (by omega),hx,show (k + 1) * 2 - 2 = k * 2 by omega,show (k + 1) * 2 + 1 - 2 = k * 2 + 1 by omega,ih]
theorem RepS.at_ {w : World} {p : Nat} {l : Sl} {F : List Nat} (h : RepS w p l F) {n : Nat} (hn : n < l.length) : ∃ g0 cap,w.heap[p]? = some (.cells #[.slice (some ⟨g0,0,none⟩) l.length cap] 160 (0,0)) ∧ g0 ∈ F ∧ g0 < w.heap.size ∧
  w.cell? ⟨g0,n * 2,none⟩ = some (.int .i64 l[n].1) ∧ w.cell? ⟨g0,n * 2 + 1,none⟩ = some (.bool l[n].2) ∧ (∀ i,w.frozen? ⟨g0,i,none⟩ = false) ∧
  (∀ y : Int × Bool,RepS ((w.setCell ⟨g0,n * 2,none⟩ (.int .i64 y.1)).setCell ⟨g0,n * 2 + 1,none⟩ (.bool y.2)) p (l.set n y) F) ∧ (∀ b : Bool,RepS (w.setCell ⟨g0,n * 2 + 1,none⟩ (.bool b)) p (l.set n (l[n].1,b)) F):=by
 obtain ⟨v,hp,hrow,rfl,hne⟩:=h
 obtain ⟨g0,cap,cur,rfl,-,hblk,-⟩:=row_some hrow (by omega)
 obtain ⟨g0',cap',he,hcell⟩:=row_rec slotC_len hrow hn
 cases he
 have hpg : p ≠ g0:=by
  intro e
  simp [Value.ownBlock,e] at hne
 refine ⟨g0,cap,hp,by simp [Value.ownBlock],blk_lt hblk,hcell 0 _ rfl,hcell 1 _ rfl,blk_free hblk,fun y => ?_,fun b => ?_⟩
 ·refine ⟨_,?_,?_,rfl,hne⟩
  ·rw [blk_set_ne (by simpa using hpg),blk_set_ne (by simpa using hpg)];exact hp
  ·have h2:=row_set (row_set hrow (n * 2) (.int .i64 y.1)) (n * 2 + 1) (.bool y.2)
   rw [flat2_set slotC_len y _ _ rfl l n hn] at h2
   rw [List.length_set];exact h2
 ·refine ⟨_,?_,?_,rfl,hne⟩
  ·rw [blk_set_ne (by simpa using hpg)];exact hp
  ·have h2:=row_set hrow (n * 2 + 1) (.bool b)
   rw [flatV_set slotC_len l n hn 1 _ (l[n].1,b) (by omega) rfl] at h2
   rw [List.length_set];exact h2
def bools (bs : List Bool) : List Value:=bs.map (.bool ·)
def RepRS (w : World) (q : Nat) (l : Sl) (F : List Nat) : Prop :=
 ∃ vg vl,w.heap[q]? = some (.cells #[vg,vl] 90 (0,0)) ∧ w.ownsRow 0 3 1 vg l.length (ints (gensS l)) ∧ w.ownsRow 0 4 1 vl l.length (bools (livesS l)) ∧
  F = q :: (vg.ownBlock.toList ++ vl.ownBlock.toList) ∧ F.Nodup
theorem gens_get (l : Sl) (k : Nat) (h : k < l.length) : (ints (gensS l))[k]? = some (.int .i64 l[k].1):=by simp [ints,gensS,h]
theorem lives_get (l : Sl) (k : Nat) (h : k < l.length) : (bools (livesS l))[k]? = some (.bool l[k].2):=by simp [bools,livesS,h]
attribute [local go_sem] AllFrom.cons_eq AllFrom.nil_eq putF_nil putF_cons wantedL_none wantedL_some OpGoalT YieldsR preF_nil preF_cons
end Go.Proofs.YtoheblfpjinmnaaGreatDoor
namespace Go.Proofs.YtoheblfpjinmnaaGreatDoor
open Go.RowKit
attribute [local go_sem] AllFrom.cons_eq AllFrom.nil_eq putF_nil putF_cons wantedL_none wantedL_some OpGoalT OpGoalS YieldsR preF_nil preF_cons
theorem wrapSmall (z : Int) (h1 : 0 ≤ z) (h2 : z ≤ 1000000) : IntKind.i64.wrap z = z:=by
 have e : z % 2 ^ 64 = z:=Int.emod_eq_of_lt h1 (by omega)
 simp only [IntKind.wrap,IntKind.bits,IntKind.signed,e,Bool.true_and,decide_eq_true_eq]
 split <;> omega
theorem slotsNew_any (w : World) : Calls Tryz.prog 101 #[] w fun e w' => ∃ p,e = .returned (.pointer (some ⟨p,0,none⟩)) ∧ Below w.heap.size w w' ∧ RepS w' p [] [p] ∧ w.heap.size ≤ p:=by
 go_enter Tryz.func101,Tryz.ntmps101
 go_wp2
 go_ret
 refine ⟨w.heap.size,rfl,(Below.refl _ _).alloc (Nat.le_refl _) _,⟨.slice none 0 0,heap_alloc_new w _,⟨rfl,.inl ⟨rfl,rfl⟩⟩,rfl,by simp⟩,Nat.le_refl _⟩
structure Turns (w : World) (F : List Nat) (F' : List Nat) (w' : World) : Prop where
 mod : Mod F w w'
 new : ∀ k ∈ F',k ∈ F ∨ w.heap.size ≤ k
theorem app_slot {w : World} {ops : Array Oper} {rest : List Oper} {o : Oper} {a : Act} {Q : Exit → Act → World → Prop} (hgd : o.guard = none) (s x : Operand)
  (ho : o.op = .call { callee:=.builtin .append,args:=#[s,x],argTypes:=#[158,158] }) (base : Nat) (v : Value) (l : Sl) (y : Int × Bool) (ad : Addr) (c : Nat)
  (hs : a.eval s = v) (hown : w.ownsRow base 162 2 v l.length (l.flatMap slotC)) (hx : a.eval x = .slice (some ad) 1 c) (hc : ∀ j u,(slotC y)[j]? = some u → w.cell? (ad.add j) = some u)
  (hlen : l.length < 8796093022207) (hbase : base ≤ w.heap.size)
  (h : ∀ v' w',w'.ownsRow base 162 2 v' (l ++ [y]).length ((l ++ [y]).flatMap slotC) → w.grownBy w' v.ownBlock → (v'.ownBlock = v.ownBlock ∨ v'.ownBlock = some w.heap.size) → wpList Tryz.prog ops Q rest (a.put o.dst v') w') : wpList Tryz.prog ops Q (o :: rest) a w :=
 app_rec (enc:=slotC) (n:=2) (z:=.agg #[.int .i64 0,.bool false]) (bytes:=16) hgd s x 158 162 ho Tryz.underlying158 info_slot rfl (by omega) (by omega) slotC_one slotC_len base v l y ad c hs hown hx hc (by omega) hbase h
end Go.Proofs.YtoheblfpjinmnaaGreatDoor
namespace Go.Proofs.YtoheblfpjinmnaaGreatDoor
open Go.RowKit
theorem Lies.rec_at {α : Type} {enc : α → List Value} {n : Nat} {w : World} {B : Nat} {A : Option Addr} {l : List α} (h : Lies w B A (l.flatMap enc)) (hf : ∀ x,(enc x).length = n) (hn : 0 < n) {k : Nat} (hk : k < l.length) :
  ∃ b o,A = some ⟨b,o,none⟩ ∧ b < B ∧ ∀ j u,(enc l[k])[j]? = some u → w.cell? ⟨b,o + k * n + j,none⟩ = some u:=by
 obtain ⟨a,rfl,hb,hc⟩:=h.rec_ hf hn hk
 obtain ⟨a0,e,-,h0⟩:=h 0 ((l.flatMap enc)[0]'(by rw [flatV_length hf];exact Nat.mul_pos (by omega) hn)) (List.getElem?_eq_getElem _)
 cases e
 obtain ⟨b,o,s⟩:=a
 have hs : s = none:=by
  cases s with
  | none => rfl
  | some x =>
   rw [add_zero] at h0
   simp only [World.cell?] at h0
   split at h0
   ·simp at h0
   ·cases h0
 subst hs
 refine ⟨b,o,rfl,hb,fun j u hu => ?_⟩
 have:=hc j u hu
 rw [add_add_] at this
 have e : (⟨b,o,none⟩ : Addr).add (k * n + j) = ⟨b,o + k * n + j,none⟩:=by
  unfold Addr.add
  split
  ·next h0 => simp only [Addr.mk.injEq,true_and,and_true];omega
  ·simp only [Addr.mk.injEq,true_and,and_true];omega
 rw [e] at this
 exact this
attribute [local go_sem] AllFrom.cons_eq AllFrom.nil_eq putF_nil putF_cons wantedL_none wantedL_some OpGoalT OpGoalS YieldsR preF_nil preF_cons
end Go.Proofs.YtoheblfpjinmnaaGreatDoor
