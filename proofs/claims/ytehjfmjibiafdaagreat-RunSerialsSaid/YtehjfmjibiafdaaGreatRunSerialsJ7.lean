import Derived.Test.YtehjfmjibiafdaaGreatRunSerialsJ6
import Derived.Test.YtehjfmjibiafdaaGreatRunSerialsJ3
import Derived.ChangeKeysEq
import Derived.Test.YtehjfmjibiafdaaGreatRunSerialsJ4
/- A part of the proof that RunSerials returns true. -/
namespace Go.Proofs.YtehjfmjibiafdaaGreat
open Go Go.RowKit
def oneR (S : Nat) (ys : Array Value) (t : TypeId) : Value → World → Prop:=fun v w => ∃ b,v = .slice (some ⟨b,0,none⟩) 1 1 ∧ S ≤ b ∧ w.heap[b]? = some (.cells ys t (0,0))
theorem stab_oneR {S : Nat} {ys : Array Value} {t : TypeId} : Stab Grow (oneR S ys t):=by
 rintro v w w' hb ⟨b,h1,h2,h3⟩
 exact ⟨b,h1,h2,(Mod.ofBelow hb).keep h3 (by simp)⟩
theorem oneR_mod {S : Nat} {ys : Array Value} {t : TypeId} {F : List Nat} {v : Value} {w w' : World} (h : oneR S ys t v w) (hm : Mod F w w') (hF : ∀ k ∈ F,k < S) : oneR S ys t v w':=by
 obtain ⟨b,h1,h2,h3⟩:=h
 exact ⟨b,h1,h2,hm.keep h3 (fun hk => by have:=hF b hk;omega)⟩
theorem oneR_new {S : Nat} {ys : Array Value} {t : TypeId} {w : World} (h : S ≤ w.heap.size) : oneR S ys t (.slice (some ⟨w.heap.size,0,none⟩) 1 1) (w.alloc (.cells ys t)):=⟨_,rfl,h,heap_alloc_new w _⟩
theorem oneR_cells {S : Nat} {ys : Array Value} {t : TypeId} {v : Value} {w : World} {xs : List Value} (h : oneR S ys t v w) (he : ys.toList = xs) : ∃ ad,v = .slice (some ad) 1 1 ∧ ∀ j u,xs[j]? = some u → w.cell? (ad.add j) = some u:=by
 obtain ⟨b,rfl,-,hb⟩:=h
 refine ⟨_,rfl,fun j u hu => ?_⟩
 subst he
 have e : (⟨b,0,none⟩ : Addr).add j = ⟨b,j,none⟩:=by unfold Addr.add;split <;> simp_all
 rw [e,blk_cell hb]
 simpa using hu
section
variable {P : Program} {α : Type} {enc : α → List Value} {n : Nat}
theorem yr_app {o : Oper} {ρ : Operand → Value} {w : World} {J : Value → World → Prop} (s x : Operand) (T E : TypeId)
  (ho : o.op = .call { callee:=.builtin .append,args:=#[s,x],argTypes:=#[T,T] }) (ht : P.underlying T = some (.slice E)) {z : Value} {bytes : Nat}
  (hinf : (P.info? E).map (fun i => (i.zero,i.size,i.bytes)) = some (some z,n,bytes)) (hzs : z.cells.size = n) (hn : 0 < n) (hby : 0 < bytes) (hone : ∀ x,∀ u ∈ enc x,u.oneCell' = true) (hf : ∀ x,(enc x).length = n)
  (base : Nat) (v : Value) (l : List α) (y : α) (S : Nat) (ys : Array Value) (t : TypeId) (hs : ρ s = v) (hown : w.ownsRow base E n v l.length (l.flatMap enc)) (hx : oneR S ys t (ρ x) w) (hys : ys.toList = enc y)
  (hlen : (l.length + 1) * bytes ≤ 140737488355328) (hbase : base ≤ w.heap.size)
  (h : ∀ v' w',w'.ownsRow base E n v' (l ++ [y]).length ((l ++ [y]).flatMap enc) → w.grownBy w' v.ownBlock → (v'.ownBlock = v.ownBlock ∨ v'.ownBlock = some w.heap.size) → J v' w') : YieldsR P o ρ w J:=by
 obtain ⟨i0,hi,hz0,hz1,hz2⟩:=info_parts hinf
 have h1 : l.length + 1 ≤ (l.length + 1) * bytes:=Nat.le_mul_of_pos_right _ hby
 obtain ⟨ad,hxe,hc⟩:=oneR_cells hx hys
 obtain ⟨v',w',hr,h2,h3,h4,h5⟩:=run_append_own_at (P:=P) w base T o.type E i0 z n bytes ht hi hz0 hz1 hz2 hzs hn v l.length _ hown ad 1 1 (enc y) (by rw [hf,Nat.one_mul]) hc (hone y) (by unfold maxLen;omega) hlen hbase
 unfold YieldsR execOp
 simp only [ho,resolve,invoke,builtin,Sem.run_bind,Sem.run_pure,Result.andThen_ok,List.map_toArray,mC,mN,hs,hxe,hr]
 refine h v' w' ?_ h3 h5
 rw [List.length_append,List.flatMap_append]
 simpa using h2
theorem app_oneR {w : World} {ops : Array Oper} {rest : List Oper} {o : Oper} {a : Act} {Q : Exit → Act → World → Prop} (hgd : o.guard = none) (s x : Operand) (T E : TypeId)
  (ho : o.op = .call { callee:=.builtin .append,args:=#[s,x],argTypes:=#[T,T] }) (ht : P.underlying T = some (.slice E)) {z : Value} {bytes : Nat}
  (hinf : (P.info? E).map (fun i => (i.zero,i.size,i.bytes)) = some (some z,n,bytes)) (hzs : z.cells.size = n) (hn : 0 < n) (hby : 0 < bytes) (hone : ∀ x,∀ u ∈ enc x,u.oneCell' = true) (hf : ∀ x,(enc x).length = n)
  (base : Nat) (v : Value) (l : List α) (y : α) (S : Nat) (ys : Array Value) (t : TypeId) (hs : a.eval s = v) (hown : w.ownsRow base E n v l.length (l.flatMap enc)) (hx : oneR S ys t (a.eval x) w) (hys : ys.toList = enc y)
  (hlen : (l.length + 1) * bytes ≤ 140737488355328) (hbase : base ≤ w.heap.size)
  (h : ∀ v' w',w'.ownsRow base E n v' (l ++ [y]).length ((l ++ [y]).flatMap enc) → w.grownBy w' v.ownBlock → (v'.ownBlock = v.ownBlock ∨ v'.ownBlock = some w.heap.size) → wpList P ops Q rest (a.put o.dst v') w') : wpList P ops Q (o :: rest) a w:=by
 obtain ⟨ad,hxe,hc⟩:=oneR_cells hx hys
 exact app_rec hgd s x T E ho ht hinf hzs hn hby hone hf base v l y ad 1 hs hown hxe hc hlen hbase h
end
theorem grown_mod {w w' : World} {r : Option Nat} (h : w.grownBy w' r) : Mod r.toList w w':=(Mod.refl _ w).grown h (fun k hk => .inl (by simp [hk]))
theorem keep_of {σ : Nat → Value} {L : Nat → Bool} {w w' : World} {p : Value → World → Prop} {l : List (Value → World → Prop)} {k : Nat} (hp : L k = true → p (σ k) w → p (σ k) w') (h : KeepAll σ L w w' (k + 1) l) : KeepAll σ L w w' k (p :: l):=⟨hp,h⟩
theorem keep_not {σ : Nat → Value} {L : Nat → Bool} {w w' : World} {p : Value → World → Prop} {l : List (Value → World → Prop)} {k : Nat} (hk : L k = false) (h : KeepAll σ L w w' (k + 1) l) : KeepAll σ L w w' k (p :: l):=⟨fun h => absurd h (by rw [hk];exact Bool.false_ne_true),h⟩
theorem keep_nil {σ : Nat → Value} {L : Nat → Bool} {w w' : World} {k : Nat} : KeepAll σ L w w' k []:=trivial
theorem allStab_oneR {S : Nat} {ys : Array Value} {t : TypeId} {l : List (Value → World → Prop)} (h : AllStab Grow l) : AllStab Grow (oneR S ys t :: l):=⟨stab_oneR,h⟩
def appV (E k n : Nat) (xs : List Value) (g : Option Nat) (S : Nat) : Value → World → Prop:=fun v w => w.ownsRow 0 E k v n xs ∧ (v.ownBlock = g ∨ ∃ b,v.ownBlock = some b ∧ S ≤ b)
theorem stab_appV {E k n : Nat} {xs : List Value} {g : Option Nat} {S : Nat} : Stab Grow (appV E k n xs g S):=fun v w w' hb h => ⟨stab_rowV (B:=0) v w w' hb h.1,h.2⟩
theorem allStab_appV {E k n : Nat} {xs : List Value} {g : Option Nat} {S : Nat} {l : List (Value → World → Prop)} (h : AllStab Grow l) : AllStab Grow (appV E k n xs g S :: l):=⟨stab_appV,h⟩
theorem upd_false {L : Nat → Bool} {i j : Nat} (h : upd L i j = false) : L j = false:=by simp only [upd,Bool.or_eq_false_iff] at h;exact h.2
theorem grow_alloc (w : World) (o : Obj) : Grow w (w.alloc o):=(Below.refl _ _).alloc (Nat.le_refl _) o
theorem upd_true {L : Nat → Bool} {i j : Nat} (h : upd L i j = true) (hne : j ≠ i) : L j = true:=by simp only [upd,Bool.or_eq_true,beq_iff_eq] at h;exact h.resolve_left hne
section
variable {P : Program}
def piece (P : Program) (t : TypeId) (cs : List Value) (off : Nat) : List Value:=(cs.drop off).take (P.cellsOf t)
def IE (P : Program) (d : Nat) (t : TypeId) (G : List Value → Prop) : Prop :=
 ∀ (w : World) (cs cs' : List Value) (off : Nat),G (piece P t cs off) → G (piece P t cs' off) →
  ∃ a b r,(part t cs.toArray off).run P w = .ok a w ∧ (part t cs'.toArray off).run P w = .ok b w ∧ (Op.equalIn d t a b).run P w = .ok r w ∧ (r = true ↔ piece P t cs off = piece P t cs' off)
def ES (P : Program) (d : Nat) (t : TypeId) (G : List Value → Prop) : Prop :=
 ∀ (w : World) (cs cs' : List Value),G cs → G cs' → ∃ r,(Op.equalIn d t (.agg cs.toArray) (.agg cs'.toArray)).run P w = .ok r w ∧ (r = true ↔ cs = cs')
def GInt (cs : List Value) : Prop:=∃ z,cs = [.int .i64 z]
def GBool (cs : List Value) : Prop:=∃ b,cs = [.bool b]
def GInts (n : Nat) (cs : List Value) : Prop:=∃ zs : List Int,cs = ints zs ∧ zs.length = n
theorem part_one {t : TypeId} {d : TypeDesc} (ht : P.underlying t = some d) (hd : (match d with | .struct _ | .array _ _ => true | _ => false) = false) {cs : List Value} {off n : Nat} {v : Value} (h : (cs.drop off).take n = [v]) (w : World) :
  (part t cs.toArray off).run P w = .ok v w:=by
 have hv : cs[off]? = some v:=by
  have : ((cs.drop off).take n)[0]? = some v:=by rw [h];rfl
  rw [List.getElem?_take,List.getElem?_drop] at this
  split at this
  ·simpa using this
  ·cases this
 unfold part isAgg
 cases d <;> simp_all [Sem.run_bind,run_underlying ht]
theorem IE.int {d : Nat} {t : TypeId} {k : IntKind} (ht : P.underlying t = some (.int k)) : IE P (d + 1) t GInt:=by
 intro w cs cs' off ⟨z,h⟩ ⟨z',h'⟩
 refine ⟨_,_,z == z',part_one ht rfl h w,part_one ht rfl h' w,by simp [Op.equalIn,run_underlying ht],?_⟩
 rw [h,h'];simp
theorem IE.bool {d : Nat} {t : TypeId} (ht : P.underlying t = some .bool) : IE P (d + 1) t GBool:=by
 intro w cs cs' off ⟨z,h⟩ ⟨z',h'⟩
 refine ⟨_,_,z == z',part_one ht rfl h w,part_one ht rfl h' w,by simp [Op.equalIn,run_underlying ht],?_⟩
 rw [h,h'];simp
theorem IE.mono {d : Nat} {t : TypeId} {G G' : List Value → Prop} (h : IE P d t G) (hg : ∀ cs,G' cs → G cs) : IE P d t G' :=
 fun w cs cs' off h1 h2 => h w cs cs' off (hg _ h1) (hg _ h2)
theorem ES.part {d : Nat} {t : TypeId} {i : TypeInfo} {td : TypeDesc} {G : List Value → Prop} (h : ES P d t G) (ht : P.underlying t = some td) (hd : (match td with | .struct _ | .array _ _ => true | _ => false) = true) (hi : P.info? t = some i) : IE P d t G:=by
 intro w cs cs' off h1 h2
 obtain ⟨r,hr,hiff⟩:=h w _ _ h1 h2
 have key : ∀ cs : List Value,(Go.part t cs.toArray off).run P w = .ok (.agg (piece P t cs off).toArray) w:=by
  intro cs
  have ha : (isAgg t).run P w = .ok true w:=by unfold isAgg;cases td <;> simp_all [Sem.run_bind,run_underlying ht]
  have he : cs.toArray.extract off (off + P.cellsOf t) = (piece P t cs off).toArray:=by
   unfold piece
   apply Array.ext'
   simp [List.extract_eq_take_drop]
  unfold Go.part
  simp only [Sem.run_bind,ha,Result.andThen_ok,if_true,run_sizeOf w hi,he]
  rfl
 exact ⟨_,_,r,key cs,key cs',hr,hiff⟩
def contig (P : Program) : List Field → Nat → Nat → Bool
 | [],o,n => o == n
 | f :: fs, o, n => (f.name != "_") && f.offset == o && contig P fs (o + P.cellsOf f.type) n
theorem drop_eq_iff (a b : List Value) (o m : Nat) : a.drop o = b.drop o ↔ (a.drop o).take m = (b.drop o).take m ∧ a.drop (o + m) = b.drop (o + m):=by
 constructor
 ·intro h
  have e : ∀ c : List Value,c.drop (o + m) = (c.drop o).drop m:=fun c => by rw [List.drop_drop]
  rw [e,e,h]
  exact ⟨rfl,rfl⟩
 ·rintro ⟨h1,h2⟩
  have e : ∀ c : List Value,c.drop (o + m) = (c.drop o).drop m:=fun c => by rw [List.drop_drop]
  rw [e,e] at h2
  rw [← List.take_append_drop m (a.drop o),← List.take_append_drop m (b.drop o),h1,h2]
theorem eqFields_run {d : Nat} {Gs : List (List Value → Prop)} (w : World) (cs cs' : List Value) (n : Nat) (hl : cs.length = n) (hl' : cs'.length = n) : ∀ (fs : List Field) (o : Nat),contig P fs o n = true →
  (∀ f ∈ fs,∃ G,IE P d f.type G ∧ G (piece P f.type cs f.offset) ∧ G (piece P f.type cs' f.offset)) →
  ∃ r,(Op.eqFields d cs.toArray cs'.toArray fs).run P w = .ok r w ∧ (r = true ↔ cs.drop o = cs'.drop o)
 | [],o,h,_ => by
  have : o = n:=by simpa [contig] using h
  subst this
  exact ⟨true,by simp [Op.eqFields],by simp [List.drop_of_length_le,hl,hl']⟩
 | f :: fs,o,h,hG => by
  simp only [contig,Bool.and_eq_true,bne_iff_ne,beq_iff_eq] at h
  obtain ⟨⟨hn,ho⟩,hc⟩:=h
  obtain ⟨G,hI,g1,g2⟩:=hG f (by simp)
  obtain ⟨a,b,r,p1,p2,p3,hiff⟩:=hI w cs cs' f.offset g1 g2
  obtain ⟨r',hr',hiff'⟩:=eqFields_run (Gs:=Gs) w cs cs' n hl hl' fs _ hc (fun g hg => hG g (by simp [hg]))
  simp only [Op.eqFields,hn,ne_eq,not_false_eq_true,if_true,Sem.run_bind,p1,p2,p3,Result.andThen_ok]
  rw [drop_eq_iff cs cs' o (P.cellsOf f.type)]
  rw [ho] at hiff
  unfold piece at hiff
  cases r
  ·exact ⟨false,by simp,by simp;intro e;exact absurd (hiff.2 e) (by simp)⟩
  ·refine ⟨r',by simpa using hr',?_⟩
   rw [hiff']
   exact ⟨fun h => ⟨hiff.1 rfl,h⟩,fun h => h.2⟩
theorem ES.struct {d : Nat} {t : TypeId} {G : List Value → Prop} (ht : P.underlying t = some (.struct (P.fieldsOf t))) (hp : P.stoodInHeld t = false) (n : Nat) (hc : contig P (P.fieldsOf t).toList 0 n = true)
  (hG : ∀ cs,G cs → cs.length = n) (hf : ∀ f ∈ (P.fieldsOf t).toList,∃ G',IE P d f.type G' ∧ ∀ cs,G cs → G' (piece P f.type cs f.offset)) : ES P (d + 1) t G:=by
 intro w cs cs' h1 h2
 rw [run_equalIn_struct w d t _ _ ht hp]
 have:=eqFields_run (d:=d) (Gs:=[]) w cs cs' n (hG _ h1) (hG _ h2) (P.fieldsOf t).toList 0 hc (fun f hfm => by
  obtain ⟨G',a,b⟩:=hf f hfm
  exact ⟨G',a,b _ h1,b _ h2⟩)
 simpa using this
theorem eqItems_run {d : Nat} {e : TypeId} {G : List Value → Prop} (hI : IE P d e G) (w : World) (cs cs' : List Value) (n : Nat) (hl : cs.length = n * P.cellsOf e) (hl' : cs'.length = n * P.cellsOf e) : ∀ (m o : Nat),o + m = n →
  (∀ i,i < n → G (piece P e cs (i * P.cellsOf e)) ∧ G (piece P e cs' (i * P.cellsOf e))) →
  ∃ r,(Op.eqItems d e (P.cellsOf e) cs.toArray cs'.toArray (List.range' o m)).run P w = .ok r w ∧ (r = true ↔ cs.drop (o * P.cellsOf e) = cs'.drop (o * P.cellsOf e))
 | 0,o,ho,_ => by
  have : o = n:=by omega
  subst this
  exact ⟨true,by simp [Op.eqItems],by simp [List.drop_of_length_le,hl,hl']⟩
 | m + 1,o,ho,hG => by
  obtain ⟨g1,g2⟩:=hG o (by omega)
  obtain ⟨a,b,r,p1,p2,p3,hiff⟩:=hI w cs cs' (o * P.cellsOf e) g1 g2
  obtain ⟨r',hr',hiff'⟩:=eqItems_run hI w cs cs' n hl hl' m (o + 1) (by omega) hG
  simp only [List.range'_succ,Op.eqItems,Sem.run_bind,p1,p2,p3,Result.andThen_ok]
  rw [drop_eq_iff cs cs' (o * P.cellsOf e) (P.cellsOf e)]
  rw [Nat.succ_mul] at hiff'
  unfold piece at hiff
  cases r
  ·exact ⟨false,by simp,by simp;intro e;exact absurd (hiff.2 e) (by simp)⟩
  ·refine ⟨r',by simpa using hr',?_⟩
   rw [hiff']
   exact ⟨fun h => ⟨hiff.1 rfl,h⟩,fun h => h.2⟩
theorem ES.array {d : Nat} {t e : TypeId} {n : Nat} {i : TypeInfo} {G G' : List Value → Prop} (ht : P.underlying t = some (.array n e)) (hi : P.info? e = some i) (hI : IE P d e G') (hG : ∀ cs,G cs → cs.length = n * P.cellsOf e ∧ ∀ i,i < n → G' (piece P e cs (i * P.cellsOf e))) : ES P (d + 1) t G:=by
 intro w cs cs' h1 h2
 rw [run_equalIn_array w d _ _ ht hi,List.range_eq_range']
 have:=eqItems_run hI w cs cs' n (hG _ h1).1 (hG _ h2).1 n 0 (by omega) (fun i hi => ⟨(hG _ h1).2 i hi,(hG _ h2).2 i hi⟩)
 simpa using this
theorem gInts_piece {t : TypeId} {n off : Nat} {cs : List Value} (h : GInts n cs) (hle : off + P.cellsOf t ≤ n) : GInts (P.cellsOf t) (piece P t cs off):=by
 obtain ⟨zs,rfl,hl⟩:=h
 refine ⟨(zs.drop off).take (P.cellsOf t),?_,by rw [List.length_take,List.length_drop];omega⟩
 unfold piece ints
 rw [List.map_take,List.map_drop]
theorem gInts_one {cs : List Value} (h : GInts 1 cs) : GInt cs:=by
 obtain ⟨zs,rfl,hl⟩:=h
 match zs,hl with
 | [z],_ => exact ⟨z,rfl⟩
theorem IE.ints1 {d : Nat} {t : TypeId} {k : IntKind} (ht : P.underlying t = some (.int k)) : IE P (d + 1) t (GInts 1):=(IE.int ht).mono fun _ => gInts_one
theorem ES.flat {d : Nat} {t : TypeId} (ht : P.underlying t = some (.struct (P.fieldsOf t))) (hp : P.stoodInHeld t = false) (n : Nat) (hc : contig P (P.fieldsOf t).toList 0 n = true)
  (hle : ((P.fieldsOf t).toList.all fun f => decide (f.offset + P.cellsOf f.type ≤ n)) = true)
  (hf : ∀ f ∈ (P.fieldsOf t).toList,IE P d f.type (GInts (P.cellsOf f.type))) : ES P (d + 1) t (GInts n):=by
 refine ES.struct ht hp n hc (fun cs h => ?_) (fun f hfm => ⟨_,hf f hfm,fun cs h => gInts_piece h ?_⟩)
 ·obtain ⟨zs,rfl,hl⟩:=h;rw [ints_length];exact hl
 ·simpa using List.all_eq_true.1 hle f hfm
theorem ES.intArr {d : Nat} {t e : TypeId} {n : Nat} {i : TypeInfo} {k : IntKind} (ht : P.underlying t = some (.array n e)) (hi : P.info? e = some i) (he : P.underlying e = some (.int k)) (h1 : P.cellsOf e = 1) : ES P (d + 2) t (GInts n):=by
 refine ES.array ht hi ((IE.int he).mono (fun _ => id)) (fun cs h => ⟨?_,fun j hj => gInts_one ?_⟩)
 ·obtain ⟨zs,rfl,hl⟩:=h;rw [ints_length,h1];omega
 ·have:=gInts_piece (P:=P) (t:=e) (off:=j * P.cellsOf e) h (by rw [h1];omega)
  rwa [h1] at this ⊢
theorem ints_inj {a b : List Int} : ints a = ints b ↔ a = b:=by
 constructor
 ·intro h
  unfold ints at h
  exact List.map_inj_right (fun x y h => by cases h;rfl) |>.1 h
 ·rintro rfl;rfl
theorem ES.eqlI {t : TypeId} {n : Nat} (h : ES P 10000 t (GInts n)) (w : World) (a b : List Int) (ha : a.length = n) (hb : b.length = n) {x y : Array Value} (hx : x = (ints a).toArray) (hy : y = (ints b).toArray) :
  (binOp .eql t (.agg x) (.agg y)).run P w = .ok (.bool (eqB a b)) w:=by
 subst hx;subst hy
 obtain ⟨r,hr,hiff⟩:=h w (ints a) (ints b) ⟨a,rfl,ha⟩ ⟨b,rfl,hb⟩
 rw [run_eql_struct,hr]
 have : r = eqB a b:=by rw [Bool.eq_iff_iff,hiff,ints_inj];simp [eqB]
 simp [this]
theorem ES.neqI {t : TypeId} {n : Nat} (h : ES P 10000 t (GInts n)) (w : World) (a b : List Int) (ha : a.length = n) (hb : b.length = n) {x y : Array Value} (hx : x = (ints a).toArray) (hy : y = (ints b).toArray) :
  (binOp .neq t (.agg x) (.agg y)).run P w = .ok (.bool (!eqB a b)) w:=by
 subst hx;subst hy
 obtain ⟨r,hr,hiff⟩:=h w (ints a) (ints b) ⟨a,rfl,ha⟩ ⟨b,rfl,hb⟩
 rw [run_neq_struct,hr]
 have : r = eqB a b:=by rw [Bool.eq_iff_iff,hiff,ints_inj];simp [eqB]
 simp [this]
end
theorem ieInt (d : Nat) : IE Tryz.prog (d + 1) 3 (GInts (Tryz.prog.cellsOf 3)):=by
 rw [show Tryz.prog.cellsOf 3 = 1 by kernel_rfl];exact IE.ints1 Tryz.underlying3
theorem esHandle (d : Nat) : ES Tryz.prog (d + 2) 41 (GInts 2):=by
 refine ES.flat (by kernel_rfl) (by kernel_rfl) 2 (by kernel_rfl) (by kernel_rfl) ?_
 intro f hf
 simp only [Program.fieldsOf,Tryz.underlying41,List.mem_cons,List.not_mem_nil,or_false] at hf
 rcases hf with rfl | rfl <;> exact ieInt d
theorem esArr (d : Nat) : ES Tryz.prog (d + 2) 48 (GInts 8):=by
 obtain ⟨i,hi⟩:=Option.isSome_iff_exists.1 (show (Tryz.prog.info? 3).isSome = true by kernel_rfl)
 exact ES.intArr Tryz.underlying48 hi Tryz.underlying3 (by kernel_rfl)
theorem esBeast (d : Nat) : ES Tryz.prog (d + 3) 50 (GInts 9):=by
 refine ES.flat (by kernel_rfl) (by kernel_rfl) 9 (by kernel_rfl) (by kernel_rfl) ?_
 intro f hf
 simp only [Program.fieldsOf,Tryz.underlying50,List.mem_cons,List.not_mem_nil,or_false] at hf
 rcases hf with rfl | rfl
 ·exact ieInt (d + 1)
 ·show IE Tryz.prog (d + 2) 48 (GInts (Tryz.prog.cellsOf 48))
  rw [show Tryz.prog.cellsOf 48 = 8 by kernel_rfl]
  obtain ⟨i,hi⟩:=Option.isSome_iff_exists.1 (show (Tryz.prog.info? 48).isSome = true by kernel_rfl)
  exact (esArr d).part Tryz.underlying48 rfl hi
theorem esSlot (d : Nat) : ES Tryz.prog (d + 2) 159 (fun cs => ∃ z b,cs = [.int .i64 z,.bool b]):=by
 refine ES.struct (by kernel_rfl) (by kernel_rfl) 2 (by kernel_rfl) (fun cs h => by obtain ⟨z,b,rfl⟩:=h;rfl) ?_
 intro f hf
 simp only [Program.fieldsOf,Tryz.underlying159,List.mem_cons,List.not_mem_nil,or_false] at hf
 rcases hf with rfl | rfl
 ·refine ⟨GInt,IE.int Tryz.underlying3,?_⟩
  rintro cs ⟨z,b,rfl⟩
  have e : Tryz.prog.cellsOf 3 = 1:=by kernel_rfl
  simp only [piece,e]
  exact ⟨z,rfl⟩
 ·refine ⟨GBool,IE.bool Tryz.underlying4,?_⟩
  rintro cs ⟨z,b,rfl⟩
  have e : Tryz.prog.cellsOf 4 = 1:=by kernel_rfl
  simp only [piece,e]
  exact ⟨b,rfl⟩
theorem guardSlot : Tryz.prog.eqGuardType Tryz.prog.depth 159 = false:=by kernel_rfl
theorem eqlHandle (w : World) (a b c d : Int) : (binOp .eql 41 (.agg #[.int .i64 a,.int .i64 b]) (.agg #[.int .i64 c,.int .i64 d])).run Tryz.prog w = .ok (.bool (eqB (a,b) (c,d))) w:=by
 have h:=(esHandle 9998).eqlI w [a,b] [c,d] rfl rfl (x:=#[.int .i64 a,.int .i64 b]) (y:=#[.int .i64 c,.int .i64 d]) rfl rfl
 refine h.trans ?_
 have e : eqB [a,b] [c,d] = eqB (a,b) (c,d):=by simp [eqB]
 rw [e]
theorem eqlSlot (w : World) (a b : Int) (x y : Bool) : (binOp .eql 159 (.agg #[.int .i64 a,.bool x]) (.agg #[.int .i64 b,.bool y])).run Tryz.prog w = .ok (.bool (eqB (a,x) (b,y))) w:=by
 obtain ⟨r,hr,hiff⟩:=esSlot 9998 w [.int .i64 a,.bool x] [.int .i64 b,.bool y] ⟨_,_,rfl⟩ ⟨_,_,rfl⟩
 rw [run_eql_struct]
 rw [show (10000 : Nat) = 9998 + 2 from rfl,hr]
 have : r = eqB (a,x) (b,y):=by rw [Bool.eq_iff_iff,hiff];simp [eqB]
 simp [this]
theorem cutI_hi {z : Int} (h : 1000000000 < z) : cutI z = 1000000000:=by simp [cutI,h]
theorem cutI_lo {z : Int} (h : z < -1000000000) : cutI z = -1000000000:=by unfold cutI;rw [if_neg (by omega),if_pos h]
theorem cutI_mid {z : Int} (h1 : -1000000000 ≤ z) (h2 : z ≤ 1000000000) : cutI z = z:=by unfold cutI;rw [if_neg (by omega),if_neg (by omega)]
theorem cutI_mm (z : Int) : cutI z = min (max z (-1000000000)) 1000000000:=by
 unfold cutI
 split
 ·omega
 ·split <;> omega
theorem cut_any (z : Int) (w : World) : Calls Tryz.prog 121 #[.int .i64 z] w fun e w' => e = .returned (.int .i64 (cutI z)) ∧ w = w':=by
 have H:=Lib.hid (cutI_mm z)
 go_enter Tryz.func121,Tryz.ntmps121
 go_wp2
 go_ret
 exact ⟨by rw [H.out];rfl,rfl⟩
theorem rcut_any (z : Int) (w : World) : Calls Tryz.prog 124 #[.int .i64 z] w fun e w' => e = .returned (.int .i64 (cutI z)) ∧ w = w':=by
 by_cases h1 : 1000000000 < z
 ·have H:=Lib.hid (cutI_hi h1)
  go_enter Tryz.func124,Tryz.ntmps124
  go_wp2
  go_ret
  exact ⟨by rw [H.out];rfl,rfl⟩
 ·by_cases h2 : z < -1000000000
  ·have H:=Lib.hid (cutI_lo h2)
   go_enter Tryz.func124,Tryz.ntmps124
   go_wp2
   go_ret
   exact ⟨by rw [H.out];rfl,rfl⟩
  ·have H:=Lib.hid (cutI_mid (z:=z) (by omega) (by omega))
   go_enter Tryz.func124,Tryz.ntmps124
   go_wp2
   go_ret
   exact ⟨by rw [H.out];rfl,rfl⟩
def RepBt (w : World) (b : Nat) (K : Int) (l : List Int) : Prop:=w.heap[b]? = some (.cells (Value.int .i64 K :: ints l).toArray 50 (0,0))
theorem RepBt.k {w : World} {b : Nat} {K : Int} {l : List Int} (h : RepBt w b K l) : w.cell? ⟨b,0,none⟩ = some (.int .i64 K):=by rw [blk_cell h];simp
theorem RepBt.v {w : World} {b : Nat} {K : Int} {l : List Int} (h : RepBt w b K l) {k : Nat} (hk : k < l.length) : w.cell? ⟨b,1 + k,none⟩ = some (.int .i64 l[k]):=by
 rw [blk_cell h,Nat.add_comm]
 simp [ints,hk]
theorem RepBt.free {w : World} {b : Nat} {K : Int} {l : List Int} (h : RepBt w b K l) (i : Nat) : w.frozen? ⟨b,i,none⟩ = false:=blk_free h i
theorem RepBt.lt {w : World} {b : Nat} {K : Int} {l : List Int} (h : RepBt w b K l) : b < w.heap.size:=blk_lt h
theorem RepBt.set {w : World} {b : Nat} {K : Int} {l : List Int} (h : RepBt w b K l) (k : Nat) (y : Int) : RepBt (w.setCell ⟨b,1 + k,none⟩ (.int .i64 y)) b K (l.set k y):=by
 unfold RepBt
 rw [blk_set h,Nat.add_comm]
 simp [ints,List.map_set]
theorem RepBt.mod {w w' : World} {b : Nat} {K : Int} {l : List Int} {F : List Nat} (h : RepBt w b K l) (hm : Mod F w w') (hd : b ∉ F) : RepBt w' b K l:=hm.keep h hd
end Go.Proofs.YtehjfmjibiafdaaGreat
namespace Go.Proofs.YtehjfmjibiafdaaGreat
open Go Go.RowKit
attribute [local go_sem] AllFrom.cons_eq AllFrom.nil_eq putF_nil putF_cons wantedL_none wantedL_some OpGoalT OpGoalS OpGoalP OpGoalV YieldsR preF_nil preF_cons
def btV (K : Int) (l : List Int) : Value:=.agg (Value.int .i64 K :: ints l).toArray
theorem do_boxes {w w1 : World} {K a0 a1 a2 a3 a4 a5 a6 a7 n t a r s d x : Int} (hb : Below (((w.alloc (.cells #[.int .i64 K,.int .i64 a0,.int .i64 a1,.int .i64 a2,.int .i64 a3,.int .i64 a4,.int .i64 a5,.int .i64 a6,.int .i64 a7] 50)).alloc (.cells #[.int .i64 n,.int .i64 t,.int .i64 a,.int .i64 r,.int .i64 s,.int .i64 d,.int .i64 x] 132)).alloc (.cells #[.int .i64 0,.int .i64 0,.int .i64 0,.int .i64 0,.int .i64 0,.int .i64 0,.int .i64 0,.int .i64 0,.int .i64 0] 50)).heap.size (((w.alloc (.cells #[.int .i64 K,.int .i64 a0,.int .i64 a1,.int .i64 a2,.int .i64 a3,.int .i64 a4,.int .i64 a5,.int .i64 a6,.int .i64 a7] 50)).alloc (.cells #[.int .i64 n,.int .i64 t,.int .i64 a,.int .i64 r,.int .i64 s,.int .i64 d,.int .i64 x] 132)).alloc (.cells #[.int .i64 0,.int .i64 0,.int .i64 0,.int .i64 0,.int .i64 0,.int .i64 0,.int .i64 0,.int .i64 0,.int .i64 0] 50)) w1) :
  w1.heap[w.heap.size]? = some (.cells #[.int .i64 K,.int .i64 a0,.int .i64 a1,.int .i64 a2,.int .i64 a3,.int .i64 a4,.int .i64 a5,.int .i64 a6,.int .i64 a7] 50 (0,0)) ∧ w1.heap[w.heap.size + 1]? = some (.cells #[.int .i64 n,.int .i64 t,.int .i64 a,.int .i64 r,.int .i64 s,.int .i64 d,.int .i64 x] 132 (0,0)) ∧ w1.heap[w.heap.size + 2]? = some (.cells #[.int .i64 0,.int .i64 0,.int .i64 0,.int .i64 0,.int .i64 0,.int .i64 0,.int .i64 0,.int .i64 0,.int .i64 0] 50 (0,0)) ∧ Below w.heap.size w w1 ∧ w.heap.size + 3 ≤ w1.heap.size:=by
 have hs:=hb.size
 simp only [World.size_alloc] at hs
 refine ⟨(hb.block _ (by simp only [World.size_alloc];omega)).trans (blk_alloc (blk_alloc (heap_alloc_new w _) _) _),(hb.block _ (by simp only [World.size_alloc];omega)).trans (blk_alloc (by have:=heap_alloc_new (w.alloc (.cells #[.int .i64 K,.int .i64 a0,.int .i64 a1,.int .i64 a2,.int .i64 a3,.int .i64 a4,.int .i64 a5,.int .i64 a6,.int .i64 a7] 50)) (.cells #[.int .i64 n,.int .i64 t,.int .i64 a,.int .i64 r,.int .i64 s,.int .i64 d,.int .i64 x] 132);simpa using this) _),(hb.block _ (by simp only [World.size_alloc];omega)).trans ?_,?_,by omega⟩
 ·have:=heap_alloc_new ((w.alloc (.cells #[.int .i64 K,.int .i64 a0,.int .i64 a1,.int .i64 a2,.int .i64 a3,.int .i64 a4,.int .i64 a5,.int .i64 a6,.int .i64 a7] 50)).alloc (.cells #[.int .i64 n,.int .i64 t,.int .i64 a,.int .i64 r,.int .i64 s,.int .i64 d,.int .i64 x] 132)) (.cells #[.int .i64 0,.int .i64 0,.int .i64 0,.int .i64 0,.int .i64 0,.int .i64 0,.int .i64 0,.int .i64 0,.int .i64 0] 50)
  simpa using this
 ·exact ((((Below.refl w.heap.size w).alloc (Nat.le_refl _) _).alloc (by simp) _).alloc (by simp;omega) _).trans (hb.mono (by simp;omega))
set_option maxRecDepth 20000 in
set_option maxHeartbeats 4000000 in
theorem do_no (K a0 a1 a2 a3 a4 a5 a6 a7 n t a r s d x : Int) (w : World) (hm : matchesB K n t a = false) :
  Calls Tryz.prog 72 #[.agg #[.int .i64 K,.int .i64 a0,.int .i64 a1,.int .i64 a2,.int .i64 a3,.int .i64 a4,.int .i64 a5,.int .i64 a6,.int .i64 a7],.agg #[.int .i64 n,.int .i64 t,.int .i64 a,.int .i64 r,.int .i64 s,.int .i64 d,.int .i64 x]] w fun e w' => e = .returned (btV K [a0,a1,a2,a3,a4,a5,a6,a7]) ∧ Below w.heap.size w w':=by
 have h1:=fun w => matches_any K n t a w
 rw [hm] at h1
 have H1:=Lib.hid h1
 clear h1 hm
 go_enter Tryz.func72,Tryz.ntmps72
 go_wp2_with fail
 refine (H1.out _).mono ?_
 rintro e w1 ⟨rfl,hb1⟩
 obtain ⟨k2,k3,k4,hbb,hz2⟩:=do_boxes hb1
 have HB:=Lib.hid hbb
 have c0:=blk_cell k2 0
 have c1:=blk_cell k2 1
 have c2:=blk_cell k2 2
 have c3:=blk_cell k2 3
 have c4:=blk_cell k2 4
 have c5:=blk_cell k2 5
 have c6:=blk_cell k2 6
 have c7:=blk_cell k2 7
 have c8:=blk_cell k2 8
 have z0:=blk_cell k4 0
 have z1:=blk_cell k4 1
 have z2:=blk_cell k4 2
 have z3:=blk_cell k4 3
 have z4:=blk_cell k4 4
 have z5:=blk_cell k4 5
 have z6:=blk_cell k4 6
 have z7:=blk_cell k4 7
 have z8:=blk_cell k4 8
 simp only [eA,eZ,eS] at c0 z0 c1 z1 c2 z2 c3 z3 c4 z4 c5 z5 c6 z6 c7 z7 c8 z8
 have f0:=blk_free k4 0
 have f1:=blk_free k4 1
 have f2:=blk_free k4 2
 have f3:=blk_free k4 3
 have f4:=blk_free k4 4
 have f5:=blk_free k4 5
 have f6:=blk_free k4 6
 have f7:=blk_free k4 7
 have f8:=blk_free k4 8
 have l2:=blk_lt k2
 have l4:=blk_lt k4
 clear k2 k3 k4 hbb hb1 H1
 go_wp2
 refine bodyPost_ret (v:=.agg #[.int .i64 K,.int .i64 a0,.int .i64 a1,.int .i64 a2,.int .i64 a3,.int .i64 a4,.int .i64 a5,.int .i64 a6,.int .i64 a7]) (by unfold results;try go_simp) rfl ?_
 refine ⟨rfl,Mod.toBelow (F:=[]) ?_ (by simp) (Nat.le_refl _)⟩
 repeat (refine Mod.setCell ?_ (.inr (by simp only;omega)) _)
 exact Mod.ofBelow HB.out
theorem listNat_any (m n : Nat) (hm : m < 256) (hn : n < 256) (w : World) : Calls Tryz.prog 120 #[.int .i64 (bits .and .i64 (m : Int) (n : Int))] w (MadeInts w.heap.size ((natKinds (m &&& n) 8).map fun (k : Nat) => (k : Int)) w):=by
 rw [and_nat m n hm hn]
 have h:=list_any ((m &&& n : Nat) : Int) w
 rw [low8_nat _ (and_lt256 m n hm)] at h
 exact h
theorem natKinds_len (m n : Nat) : (natKinds m n).length ≤ n:=by
 unfold natKinds
 have:=List.length_filter_le (fun k => m.testBit k) (List.range n)
 simpa using this
theorem wrapBig (z : Int) (h1 : -1000000000000 ≤ z) (h2 : z ≤ 1000000000000) : IntKind.i64.wrap z = z:=by
 by_cases h : 0 ≤ z
 ·have e : z % 2 ^ 64 = z:=Int.emod_eq_of_lt h (by omega)
  simp only [IntKind.wrap,IntKind.bits,IntKind.signed,e,Bool.true_and,decide_eq_true_eq]
  split <;> omega
 ·have e : z % 2 ^ 64 = z + 2 ^ 64:=by
   rw [← Int.add_emod_right]
   exact Int.emod_eq_of_lt (by omega) (by omega)
  simp only [IntKind.wrap,IntKind.bits,IntKind.signed,e,Bool.true_and,decide_eq_true_eq]
  split <;> omega
theorem pRun_len (d : Int) (W : List Nat) (i : Nat) : (pRun d W i).length = 8:=by
 induction i with
 | zero => rfl
 | succ i ih =>
  rw [pRun_succ,pStep]
  repeat (first | (split;(try simpa using ih)) | simpa using ih)
theorem row_kind {w : World} {B : Nat} {A : Option Addr} {q : Nat} {N : List Nat} (h : w.ownsRow B 3 1 (.slice A (N.map fun (k : Nat) => (k : Int)).length q) (N.map fun (k : Nat) => (k : Int)).length (ints (N.map fun (k : Nat) => (k : Int)))) {i : Nat} (hi : i < N.length) :
  ∃ g,A = some ⟨g,0,none⟩ ∧ g < w.heap.size ∧ w.cell? ⟨g,i,none⟩ = some (.int .i64 (N[i] : Int)):=by
 obtain ⟨g,cap,cur,he,-,hb,-⟩:=row_some h (by simp;omega)
 cases he
 refine ⟨g,rfl,blk_lt hb,row_cell h ?_⟩
 simp [ints,hi]
set_option maxRecDepth 20000 in
set_option maxHeartbeats 4000000 in
theorem do_yes2 (Kn rn sn : Nat) (hK : Kn < 256) (hr : rn < 256) (hs : sn < 256) (a0 a1 a2 a3 a4 a5 a6 a7 n t a x : Int) (hx : -1000000 ≤ x ∧ x ≤ 1000000) (hv : ∀ v ∈ [a0,a1,a2,a3,a4,a5,a6,a7],-1000000000 ≤ v ∧ v ≤ 1000000000) (w : World) (hm : matchesB (Kn : Int) n t a = true) :
  Calls Tryz.prog 72 #[.agg #[.int .i64 (Kn : Int),.int .i64 a0,.int .i64 a1,.int .i64 a2,.int .i64 a3,.int .i64 a4,.int .i64 a5,.int .i64 a6,.int .i64 a7],.agg #[.int .i64 n,.int .i64 t,.int .i64 a,.int .i64 (rn : Int),.int .i64 (sn : Int),.int .i64 2,.int .i64 x]] w fun e w' => e = .returned (btV (Kn : Int) ((pRun 2 (natKinds (Kn &&& sn) 8) (natKinds (Kn &&& sn) 8).length).map (srcV [a0,a1,a2,a3,a4,a5,a6,a7] x (sumL [a0,a1,a2,a3,a4,a5,a6,a7] x (natKinds (Kn &&& rn) 8))))) ∧ Below w.heap.size w w':=by
 have h1:=fun w => matches_any (Kn : Int) n t a w
 rw [hm] at h1
 have H1:=Lib.hid h1;have HL1:=Lib.hid (listNat_any Kn sn hK hs);have HL2:=Lib.hid (listNat_any Kn rn hK hr)
 obtain ⟨Hx,Hv⟩:=hid2 hx hv
 clear h1 hm hx hv
 go_enter Tryz.func72,Tryz.ntmps72
 go_wp2_with fail
 refine (H1.out _).mono ?_
 rintro e w1 ⟨rfl,hb1⟩
 obtain ⟨k2,k3,k4,hbb,hz2⟩:=do_boxes hb1
 obtain ⟨HB,K2,K3,K4⟩:=hid4 hbb k2 k3 k4
 have c0:=blk_cell k2 0
 have c1:=blk_cell k2 1
 have c2:=blk_cell k2 2
 have c3:=blk_cell k2 3
 have c4:=blk_cell k2 4
 have c5:=blk_cell k2 5
 have c6:=blk_cell k2 6
 have c7:=blk_cell k2 7
 have c8:=blk_cell k2 8
 have s0:=blk_cell k3 0
 have s1:=blk_cell k3 1
 have s2:=blk_cell k3 2
 have s3:=blk_cell k3 3
 have s4:=blk_cell k3 4
 have s5:=blk_cell k3 5
 have s6:=blk_cell k3 6
 simp only [eA,eZ,eS] at c0 c1 c2 c3 c4 c5 c6 c7 c8 s0 s1 s2 s3 s4 s5 s6
 have l2:=blk_lt k2
 have l3:=blk_lt k3
 have l4:=blk_lt k4
 clear k2 k3 k4 hbb hb1 H1
 go_wp2_with fail
 refine (HL1.out _).mono ?_
 rintro e w2 ⟨v5,rfl,hrow5,hb2⟩
 have k2:=(Mod.ofBelow hb2).keep K2.out (by simp)
 have k3:=(Mod.ofBelow hb2).keep K3.out (by simp)
 have k4:=(Mod.ofBelow hb2).keep K4.out (by simp)
 have HB2:=Lib.hid (HB.out.trans (hb2.mono (by omega)));have K22:=Lib.hid k2;have K23:=Lib.hid k3;have K24:=Lib.hid k4;have HR5:=Lib.hid hrow5
 have hsz2:=hb2.size
 clear c0 c1 c2 c3 c4 c5 c6 c7 c8 s0 s1 s2 s3 s4 s5 s6 l2 l3 l4 hb2 hrow5 HB K2 K3 K4 HL1
 have c0:=blk_cell k2 0
 have c1:=blk_cell k2 1
 have c2:=blk_cell k2 2
 have c3:=blk_cell k2 3
 have c4:=blk_cell k2 4
 have c5:=blk_cell k2 5
 have c6:=blk_cell k2 6
 have c7:=blk_cell k2 7
 have c8:=blk_cell k2 8
 have s0:=blk_cell k3 0
 have s1:=blk_cell k3 1
 have s2:=blk_cell k3 2
 have s3:=blk_cell k3 3
 have s4:=blk_cell k3 4
 have s5:=blk_cell k3 5
 have s6:=blk_cell k3 6
 simp only [eA,eZ,eS] at c0 c1 c2 c3 c4 c5 c6 c7 c8 s0 s1 s2 s3 s4 s5 s6
 have l2:=blk_lt k2
 have l3:=blk_lt k3
 have l4:=blk_lt k4
 clear k2 k3 k4
 obtain ⟨A5,q5,rfl,hq5,-⟩:=row_slice HR5.out
 go_wp2_with fail
 refine (HL2.out _).mono ?_
 rintro e w3 ⟨v6,rfl,hrow6,hb3⟩
 have k2:=(Mod.ofBelow hb3).keep (blk_alloc K22.out _) (by simp)
 have k3:=(Mod.ofBelow hb3).keep (blk_alloc K23.out _) (by simp)
 have k4:=(Mod.ofBelow hb3).keep (blk_alloc K24.out _) (by simp)
 have k6:=(Mod.ofBelow hb3).keep (heap_alloc_new w2 _) (by simp)
 have hrow5:=row_mod (HR5.out.alloc _) (Mod.ofBelow hb3) (by simp)
 have HA5:=Lib.hid (row_lt HR5.out)
 have hsz3:=hb3.size
 simp only [World.size_alloc] at hsz3
 have HB3:=Lib.hid ((HB2.out.alloc HB2.out.size _).trans (hb3.mono (by simp;omega)))
 obtain ⟨K32,K33,K34,K36,HR35,HR36⟩:=hid6 k2 k3 k4 k6 hrow5 hrow6
 clear c0 c1 c2 c3 c4 c5 c6 c7 c8 s0 s1 s2 s3 s4 s5 s6 l2 l3 l4 hb3 hrow5 hrow6 HB2 K22 K23 K24 HL2 HR5
 have c0:=blk_cell k2 0
 have c1:=blk_cell k2 1
 have c2:=blk_cell k2 2
 have c3:=blk_cell k2 3
 have c4:=blk_cell k2 4
 have c5:=blk_cell k2 5
 have c6:=blk_cell k2 6
 have c7:=blk_cell k2 7
 have c8:=blk_cell k2 8
 have s0:=blk_cell k3 0
 have s1:=blk_cell k3 1
 have s2:=blk_cell k3 2
 have s3:=blk_cell k3 3
 have s4:=blk_cell k3 4
 have s5:=blk_cell k3 5
 have s6:=blk_cell k3 6
 simp only [eA,eZ,eS] at c0 c1 c2 c3 c4 c5 c6 c7 c8 s0 s1 s2 s3 s4 s5 s6
 have l2:=blk_lt k2
 have l3:=blk_lt k3
 have l4:=blk_lt k4
 have l6:=blk_lt k6
 clear k2 k3 k4 k6
 obtain ⟨A6,q6,rfl,hq6,-⟩:=row_slice HR36.out
 have hN6:=natKinds_len (Kn &&& rn) 8
 have hlt6 : ∀ k (h : k < (natKinds (Kn &&& rn) 8).length),(natKinds (Kn &&& rn) 8)[k] < 8:=fun k h => natKinds_lt (List.getElem_mem h)
 generalize hNe : natKinds (Kn &&& rn) 8 = N at *
 obtain ⟨Hlt6,HNe⟩:=hid2 hlt6 hNe
 clear hlt6 hNe
 have hBt : RepBt w3 w.heap.size (Kn : Int) [a0,a1,a2,a3,a4,a5,a6,a7]:=K32.out
 have HBt:=Lib.hid hBt
 clear hBt
 obtain ⟨vs,hvs⟩ : ∃ vs,vs = [a0,a1,a2,a3,a4,a5,a6,a7]:=⟨_,rfl⟩
 have hvl : vs.length = 8:=by rw [hvs];rfl
 rw [← hvs] at HBt Hv
 obtain ⟨Hvs,Hvl⟩:=hid2 hvs hvl
 clear hvs hvl
 go_wp2
 go_loop [7,35] (fun sm i => ∃ k : Nat,k ≤ N.length ∧ i = .int .i64 k ∧ sm = .int .i64 (sumL vs x (N.take k))) (fun _ i => N.length - (Go.RowKit.intOf i).toNat)
 case atStart => exact ⟨0,by omega,rfl,rfl⟩
 case round =>
  obtain ⟨k,hk,rfl,rfl⟩:=hrel
  by_cases hlt : k < N.length
  ·obtain ⟨g6,rfl,hg6,ck⟩:=row_kind HR36.out hlt
   have hm8:=Hlt6.out k hlt
   have hss : sumL vs x (N.take (k + 1)) = sumL vs x (N.take k) + vs.getD N[k] 0:=by rw [take_succ_get N k hlt,sumL_snoc]
   have hb0:=sumL_bound (x:=x) Hv.out (N.take k)
   have hb1:=sumL_bound (x:=x) Hv.out (N.take (k + 1))
   rw [List.length_take] at hb0 hb1
   have hxx:=Hx.out
   rw [hss] at hb1
   generalize N[k] = m at *
   have hmv : m < vs.length:=by rw [Hvl.out];exact hm8
   have cm:=HBt.out.v hmv
   have hgd : vs.getD m 0 = vs[m]:=by rw [List.getD_eq_getElem?_getD,List.getElem?_eq_getElem hmv];rfl
   rw [hgd] at hss hb1
   generalize vs[m] = y at *
   generalize sumL vs x (N.take k) = S at *
   have hw:=wrapBig (S + y) (by omega) (by omega)
   have hmi : (m : Int) < 8:=by omega
   have Hss:=Lib.hid hss
   clear hss hb0 hb1 hxx hgd hmv
   go_wp2
   go_round
   case rel => exact ⟨k + 1,by omega,by go_num,by rw [Hss.out]⟩
   case measure => simp [Go.RowKit.intOf];omega
  ·obtain rfl : k = N.length:=by omega
   rw [List.take_length]
   have hS:=sumL_bound (x:=x) Hv.out N
   have hM:=natKinds_len (Kn &&& sn) 8
   have hltM : ∀ k (h : k < (natKinds (Kn &&& sn) 8).length),(natKinds (Kn &&& sn) 8)[k] < 8:=fun k h => natKinds_lt (List.getElem_mem h)
   generalize hMe : natKinds (Kn &&& sn) 8 = M at *
   have h0 : vs = (pRun 2 M 0).map (srcV vs x (sumL vs x N)):=by
    rw [Hvs.out]
    show _ = base8.map _
    simp [base8,srcV]
   have h6 : RepBt w3 w2.heap.size (Kn : Int) ((pRun 2 M 0).map (srcV vs x (sumL vs x N))):=by rw [← h0,Hvs.out];exact K36.out
   obtain ⟨HMe,H6,HltM⟩:=hid3 hMe h6 hltM
   clear hMe h0 h6 hltM hlt
   go_wp2
   trace_state
   go_loopw [48] (fun i wr => ∃ k : Nat,k ≤ M.length ∧ i = .int .i64 k ∧ RepBt wr w2.heap.size (Kn : Int) ((pRun 2 M k).map (srcV vs x (sumL vs x N))) ∧ Mod [w2.heap.size] w3 wr) (fun i _ => M.length - (Go.RowKit.intOf i).toNat)
   case atStart => exact ⟨0,by omega,rfl,H6.out,Mod.refl _ _⟩
   case round =>
    obtain ⟨k,hk,rfl,hrep,hmod⟩:=hrel
    have hsz:=hmod.size
    by_cases hlt : k < M.length
    ·have hr5:=row_mod HR35.out hmod (fun k hk => by have:=HA5.out k hk;simp;omega)
     obtain ⟨g5,rfl,hg5,ck⟩:=row_kind hr5 hlt
     have hm8:=HltM.out k hlt
     have hBt:=HBt.out.mod hmod (by simp;omega)
     have k33:=hmod.keep K33.out (by simp;omega)
     have s5:=blk_cell k33 5
     have s6:=blk_cell k33 6
     simp only [eA,eZ,eS] at s5 s6
     have hps:=pRun_succ 2 M k
     have hpl:=pRun_len 2 M k
     have hgd : M.getD k 0 = M[k]:=by rw [List.getD_eq_getElem?_getD,List.getElem?_eq_getElem hlt];rfl
     unfold pStep at hps
     rw [hgd] at hps
     generalize M[k] = m at *
     have hmv : m < vs.length:=by rw [Hvl.out];exact hm8
     have cm:=hBt.v hmv
     have hvd : vs.getD m 0 = vs[m]:=by rw [List.getD_eq_getElem?_getD,List.getElem?_eq_getElem hmv];rfl
     have om:=hrep.v (k:=m) (by rw [List.length_map,hpl];exact hm8)
     have fm:=hrep.free (1 + m)
     have lo:=hrep.lt
     have lb:=hBt.lt
     have ls:=blk_lt k33
     have hset:=hrep.set m
     generalize ((pRun 2 M k).map (srcV vs x (sumL vs x N)))[m]'(by rw [List.length_map,hpl];exact hm8) = old at om
     have hmi : (m : Int) < 8:=by omega
     have Hps:=Lib.hid hps;have HSet:=Lib.hid hset;have Hvd:=Lib.hid hvd;have HS:=Lib.hid hS;have HX:=Lib.hid Hx.out
     clear hps hset hvd hrep hBt k33 hr5 hgd hpl hS c0 c1 c2 c3 c4 c5 c6 c7 c8 s0 s1 s2 s3 s4
     have Hn:=Lib.hid (show pRun 2 M (k + 1) = (pRun 2 M k).set m 16 by rw [Hps.out];simp)
     generalize sumL vs x N = S at *
     have hfin : RepBt (wr.setCell ⟨w2.heap.size,1 + m,none⟩ (.int .i64 (cutI S))) w2.heap.size (Kn : Int) ((pRun 2 M (k + 1)).map (srcV vs x S)):=by
      rw [Hn.out,List.map_set,show srcV vs x S 16 = cutI S by simp [srcV]]
      exact HSet.out (cutI S)
     have HFin:=Lib.hid hfin
     clear hfin
     go_wp2_with (go_at_call 121;refine (cut_any _ _).mono ?_;rintro e w4 ⟨rfl,rfl⟩)
     go_roundw
     case rel => exact ⟨k + 1,by omega,by go_num,HFin.out,hmod.setCell (.inl (by simp)) _⟩
     case measure => simp [Go.RowKit.intOf];omega
    ·obtain rfl : k = M.length:=by omega
     have hpl:=pRun_len 2 M M.length
     have hk4:=hmod.keep K34.out (by simp;omega)
     have hbel:=HB3.out.trans (hmod.toBelow (B:=w.heap.size) (by simp;omega) (by omega))
     have hRes : ((pRun 2 (natKinds (Kn &&& sn) 8) (natKinds (Kn &&& sn) 8).length).map (srcV [a0,a1,a2,a3,a4,a5,a6,a7] x (sumL [a0,a1,a2,a3,a4,a5,a6,a7] x (natKinds (Kn &&& rn) 8))) = (pRun 2 M M.length).map (srcV vs x (sumL vs x N))):=by rw [HMe.out,HNe.out,Hvs.out]
     obtain ⟨rs,hrs⟩ : ∃ rs,rs = (pRun 2 M M.length).map (srcV vs x (sumL vs x N)):=⟨_,rfl⟩
     have hrl : rs.length = 8:=by rw [hrs,List.length_map,hpl]
     rw [← hrs] at hrep hRes
     obtain ⟨HRep,HK4,HBel⟩:=hid3 hrep hk4 hbel
     clear hrs hpl hrep hk4 hbel hmod hS
     have HRes:=Lib.hid hRes
     clear hRes
     match rs,hrl with
     | [b0,b1,b2,b3,b4,b5,b6,b7],_ =>
      have hr0 : wr.heap[w2.heap.size]? = some (.cells #[.int .i64 (Kn : Int),.int .i64 b0,.int .i64 b1,.int .i64 b2,.int .i64 b3,.int .i64 b4,.int .i64 b5,.int .i64 b6,.int .i64 b7] 50 (0,0)):=HRep.out
      have c0:=blk_cell hr0 0
      have c1:=blk_cell hr0 1
      have c2:=blk_cell hr0 2
      have c3:=blk_cell hr0 3
      have c4:=blk_cell hr0 4
      have c5:=blk_cell hr0 5
      have c6:=blk_cell hr0 6
      have c7:=blk_cell hr0 7
      have c8:=blk_cell hr0 8
      have z0:=blk_cell HK4.out 0
      have z1:=blk_cell HK4.out 1
      have z2:=blk_cell HK4.out 2
      have z3:=blk_cell HK4.out 3
      have z4:=blk_cell HK4.out 4
      have z5:=blk_cell HK4.out 5
      have z6:=blk_cell HK4.out 6
      have z7:=blk_cell HK4.out 7
      have z8:=blk_cell HK4.out 8
      simp only [eA,eZ,eS] at c0 z0 c1 z1 c2 z2 c3 z3 c4 z4 c5 z5 c6 z6 c7 z7 c8 z8
      have f0:=blk_free HK4.out 0
      have f1:=blk_free HK4.out 1
      have f2:=blk_free HK4.out 2
      have f3:=blk_free HK4.out 3
      have f4:=blk_free HK4.out 4
      have f5:=blk_free HK4.out 5
      have f6:=blk_free HK4.out 6
      have f7:=blk_free HK4.out 7
      have f8:=blk_free HK4.out 8
      have lr:=blk_lt hr0
      have l4:=blk_lt HK4.out
      clear hr0
      go_wp2
      refine bodyPost_ret (v:=.agg #[.int .i64 (Kn : Int),.int .i64 b0,.int .i64 b1,.int .i64 b2,.int .i64 b3,.int .i64 b4,.int .i64 b5,.int .i64 b6,.int .i64 b7]) (by unfold results;try go_simp) rfl ?_
      refine ⟨by rw [HRes.out];rfl,?_⟩
      refine Mod.toBelow (F:=[]) ?_ (by simp) (Nat.le_refl _)
      repeat (refine Mod.setCell ?_ (.inr (by simp only;omega)) _)
      exact Mod.ofBelow HBel.out
end Go.Proofs.YtehjfmjibiafdaaGreat
