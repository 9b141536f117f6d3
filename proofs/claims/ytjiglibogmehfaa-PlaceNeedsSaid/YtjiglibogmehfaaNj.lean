/-
  THE SECOND ENGINE, tenth part: maps whose keys are structs; ranging over them. No program in sight.
-/
import Derived.Test.YtjiglibogmehfaaVtypes
import Derived.Maps.RangeRun
set_option linter.all false
set_option maxRecDepth 100000
namespace Go.Proofs.Ytjiglibogmehfaa
open Go.RowKit

/-- a block that holds just this -/
structure obA (g : Nat) (o : Obj) (h : Hp) : Prop where
  eq : h = hone g o
class FOb (L : List Assn) (g : Nat) (o : outParam Obj) : Prop where
  get : obA g o ∈ L
section
variable {L L' M : List Assn} {A B : Assn} {g : Nat} {o : Obj}
instance FOb.hd : FOb (obA g o :: L) g o := ⟨by simp⟩
instance FOb.tl [h : FOb L g o] : FOb (B :: L) g o := ⟨List.mem_cons_of_mem _ h.get⟩
theorem ec [h' : Pk L A L'] (k : Ent L' M) : Ent L (A :: M) := Ent.cons (h' := k)
theorem FOb.at {w0 w : World} {X : Nat → Prop} (h : FOb L g o) (hw : St w0 X L w) : w.heap[g]? = some o := by
  obtain ⟨k, ⟨rfl⟩, hs⟩ := hw.getM h.get
  exact hs.one
theorem St.newOb {w0 w : World} {X : Nat → Prop} (hw : St w0 X L w) (o : Obj) : St w0 X (obA w.heap.size o :: L) (w.alloc o) :=
  hw.grow rfl rfl rfl (by simp) (fun b hb => Below.heap_alloc w _ b hb) ⟨_, ⟨rfl⟩, Sub.of_one (heap_alloc_new w _), fun b hb => by rw [hone_ne hb]; exact Nat.le_refl _⟩
theorem St.putOb {w0 w w' : World} {X : Nat → Prop} {i : Nat} {A' : Assn} {o' : Obj} (hw : St w0 X L w) (hi : L[i]? = some A) (hA : ∀ k, A k → k g ≠ none) (hA' : A' (hone g o')) (ho : w'.os = w.os) (ht : (w'.tape, w'.drawn) = (w.tape, w.drawn)) (hu : w'.output = w.output) (hz : w'.heap.size = w.heap.size) (hg : w'.heap[g]? = some o') (hk : ∀ b, b ≠ g → w'.heap[b]? = w.heap[b]?) : St w0 X (A' :: L.eraseIdx i) w' := by
  refine hw.step hi ho ht hu (by omega) fun k hk' hs' => ⟨hone g o', hA', Sub.of_one hg, fun b hb => .inl (by rw [hone_ne hb]; exact hA k hk'), fun b _ hb => hk b (by rintro rfl; exact hA k hk' hb)⟩
end
/-! maps: abstract entries in the order in which they came -/
class MKey (P : Program) (kt : TypeId) {K : Type} (R : Rep K) : Prop where
  flat : flatB P kt = true
  inj : ∀ a b, Go.Proofs.Ytjiglibogmehfaa.flat (R.sg a) = Go.Proofs.Ytjiglibogmehfaa.flat (R.sg b) → a = b
section
variable {P : Program} {kt et : TypeId} {K β : Type} {R : Rep K} {V : β → Value} {m : List (K × β)} {es : Array MapEntry} {clock : Nat}
def kv_ (R : Rep K) (V : β → Value) (p : K × β) : Value × Value := (Ag (R.sg p.1), V p.2)
structure MpOk (P : Program) (kt : TypeId) (R : Rep K) (V : β → Value) (m : List (K × β)) (es : Array MapEntry) (clock : Nat) : Prop where
  kvs : kvs es.toList = m.map (kv_ R V)
  key : ∀ p ∈ m, KV P kt (flat (R.sg p.1))
  nod : (m.map (·.1)).Nodup
  born : (es.toList.map (·.born)).Nodup
  old : ∀ e ∈ es.toList, e.born < clock
class MpOkC (P : Program) (kt : TypeId) (R : outParam (Rep K)) (V : outParam (β → Value)) (m : outParam (List (K × β))) (es : Array MapEntry) (clock : Nat) : Prop where
  h : MpOk P kt R V m es clock
structure mpA (P : Program) (kt : TypeId) (R : Rep K) (V : β → Value) (r : Nat) (m : List (K × β)) (h : Hp) : Prop where
  is : ∃ es clock, h = hone r (.map es clock) ∧ MpOk P kt R V m es clock
/-- a map of which an entry was just asked for by number -/
structure mpS (P : Program) (kt : TypeId) (R : Rep K) (V : β → Value) (r : Nat) (m : List (K × β)) (k : K) (st : Nat) (h : Hp) : Prop where
  is : ∃ es clock, h = hone r (.map es clock) ∧ MpOk P kt R V m es clock ∧ ∃ e ∈ es.toList, e.born = st ∧ e.key = Ag (R.sg k)
class Mp (w0 : World) (X : Nat → Prop) (L : List Assn) (r : Nat) (P : outParam Program) (kt : outParam TypeId) {K : outParam Type} {β : outParam Type} (R : outParam (Rep K)) (V : outParam (β → Value)) (m : outParam (List (K × β))) : Prop where
  get : ∀ w, St w0 X L w → ∃ es clock, w.heap[r]? = some (.map es clock) ∧ MpOk P kt R V m es clock
class FMp (L : List Assn) (r : Nat) (P : outParam Program) (kt : outParam TypeId) {K : outParam Type} {β : outParam Type} (R : outParam (Rep K)) (V : outParam (β → Value)) (m : outParam (List (K × β))) : Prop where
  get : mpA P kt R V r m ∈ L
section
variable {w0 : World} {X : Nat → Prop} {L : List Assn} {r : Nat} {B : Assn}
instance FMp.hd : FMp (mpA P kt R V r m :: L) r P kt R V m := ⟨by simp⟩
instance FMp.tl [h : FMp L r P kt R V m] : FMp (B :: L) r P kt R V m := ⟨List.mem_cons_of_mem _ h.get⟩
instance Mp.of [h : FMp L r P kt R V m] : Mp w0 X L r P kt R V m := ⟨fun w hw => by
  obtain ⟨k, ⟨es, clock, rfl, ok⟩, hs⟩ := hw.getM h.get
  exact ⟨es, clock, hs.one, ok⟩⟩
set_option synthInstance.checkSynthOrder false in
instance Mp.ob [h : FOb L r (.map es clock)] [ok : MpOkC P kt R V m es clock] : Mp w0 X L r P kt R V m := ⟨fun w hw => ⟨es, clock, h.at hw, ok.h⟩⟩
end
variable [DecidableEq K]
def mlook (m : List (K × β)) (k : K) : Option β := (m.find? fun p => decide (p.1 = k)).map (·.2)
def mhas (m : List (K × β)) (k : K) : Prop := k ∈ m.map (·.1)
instance {m : List (K × β)} {k : K} : Decidable (mhas m k) := by unfold mhas; infer_instance
def mset (m : List (K × β)) (k : K) (v : β) : List (K × β) := m.map fun p => if p.1 = k then (k, v) else p
def mtouch (m : List (K × β)) (k : K) (z : β) : List (K × β) := if mhas m k then m else m ++ [(k, z)]
theorem Ag_inj {a b : List Cs} (h : Ag a = Ag b) : flat a = flat b := by simpa using h
theorem mget_kv (hK : MKey P kt R) (m : List (K × β)) (k : K) : mget (m.map (kv_ R V)) (Ag (R.sg k)) = (mlook m k).map V := by
  classical
  induction m with
  | nil => rfl
  | cons p m ih =>
    unfold mget mlook at ih ⊢
    rw [List.map_cons, List.find?_cons, List.find?_cons]
    by_cases h : p.1 = k
    · subst h; simp [kv_]
    · have h1 : ¬ ((kv_ R V p).1 = Ag (R.sg k)) := fun e => h (hK.inj _ _ (Ag_inj e))
      simp only [h, h1, decide_false]
      exact ih
theorem kv_key [hK : MKey P kt R] (ok : MpOk P kt R V m es clock) : ∀ p ∈ kvs es.toList, ∃ q, keyOf P kt p.1 = some q := fun p hp => by
  rw [ok.kvs] at hp
  obtain ⟨x, hx, rfl⟩ := List.mem_map.1 hp
  exact (ok.key x hx).key hK.flat
theorem kv_nod [hK : MKey P kt R] (ok : MpOk P kt R V m es clock) : ((kvs es.toList).map (·.1)).Nodup := by
  rw [ok.kvs, List.map_map]
  have e : ((fun x : Value × Value => x.1) ∘ kv_ R V) = (fun k => Ag (R.sg k)) ∘ (fun p : K × β => p.1) := rfl
  rw [e, ← List.map_map]
  exact List.Pairwise.map _ (fun a b hab e => hab (hK.inj _ _ (Ag_inj e))) ok.nod
theorem find_ok [hK : MKey P kt R] (ok : MpOk P kt R V m es clock) (w : World) {k : K} (hk : KV P kt (flat (R.sg k))) :
    ((Instr.findKey kt (Ag (R.sg k)) es.toList).run P w = .ok none w ∧ mlook m k = none) ∨ ∃ j e v, (Instr.findKey kt (Ag (R.sg k)) es.toList).run P w = .ok (some (j, V v)) w ∧ es[j]? = some e ∧ e.key = Ag (R.sg k) ∧ e.val = V v ∧ mlook m k = some v := by
  obtain ⟨q, hq⟩ := hk.key hK.flat
  rcases find_kvs w hK.flat hq (kv_key ok) (kv_nod ok) with ⟨h1, h2⟩ | ⟨j, e, h1, h2, h3, h4⟩
  · rw [ok.kvs, mget_kv hK] at h2
    exact .inl ⟨h1, by simpa using h2⟩
  · rw [ok.kvs, mget_kv hK] at h4
    obtain ⟨v, h5, h6⟩ := Option.map_eq_some_iff.1 h4
    exact .inr ⟨j, e, v, by rw [h6]; exact h1, by simpa using h2, h3, h6.symm, h5⟩
theorem mlook_has {m : List (K × β)} {k : K} : mhas m k ↔ (mlook m k).isSome = true := by
  unfold mhas mlook
  rw [Option.isSome_map, List.find?_isSome]
  simp
theorem mlook_none {m : List (K × β)} {k : K} : mlook m k = none ↔ ¬ mhas m k := by rw [mlook_has]; simp
theorem run_lookup1 [hK : MKey P kt R] {w : World} {r : Nat} {t : TypeId} {k : K} {z0 : β} (ht : P.underlying t = some (.map kt et)) (hr : w.heap[r]? = some (.map es clock)) (ok : MpOk P kt R V m es clock) (hk : KV P kt (flat (R.sg k))) (hz : zeroB P et = some (V z0)) :
    (Instr.lookup t (.map (some r)) (Ag (R.sg k)) false).run P w = .ok (V ((mlook m k).getD z0)) w := by
  obtain ⟨q, hq⟩ := hk.key hK.flat
  have hc := (flatB_law hK.flat).check w es.isEmpty hq
  rcases find_ok ok w hk with ⟨h1, h2⟩ | ⟨j, e, v, h1, h2, h3, h4, h5⟩
  · simp only [Instr.lookup, Sem.run_bind, run_underlying ht, Result.andThen_ok, MapKept.run_getObj_map hr, hc, Sem.run_pure, h1, h2, run_zeroValue hz]; rfl
  · simp only [Instr.lookup, Sem.run_bind, run_underlying ht, Result.andThen_ok, MapKept.run_getObj_map hr, hc, Sem.run_pure, h1, h5]; rfl
theorem run_lookup2 [hK : MKey P kt R] {w : World} {r : Nat} {t : TypeId} {k : K} {z0 : β} (ht : P.underlying t = some (.map kt et)) (hr : w.heap[r]? = some (.map es clock)) (ok : MpOk P kt R V m es clock) (hk : KV P kt (flat (R.sg k))) (hz : zeroB P et = some (V z0)) :
    (Instr.lookup t (.map (some r)) (Ag (R.sg k)) true).run P w = .ok (.tuple #[V ((mlook m k).getD z0), .bool (mlook m k).isSome]) w := by
  obtain ⟨q, hq⟩ := hk.key hK.flat
  have hc := (flatB_law hK.flat).check w es.isEmpty hq
  rcases find_ok ok w hk with ⟨h1, h2⟩ | ⟨j, e, v, h1, h2, h3, h4, h5⟩
  · simp only [Instr.lookup, Sem.run_bind, run_underlying ht, Result.andThen_ok, MapKept.run_getObj_map hr, hc, Sem.run_pure, h1, h2, run_zeroValue hz]; rfl
  · simp only [Instr.lookup, Sem.run_bind, run_underlying ht, Result.andThen_ok, MapKept.run_getObj_map hr, hc, Sem.run_pure, h1, h5]; rfl
/-! what an update leaves -/
theorem ok_push [hK : MKey P kt R] (ok : MpOk P kt R V m es clock) {k : K} {v : β} (hk : KV P kt (flat (R.sg k))) (hn : ¬ mhas m k) : MpOk P kt R V (m ++ [(k, v)]) (es.push { key := Ag (R.sg k), val := V v, born := clock }) (clock + 1) := by
  refine ⟨?_, fun p hp => ?_, ?_, ?_, fun e he => ?_⟩
  · have := ok.kvs
    simp only [kvs, Array.toList_push, List.map_append, List.map_cons, List.map_nil] at this ⊢
    rw [this]; rfl
  · rcases List.mem_append.1 hp with hp | hp
    · exact ok.key p hp
    · rw [List.mem_singleton.1 hp]; exact hk
  · rw [List.map_append, List.nodup_append]
    refine ⟨ok.nod, by simp, fun a ha b hb => ?_⟩
    simp only [List.map_cons, List.map_nil, List.mem_singleton] at hb
    subst hb; rintro rfl; exact hn ha
  · rw [Array.toList_push, List.map_append, List.nodup_append]
    refine ⟨ok.born, by simp, fun a ha b hb => ?_⟩
    simp only [List.map_cons, List.map_nil, List.mem_singleton] at hb
    subst hb; rintro rfl
    obtain ⟨e, he, h1⟩ := List.mem_map.1 ha
    have := ok.old e he; omega
  · rw [Array.toList_push] at he
    rcases List.mem_append.1 he with he | he
    · have := ok.old e he; omega
    · rw [List.mem_singleton.1 he]; exact Nat.lt_succ_self _
theorem mset_keys (m : List (K × β)) (k : K) (v : β) : (mset m k v).map (·.1) = m.map (·.1) := by
  unfold mset
  rw [List.map_map]
  apply List.map_congr_left
  intro p _
  simp only [Function.comp]
  split
  · rename_i h; exact h.symm
  · rfl
theorem ok_modify [hK : MKey P kt R] (ok : MpOk P kt R V m es clock) {j : Nat} {e : MapEntry} {k : K} {v : β} (hj : es[j]? = some e) (he : e.key = Ag (R.sg k)) : MpOk P kt R V (mset m k v) (es.modify j fun e => { e with key := Ag (R.sg k), val := V v }) clock := by
  have hb : (es.modify j fun e => { e with key := Ag (R.sg k), val := V v }).toList.map (·.born) = es.toList.map (·.born) := by
    rw [Array.toList_modify]
    apply List.ext_getElem?
    intro i
    simp only [List.getElem?_map, List.getElem?_modify]
    cases es.toList[i]? with
    | none => simp
    | some x => by_cases h : j = i <;> simp [h]
  have hmem : Ag (R.sg k) ∈ (kvs es.toList).map (·.1) := by
    rw [kvs_keys]
    exact List.mem_map.2 ⟨e, List.mem_of_getElem? (by simpa using hj), he⟩
  refine ⟨?_, fun p hp => ?_, by rw [mset_keys]; exact ok.nod, by rw [hb]; exact ok.born, fun e' he' => ?_⟩
  · rw [modify_kvs hj he (kv_nod ok), ok.kvs]
    rw [ok.kvs] at hmem
    classical
    unfold mput
    rw [if_pos hmem]
    unfold mset
    rw [List.map_map, List.map_map]
    apply List.map_congr_left
    intro p _
    simp only [Function.comp]
    by_cases h : p.1 = k
    · rw [if_pos h, if_pos (by rw [kv_, h])]; rfl
    · rw [if_neg h, if_neg (show ¬ (kv_ R V p).1 = Ag (R.sg k) from fun e => h (hK.inj _ _ (Ag_inj e)))]
  · unfold mset at hp
    obtain ⟨x, hx, rfl⟩ := List.mem_map.1 hp
    split
    · rename_i h; have := ok.key x hx; rw [h] at this; exact this
    · exact ok.key x hx
  · have : e'.born ∈ es.toList.map (·.born) := by rw [← hb]; exact List.mem_map.2 ⟨e', he', rfl⟩
    obtain ⟨x, hx, h1⟩ := List.mem_map.1 this
    rw [← h1]; exact ok.old x hx
end
/-! the operations -/
/-- the value of an entry, as an operand's value -/
class VIs {β : Type} (V : β → Value) (u : Value) (v : outParam β) : Prop where
  h : V v = u
class VOf {β : Type} (V : β → Value) (v : β) (u : outParam Value) : Prop where
  h : V v = u
class VZ (P : Program) (et : TypeId) {β : Type} (V : β → Value) (z : outParam β) : Prop where
  h : zeroB P et = some (V z)
abbrev VInt : Int → Value := fun i => .int .i64 i
instance {i : Int} : VIs VInt (.int .i64 i) i := ⟨rfl⟩
instance {i : Int} : VOf VInt i (.int .i64 i) := ⟨rfl⟩
class FMs (L : List Assn) (r : Nat) (P : outParam Program) (kt : outParam TypeId) {K : outParam Type} {β : outParam Type} (R : outParam (Rep K)) (V : outParam (β → Value)) (m : outParam (List (K × β))) (k : outParam K) (st : outParam Nat) : Prop where
  get : mpS P kt R V r m k st ∈ L
/-- a map under range, with its iterator: what came is done -/
structure rgA (P : Program) (kt : TypeId) {K β : Type} (R : Rep K) (V : β → Value) (it r : Nat) (m done : List (K × β)) (h : Hp) : Prop where
  is : ∃ es clock seen left, h = hun (hone it (.mapIter (some r) clock seen clock)) (hone r (.map es clock)) ∧ it ≠ r ∧ MpOk P kt R V m es clock ∧ left.map (kv_ R V) = kvs (leftOf es seen).toList ∧ (done ++ left).Perm m ∧ ∀ d p, done = d ++ [p] → ∃ (s0 : Array Nat) (e : MapEntry), seen = s0.push e.born ∧ e ∈ es.toList ∧ (e.key, e.val) = kv_ R V p
class FRg (L : List Assn) (it : Nat) (r : outParam Nat) (P : outParam Program) (kt : outParam TypeId) {K : outParam Type} {β : outParam Type} (R : outParam (Rep K)) (V : outParam (β → Value)) (m done : outParam (List (K × β))) : Prop where
  get : rgA P kt R V it r m done ∈ L
class FRm (L : List Assn) (r : Nat) (it : outParam Nat) (P : outParam Program) (kt : outParam TypeId) {K : outParam Type} {β : outParam Type} (R : outParam (Rep K)) (V : outParam (β → Value)) (m done : outParam (List (K × β))) : Prop where
  get : rgA P kt R V it r m done ∈ L
section
variable {P : Program} {n : Nat} {w0 : World} {X : Nat → Prop} {Q : Cont} {E : Env} {L : List Assn} {s : Ms} {ops : Array Oper} {rest : List Oper} {d : Nat} {ty : TypeId} {pos : String} {aft : Array Edge}
variable {K β : Type} {R : Rep K} {V : β → Value} {m done : List (K × β)} {x ix : Operand} {t kt et : TypeId} {r it : Nat} {s' : List Cs} {p : Prop} {z0 : β} {B : Assn}
instance FMs.hd {k : K} {st : Nat} : FMs (mpS P kt R V r m k st :: L) r P kt R V m k st := ⟨by simp⟩
instance FMs.tl {k : K} {st : Nat} [h : FMs L r P kt R V m k st] : FMs (B :: L) r P kt R V m k st := ⟨List.mem_cons_of_mem _ h.get⟩
instance FRg.hd : FRg (rgA P kt R V it r m done :: L) it r P kt R V m done := ⟨by simp⟩
instance FRg.tl [h : FRg L it r P kt R V m done] : FRg (B :: L) it r P kt R V m done := ⟨List.mem_cons_of_mem _ h.get⟩
instance FRm.hd : FRm (rgA P kt R V it r m done :: L) r it P kt R V m done := ⟨by simp⟩
instance FRm.tl [h : FRm L r it P kt R V m done] : FRm (B :: L) r it P kt R V m done := ⟨List.mem_cons_of_mem _ h.get⟩
theorem hone_self' {g : Nat} {o : Obj} : hone g o g = some o := by simp [hone]
theorem rg_sub {it r : Nat} {o1 o2 : Obj} {w : World} (hne : it ≠ r) (h : Sub (hun (hone it o1) (hone r o2)) w) : w.heap[it]? = some o1 ∧ w.heap[r]? = some o2 :=
  ⟨h it o1 (by simp [hun, hone]), h r o2 (by simp [hun, hone, Ne.symm hne])⟩
set_option synthInstance.checkSynthOrder false in
instance Mp.rg [h : FRm L r it P kt R V m done] : Mp w0 X L r P kt R V m := ⟨fun w hw => by
  obtain ⟨k, ⟨es, clock, seen, left, rfl, hne, ok, _⟩, hs⟩ := hw.getM h.get
  exact ⟨es, clock, (rg_sub hne hs).2, ok⟩⟩
variable [DecidableEq K]
theorem key_eq {k : K} [hk : Elm R (Ag s') k] : Ag s' = Ag (R.sg k) := by
  have := hk.h
  simp only [Value.cells] at this
  unfold Ag
  rw [this]
theorem key_kv {k : K} [hk : Elm R (Ag s') k] [hq : KVc P kt s' p] (hp : Pre p) : KV P kt (flat (R.sg k)) := by
  have := hk.h
  simp only [Value.cells] at this
  rw [this]
  simpa using hq.h hp.h
theorem gMk {e : TypeId} (R : Rep K) (V : β → Value) (ht : P.underlying t = some (.map kt e)) (hd : Nat.blt d n = true) (hD : ∀ r, Dm w0 X ops s (mpA P kt R V r [] :: L))
    (k : ∀ r, GO P n w0 X (nextM s) ops rest Q ((d, .map (some r)) :: E) (mpA P kt R V r [] :: L)) : GO P n w0 X s ops (⟨some d, .makeMap t none, ty, pos, aft, none⟩ :: rest) Q E L := by
  refine go_hv (ρ := Nat) (φ := fun _ => True) rfl (fun w hw rest Q k => ?_) (fun g _ => hD g) (fun g _ => k g)
  refine tl_run (fun a ha => by simp only [execOp, Instr.makeMap, newObj]; rfl) hd (k w.heap.size _ trivial ?_)
  exact hw.grow (A' := mpA P kt R V w.heap.size []) rfl rfl rfl (by simp) (fun b hb => Below.heap_alloc w _ b hb) ⟨hone w.heap.size (.map #[] 0), ⟨_, _, rfl, by simp [kvs], by simp, by simp, by simp, by simp⟩, Sub.of_one (heap_alloc_new w _), fun b hb => by rw [hone_ne hb]; exact Nat.le_refl _⟩
theorem gMl {k : K} {u : Value} (hx : eev E x = some (.map (some r))) (hix : eev E ix = some (Ag s')) [hm : Mp w0 X L r P kt R V m] (ht : P.underlying t = some (.map kt et)) [hK : MKey P kt R] [hk : Elm R (Ag s') k] [hq : KVc P kt s' p] [hz : VZ P et V z0] [hV : VOf V ((mlook m k).getD z0) u] (hp : Pre p) (hd : Nat.blt d n = true)
    (K : GO P n w0 X (loadM (fun w => (Instr.lookup t (.map (some r)) (Ag s') false).run P w = .ok u w) s) ops rest Q ((d, u) :: E) L) : GO P n w0 X s ops (⟨some d, .lookup t x ix false, ty, pos, aft, none⟩ :: rest) Q E L :=
  go_look (fun w => (Instr.lookup t (.map (some r)) (Ag s') false).run P w = .ok u w) rfl (fun w hw => by
    obtain ⟨es, clock, h1, ok⟩ := hm.get w hw
    rw [key_eq (R := R) (k := k), ← hV.h]
    exact run_lookup1 ht h1 ok (key_kv (R := R) (k := k) (s' := s') hp) hz.h) (fun w hw => ⟨fun a ha => by simp [execOp, ha.ev hx, ha.ev hix, hw]⟩) hd K
theorem gMl2 {k : K} {u : Value} (hx : eev E x = some (.map (some r))) (hix : eev E ix = some (Ag s')) [hm : Mp w0 X L r P kt R V m] (ht : P.underlying t = some (.map kt et)) [hK : MKey P kt R] [hk : Elm R (Ag s') k] [hq : KVc P kt s' p] [hz : VZ P et V z0] [hV : VOf V ((mlook m k).getD z0) u] (hp : Pre p) (hd : Nat.blt d n = true)
    (K : GO P n w0 X (loadM (fun w => (Instr.lookup t (.map (some r)) (Ag s') true).run P w = .ok (.tuple #[u, .bool (mlook m k).isSome]) w) s) ops rest Q ((d, .tuple #[u, .bool (mlook m k).isSome]) :: E) L) : GO P n w0 X s ops (⟨some d, .lookup t x ix true, ty, pos, aft, none⟩ :: rest) Q E L :=
  go_look (fun w => (Instr.lookup t (.map (some r)) (Ag s') true).run P w = .ok (.tuple #[u, .bool (mlook m k).isSome]) w) rfl (fun w hw => by
    obtain ⟨es, clock, h1, ok⟩ := hm.get w hw
    rw [key_eq (R := R) (k := k), ← hV.h]
    exact run_lookup2 ht h1 ok (key_kv (R := R) (k := k) (s' := s') hp) hz.h) (fun w hw => ⟨fun a ha => by simp [execOp, ha.ev hx, ha.ev hix, hw]⟩) hd K
theorem hone_dom {g : Nat} {o : Obj} {k : Hp} (h : k = hone g o) : k g ≠ none := by rw [h]; simp [hone]
theorem mpA_put {A' : Assn} {w w' : World} {i : Nat} {o : Obj} (hw : St w0 X L w) (hi : L[i]? = some (mpA P kt R V r m)) (hA : A' (hone r o)) (hr : ∃ o, w.heap[r]? = some o) (hw' : w' = { w with heap := w.heap.setIfInBounds r o }) : St w0 X (A' :: L.eraseIdx i) w' := by
  subst hw'
  obtain ⟨o', hr⟩ := hr
  have hlt : r < w.heap.size := (Array.getElem?_eq_some_iff.1 hr).1
  refine hw.putOb hi (fun k hk => by obtain ⟨es, clock, rfl, _⟩ := hk.is; simp [hone]) hA rfl rfl rfl (by simp) (by simp [hlt]) (fun b hb => by simp [Array.getElem?_setIfInBounds, Ne.symm hb])
theorem mpS_put {A' : Assn} {k : K} {st : Nat} {w w' : World} {i : Nat} {o : Obj} (hw : St w0 X L w) (hi : L[i]? = some (mpS P kt R V r m k st)) (hA : A' (hone r o)) (hr : ∃ o, w.heap[r]? = some o) (hw' : w' = { w with heap := w.heap.setIfInBounds r o }) : St w0 X (A' :: L.eraseIdx i) w' := by
  subst hw'
  obtain ⟨o', hr⟩ := hr
  have hlt : r < w.heap.size := (Array.getElem?_eq_some_iff.1 hr).1
  refine hw.putOb hi (fun k hk => by obtain ⟨es, clock, rfl, _⟩ := hk.is; simp [hone]) hA rfl rfl rfl (by simp) (by simp [hlt]) (fun b hb => by simp [Array.getElem?_setIfInBounds, Ne.symm hb])
theorem gMe {k : K} {u : Value} {F : Assn → List Assn} (hx : eev E x = some (.map (some r))) (hix : eev E ix = some (Ag s')) [hm : FMp L r P kt R V m] (ht : P.underlying t = some (.map kt et)) [hK : MKey P kt R] [hk : Elm R (Ag s') k] [hq : KVc P kt s' p] [hz : VZ P et V z0] [hV : VOf V ((mlook m k).getD z0) u] [hF : UpdF L (mpA P kt R V r m) F] (hp : Pre p) (hd : Nat.blt d n = true)
    (hD : ∀ st, Dm w0 X ops s (F (mpS P kt R V r (mtouch m k z0) k st)))
    (K : ∀ st : Nat, GO P n w0 X (nextM s) ops rest Q ((d, .tuple #[u, .int .i64 (st : Int)]) :: E) (F (mpS P kt R V r (mtouch m k z0) k st))) : GO P n w0 X s ops (⟨some d, .mapEntry t x ix, ty, pos, aft, none⟩ :: rest) Q E L := by
  refine go_hv (ρ := Nat) (φ := fun _ => True) rfl (fun w hw rest Q k' => ?_) (fun g _ => hD g) (fun g _ => K g)
  have hkk := key_kv (R := R) (k := k) (s' := s') (P := P) (kt := kt) hp
  obtain ⟨kk, ⟨es, clock, rfl, ok⟩, hs⟩ := hw.getM hm.get
  have hr := hs.one
  obtain ⟨q, hqq⟩ := hkk.key hK.flat
  have hc := (flatB_law hK.flat).check w false hqq
  rcases find_ok ok w hkk with ⟨h1, h2⟩ | ⟨j, e, v, h1, h2, h3, h4, h5⟩
  · have hn := mlook_none.1 h2
    refine tl_run (w' := { w with heap := w.heap.setIfInBounds r (.map (es.push { key := Ag (R.sg k), val := V z0, born := clock }) (clock + 1)) }) (fun a ha => ?_) hd (k' clock _ trivial (hF.st fun i hi => mpA_put hw hi ⟨_, _, rfl, ?_, { key := Ag (R.sg k), val := V z0, born := clock }, by simp, rfl, rfl⟩ ⟨_, hr⟩ rfl))
    · rw [key_eq (R := R) (k := k)] at hix
      rw [← hV.h, h2]
      simp only [execOp, ha.ev hx, ha.ev hix, Instr.mapEntry, Sem.run_bind, run_underlying ht, Result.andThen_ok, MapKept.run_getObj_map hr, hc, h1, run_zeroValue hz.h, MapKept.run_setObj_map _ hr]; rfl
    · unfold mtouch; rw [if_neg hn]; exact ok_push ok hkk hn
  · have h5' : mhas m k := mlook_has.2 (by rw [h5]; rfl)
    have hst : (Instr.keyThatStays (Ag (R.sg k)) (Ag (R.sg k))).run P w = .ok (Ag (R.sg k)) w := (flatB_law hK.flat).stays w hqq
    have hes : (es.modify j fun e => { e with key := Ag (R.sg k) }) = es.modify j fun e => { e with key := Ag (R.sg k), val := V v } := by
      apply Array.ext_getElem?
      intro i
      simp only [Array.getElem?_modify]
      split
      · rename_i hji; subst hji; rw [h2]; simp [h4]
      · rfl
    have hse : es = es.modify j fun e => { e with key := Ag (R.sg k), val := V v } := by
      apply Array.ext_getElem?
      intro i
      simp only [Array.getElem?_modify]
      split
      · rename_i hji; subst hji; rw [h2]; cases e; simp_all
      · rfl
    refine tl_run (w' := { w with heap := w.heap.setIfInBounds r (.map es clock) }) (fun a ha => ?_) hd (k' e.born _ trivial (hF.st fun i hi => mpA_put hw hi ⟨_, _, rfl, ?_, e, List.mem_of_getElem? (by simpa using h2), rfl, h3⟩ ⟨_, hr⟩ rfl))
    · rw [key_eq (R := R) (k := k)] at hix
      rw [← hV.h, h5]
      simp only [execOp, ha.ev hx, ha.ev hix, Instr.mapEntry, Sem.run_bind, run_underlying ht, Result.andThen_ok, MapKept.run_getObj_map hr, hc, h1, h2, Option.map_some, Option.getD_some, h3, hst, hes, ← hse, MapKept.run_setObj_map _ hr]; rfl
    · unfold mtouch; rw [if_pos h5']; exact ok
theorem gMs {y sx : Operand} {k : K} {st : Nat} {kk : IntKind} {i : Int} {v : β} {u : Value} {F : Assn → List Assn} (hx : eev E x = some (.map (some r))) (hs : eev E sx = some (.int kk i)) (hy : eev E y = some u) [hm : FMs L r P kt R V m k st] (hi : i = (st : Int)) [hK : MKey P kt R] [hV : VIs V u v] [hF : UpdF L (mpS P kt R V r m k st) F]
    (hD : Dm w0 X ops s (F (mpA P kt R V r (mset m k v)))) (K : GO P n w0 X (nextM s) ops rest Q E (F (mpA P kt R V r (mset m k v)))) : GO P n w0 X s ops (⟨none, .entryStore t x sx y, ty, pos, aft, none⟩ :: rest) Q E L := by
  subst hi
  refine go_hv (ρ := Unit) (E' := fun _ => E) (L' := fun _ => F (mpA P kt R V r (mset m k v))) (φ := fun _ => True) rfl (fun w hw rest Q k' => ?_) (fun _ _ => hD) (fun _ _ => K)
  obtain ⟨kk, ⟨es, clock, rfl, ok, e, he, hb, hek⟩, hsub⟩ := hw.getM hm.get
  have hr := hsub.one
  obtain ⟨j0, hj0⟩ := List.getElem?_of_mem he
  have hfind : ∃ j, es.findIdx? (fun e => (e.born : Int) == (st : Int)) = some j ∧ es[j]? = some e := by
    cases hf : es.findIdx? (fun e => (e.born : Int) == (st : Int)) with
    | none =>
      rw [Array.findIdx?_eq_none_iff] at hf
      have := hf e (by simpa using he)
      simp [hb] at this
    | some j =>
      obtain ⟨hlt, h2, _⟩ := Array.findIdx?_eq_some_iff_getElem.1 hf
      refine ⟨j, rfl, ?_⟩
      have h3 : (es[j]).born = e.born := by simp at h2; omega
      obtain ⟨hj1, hj2⟩ := List.getElem?_eq_some_iff.1 hj0
      have hjj : j = j0 := by
        rcases Nat.lt_trichotomy j j0 with h | h | h
        · exact absurd (List.pairwise_iff_getElem.1 ok.born j j0 (by simpa using hlt) (by simpa using hj1) h) (by simp only [List.getElem_map, hj2]; simpa using h3)
        · exact h
        · exact absurd (List.pairwise_iff_getElem.1 ok.born j0 j (by simpa using hj1) (by simpa using hlt) h) (by simp only [List.getElem_map, hj2]; simpa using h3.symm)
      subst hjj; simpa using hj0
  obtain ⟨j, hf, hj⟩ := hfind
  have hes : (es.modify j fun e => { e with val := V v }) = es.modify j fun e => { e with key := Ag (R.sg k), val := V v } := by
    apply Array.ext_getElem?
    intro i
    simp only [Array.getElem?_modify]
    split
    · rename_i hji; subst hji; rw [hj]; simp [hek]
    · rfl
  refine tl_skip (w' := { w with heap := w.heap.setIfInBounds r (.map (es.modify j fun e => { e with key := Ag (R.sg k), val := V v }) clock) }) (fun a ha => ?_) (k' () _ trivial (hF.st fun i hi => mpS_put hw hi ⟨_, _, rfl, ok_modify ok hj hek⟩ ⟨_, hr⟩ rfl))
  rw [← hes]
  have := hV.h
  simp only [execOp, ha.ev hx, ha.ev hs, ha.ev hy, Instr.entryStore, Sem.run_bind, Sem.run_pure, Result.andThen_ok, MapKept.run_getObj_map hr, asInt, asIntOf, hf, MapKept.run_setObj_map _ hr, this]
/-! ranging -/
theorem hone_off {g b : Nat} {o : Obj} (h : b ≠ g) : hone g o b = none := by simp [hone, h]
theorem leftOf_push {es : Array MapEntry} {seen : Array Nat} (b : Nat) : (leftOf es (seen.push b)).toList = (leftOf es seen).toList.filter fun e => !(e.born == b) := by
  unfold leftOf
  rw [Array.toList_filter, Array.toList_filter, List.filter_filter]
  congr 1
  funext e
  simp only [Array.contains_push, Bool.not_or, Bool.and_comm]
theorem filter_one {l : List MapEntry} {l1 l2 : List MapEntry} {e : MapEntry} (hn : (l.map (·.born)).Nodup) (he : l = l1 ++ e :: l2) : l.filter (fun x => !(x.born == e.born)) = l1 ++ l2 := by
  subst he
  rw [List.map_append, List.map_cons, List.nodup_append] at hn
  obtain ⟨_, h2, h3⟩ := hn
  rw [List.nodup_cons] at h2
  rw [List.filter_append, List.filter_cons_of_neg (by simp)]
  congr 1
  · exact List.filter_eq_self.2 fun x hx => by
      have := h3 x.born (List.mem_map.2 ⟨x, hx, rfl⟩) e.born (List.mem_cons_self ..)
      simpa using this
  · exact List.filter_eq_self.2 fun x hx => by
      have : x.born ≠ e.born := fun h => h2.1 (List.mem_map.2 ⟨x, hx, h⟩)
      simpa using this
theorem hdis_one {a b : Nat} {o1 o2 : Obj} (h : a ≠ b) : hdis (hone a o1) (hone b o2) := fun c => by
  by_cases e : c = a
  · right; rw [e]; exact hone_off h
  · left; rw [hone_off e]
theorem gMr {F : Assn → List Assn} (hx : eev E x = some (.map (some r))) [hm : FMp L r P kt R V m] (ht : P.underlying t = some (.map kt et)) [hF : UpdF L (mpA P kt R V r m) F] (hd : Nat.blt d n = true)
    (hD : ∀ it, Dm w0 X ops s (F (rgA P kt R V it r m []))) (kc : ∀ it : Nat, GO P n w0 X (nextM s) ops rest Q ((d, .pointer (some ⟨it, 0, none⟩)) :: E) (F (rgA P kt R V it r m []))) : GO P n w0 X s ops (⟨some d, .range t x, ty, pos, aft, none⟩ :: rest) Q E L := by
  refine go_hv (ρ := Nat) (φ := fun _ => True) rfl (fun w hw rest Q k' => ?_) (fun g _ => hD g) (fun g _ => kc g)
  obtain ⟨kk, ⟨es, clock, rfl, ok⟩, hs⟩ := hw.getM hm.get
  have hr := hs.one
  have hlt := (Array.getElem?_eq_some_iff.1 hr).1
  refine tl_run (w' := w.alloc (.mapIter (some r) clock #[] clock)) (fun a ha => by simp only [execOp, ha.ev hx, Sem.run_bind, run_range_map w t kt et r es clock ht hr, Result.andThen_ok]; rfl) hd (k' w.heap.size _ trivial (hF.st fun i hi => hw.step hi rfl rfl rfl (by simp) fun k hk hsub => ?_))
  obtain ⟨es', clock', rfl, ok'⟩ := hk.is
  have e := hsub.one
  rw [hr] at e
  cases e
  refine ⟨_, ⟨es, clock, #[], m, rfl, Nat.ne_of_gt hlt, ok, ?_, by simp, fun d p h => by simp at h⟩, fun b o hb => ?_, fun b hb => ?_, fun b hb _ => Below.heap_alloc w _ b hb⟩
  · rw [show (leftOf es #[]).toList = es.toList by unfold leftOf; rw [Array.toList_filter]; exact List.filter_eq_self.2 (by simp)]
    exact ok.kvs.symm
  · by_cases e : b = w.heap.size
    · subst e; rw [heap_alloc_new]; simpa [hun, hone] using hb
    · have : b = r ∧ o = .map es clock := by
        simp only [hun, hone_off e] at hb
        by_cases e2 : b = r
        · subst e2; simp [hone] at hb; exact ⟨rfl, hb.symm⟩
        · rw [hone_off e2] at hb; cases hb
      obtain ⟨rfl, rfl⟩ := this
      rw [Below.heap_alloc w _ b hlt, hr]
  · by_cases e : b = w.heap.size
    · exact .inr (Nat.le_of_eq e.symm)
    · left
      simpa [hun, hone_off e] using hb
/-- an element's segments, written out -/
class SgF (R : Rep K) (f : outParam (K → List Cs)) : Prop where
  h : R.sg = f
theorem gMn {F : Assn → List Assn} {f : K → List Cs} [hf : SgF R f] (hx : eev E x = some (.pointer (some ⟨it, 0, none⟩))) [hm : FRg L it r P kt R V m done] [hF : UpdF L (rgA P kt R V it r m done) F] (hd : Nat.blt d n = true)
    (hD0 : Dm w0 X ops s L) (hD : ∀ p, Dm w0 X ops s (F (rgA P kt R V it r m (done ++ [p]))))
    (k0 : done.Perm m → GO P n w0 X (nextM s) ops rest Q ((d, .tuple #[.bool false]) :: E) L)
    (k1 : ∀ p l, (done ++ p :: l).Perm m ∧ KV P kt (flat (R.sg p.1)) → GO P n w0 X (nextM s) ops rest Q ((d, .tuple #[.bool true, Ag (f p.1), V p.2]) :: E) (F (rgA P kt R V it r m (done ++ [p])))) : GO P n w0 X s ops (⟨some d, .next x false, ty, pos, aft, none⟩ :: rest) Q E L := by
  obtain rfl := hf.h
  refine go_hv (ρ := Option ((K × β) × List (K × β))) (E' := fun o => match o with | none => (d, .tuple #[.bool false]) :: E | some p => (d, .tuple #[.bool true, Ag (R.sg p.1.1), V p.1.2]) :: E) (L' := fun o => match o with | none => L | some p => F (rgA P kt R V it r m (done ++ [p.1]))) (φ := fun o => match o with | none => done.Perm m | some p => (done ++ p.1 :: p.2).Perm m ∧ KV P kt (flat (R.sg p.1.1))) rfl (fun w hw rest Q k' => ?_) (fun g _ => ?_) (fun g h => ?_)
  · obtain ⟨kk, ⟨es, clock, seen, left, rfl, hne, ok, hl, hp, hlast⟩, hs⟩ := hw.getM hm.get
    obtain ⟨hit, hr⟩ := rg_sub hne hs
    rcases run_next_at (P := P) w ty it r clock clock seen es clock hit hr ok.old (Nat.le_refl _) with ⟨h0, h1⟩ | ⟨e, he, w1, hw1, h1⟩
    · have e0 : left = [] := by
        have : (leftOf es seen).toList = [] := by apply List.eq_nil_of_length_eq_zero; simpa using h0
        rw [this] at hl
        simpa [kvs] using hl
      subst e0
      exact tl_run (fun a ha => by simp only [execOp, ha.ev hx, Sem.run_bind, h1, Result.andThen_ok]; rfl) hd (k' none w (by simpa using hp) hw)
    · obtain ⟨l1, l2, hsp⟩ := List.append_of_mem he
      have hnb : ((leftOf es seen).toList.map (·.born)).Nodup := by
        unfold leftOf; rw [Array.toList_filter]
        exact (List.Sublist.map _ List.filter_sublist).nodup ok.born
      have hmem : e ∈ es.toList := by
        have := he
        unfold leftOf at this; rw [Array.toList_filter] at this
        exact (List.mem_filter.1 this).1
      have hnew := leftOf_push (es := es) (seen := seen) e.born
      rw [filter_one hnb hsp] at hnew
      rw [hsp, kvs, List.map_append, List.map_cons] at hl
      obtain ⟨a1, a2, rfl, ha1, ha2⟩ := List.map_eq_append_iff.1 hl
      obtain ⟨p, a3, rfl, hp1, ha3⟩ := List.map_eq_cons_iff.1 ha2
      have hpk : e.key = Ag (R.sg p.1) ∧ e.val = V p.2 := by
        have := hp1; simp only [kv_, Prod.mk.injEq] at this; exact ⟨this.1.symm, this.2.symm⟩
      have hperm : (done ++ p :: (a1 ++ a3)).Perm m := ((List.perm_middle.symm).append_left done |>.trans (by simpa using List.Perm.refl _)).trans hp
      have hw1' : St w0 X L w1 := by exact hw1.elim (fun e => by rw [e]; exact hw) (fun e => by rw [e]; exact hw.drew)
      have hz : w1.heap = w.heap := by rcases hw1 with rfl | rfl <;> rfl
      refine tl_run (w' := Go.ChangeMaps.setBlock w1 it (.mapIter (some r) clock (seen.push e.born) clock)) (fun a ha => by simp only [execOp, ha.ev hx, Sem.run_bind, h1, Result.andThen_ok, hpk.1, hpk.2]; rfl) hd (k' (some (p, a1 ++ a3)) _ ⟨hperm, ok.key p (hperm.subset (by simp))⟩ (hF.st fun i hi => hw1'.step hi rfl rfl rfl (by simp [Go.ChangeMaps.setBlock]) fun k hk hsub => ?_))
      obtain ⟨es', clock', seen', left', rfl, _, ok', hl', _, _⟩ := hk.is
      obtain ⟨hit', hr'⟩ := rg_sub hne hsub
      rw [hz, hit] at hit'
      rw [hz, hr] at hr'
      cases hit'; cases hr'
      have hlt : it < w1.heap.size := by rw [hz]; exact (Array.getElem?_eq_some_iff.1 hit).1
      refine ⟨_, ⟨es, clock, seen.push e.born, a1 ++ a3, rfl, hne, ok, ?_, by simpa using hperm, fun d' p' h => ?_⟩, fun b o hb => ?_, fun b hb => ?_, fun b _ hb => ?_⟩
      · rw [hnew, List.map_append, ha1, ha3]; simp [kvs]
      · have h2 := List.append_inj' h rfl
        have h3 : p = p' := by simpa using h2.2
        subst h3
        exact ⟨seen, e, rfl, hmem, hp1.symm⟩
      · by_cases e1 : b = it
        · subst e1
          simp only [Go.ChangeMaps.setBlock]
          have : o = .mapIter (some r) clock (seen.push e.born) clock := by simpa [hun, hone] using hb.symm
          rw [this]; simp [hlt]
        · simp only [Go.ChangeMaps.setBlock]
          rw [Array.getElem?_setIfInBounds, if_neg (Ne.symm e1)]
          exact hsub b o (by simpa [hun, hone_off e1] using hb)
      · left
        by_cases e1 : b = it
        · subst e1; simp [hun, hone]
        · simpa [hun, hone_off e1] using hb
      · by_cases e1 : b = it
        · subst e1; simp [hun, hone] at hb
        · simp only [Go.ChangeMaps.setBlock]
          rw [Array.getElem?_setIfInBounds, if_neg (Ne.symm e1)]
  · cases g with
    | none => exact hD0
    | some p => exact hD p.1
  · cases g with
    | none => exact k0 h
    | some p => exact k1 p.1 p.2 h
theorem gMv {f : K → List Cs} [hf : SgF R f] {p : K × β} {done : List (K × β)} (hx : eev E x = some (.pointer (some ⟨it, 0, none⟩))) [hm : FRg L it r P kt R V m (done ++ [p])] (hd : Nat.blt d n = true) (hD : Dm w0 X ops s L)
    (kc : GO P n w0 X (nextM s) ops rest Q ((d, .tuple #[Ag (f p.1), V p.2]) :: E) L) : GO P n w0 X s ops (⟨some d, .entry x, ty, pos, aft, none⟩ :: rest) Q E L := by
  obtain rfl := hf.h
  refine go_hv (ρ := Unit) (E' := fun _ => (d, .tuple #[Ag (R.sg p.1), V p.2]) :: E) (L' := fun _ => L) (φ := fun _ => True) rfl (fun w hw rest Q k' => ?_) (fun _ _ => hD) (fun _ _ => kc)
  obtain ⟨kk, ⟨es, clock, seen, left, rfl, hne, ok, hl, hp, hlast⟩, hs⟩ := hw.getM hm.get
  obtain ⟨hit, hr⟩ := rg_sub hne hs
  obtain ⟨s0, e, rfl, he, hkv⟩ := hlast done p rfl
  simp only [kv_, Prod.mk.injEq] at hkv
  refine tl_run (fun a ha => ?_) hd (k' () w trivial hw)
  simp only [execOp, ha.ev hx, Sem.run_bind, run_entry_at w it r clock s0 es clock e hit hr he ok.born, Result.andThen_ok, hkv.1, hkv.2]; rfl
end
end Go.Proofs.Ytjiglibogmehfaa
