/-
  hashes, points, outputs, inputs: how they lie in memory.
-/
import Derived.Test.YtalainpmlonahaaDoorMb
import Derived.Test.YtalainpmlonahaaDoorMa
import Derived.Laws.IdiomStrings
set_option linter.all false
set_option maxHeartbeats 4000000
namespace Go.Proofs.YtalainpmlonahaaDoor
open Go.RowKit

structure Hsh where
  l : List UInt8
  len : l.length = 32
  deriving DecidableEq
instance : Inhabited Hsh := ⟨⟨List.replicate 32 0, by simp⟩⟩
instance {h : Hsh} : LenIs h.l 32 := ⟨h.len⟩
instance {G : Type} {n : Nat} {g : G} : LenIs (List.replicate n g) n := ⟨by simp⟩
instance {G : Type} {gs : List G} {n i : Nat} {g : G} [h : LenIs gs n] : LenIs (gs.set i g) n := ⟨by simp [h.h]⟩
def toH (l : List UInt8) : Hsh := ⟨(l ++ List.replicate 32 0).take 32, by simp⟩
theorem toH_l {l : List UInt8} (h : l.length = 32) : (toH l).l = l := by
  show (l ++ List.replicate 32 0).take 32 = l
  rw [List.take_append_of_le_length (by omega), ← h, List.take_length]
def zH : Hsh := ⟨List.replicate 32 0, by simp⟩

section
variable {P : Program} {n : Nat} {w0 : World} {X : Nat → Prop} {Q : Cont} {E : Env} {L : List Assn} {s : Ms} {ops : Array Oper} {rest : List Oper}
variable {d : Nat} {ty : TypeId} {pos : String} {aft : Array Edge}
/-- a slice as an array: the address of its first element -/
theorem gap0 {x : Operand} {A : Option Addr} {m c k sz : Nat} {t e : TypeId} {G : Type} {R : Rep G} {gs : List G} (hx : eev E x = some (.slice A m c)) (ht : P.underlying t = some (.array k e)) (hz : szB P e = some sz) [hR : Rw w0 X L (.slice A m c) R gs] [hs : SzIs R sz] (hk : Nat.beq k 0 = false) (hb : k ≤ m) (hd : Nat.blt d n = true)
    (kk : Ix 0 m → GO P n w0 X (nextM s) ops rest Q ((d, .pointer (some (el A m c sz 0))) :: E) L) : GO P n w0 X s ops (⟨some d, .sliceToArrayPointer t x, ty, pos, aft, none⟩ :: rest) Q E L := by
  have hk' : k ≠ 0 := fun e0 => by subst e0; simp [Nat.beq] at hk
  refine go_yld rfl (fun w hw => ?_) hd (kk ⟨by omega⟩)
  have hl := hR.len hw
  obtain ⟨A', c', e', h1, h2, h3, hr⟩ := hR.get w hw
  cases e'
  obtain ⟨b, o, rfl, hc⟩ := hr (by rw [Rep.len]; exact Nat.mul_pos (by omega) R.pos)
  rw [el_eq]
  have := y_sliceToArray (P := P) (n := n) (d := d) (ty := ty) (pos := pos) (aft := aft) hx ht hb
  simpa using this
/-- bytes of a slice, taken as an array -/
theorem lvh {p : Addr} {A : Option Addr} {m c : Nat} {i : Int} {t : TypeId} {l : List UInt8} [hp : PtrN p A m c 1 i 0] [hR : Rw w0 X L (.slice A m c) RB l] (ha : aggB P t = some true) (hz : szB P t = some 32) (hi : 0 ≤ i ∧ i + 32 ≤ m) : Lv P w0 X L t p (Ag [.blk 32 (RB.all (toH ((l.drop i.toNat).take 32)).l)]) := .mk fun w hw => by
  have hl := hR.len hw
  obtain ⟨A', c', e', h1, h2, h3, hr⟩ := hR.get w hw
  cases e'
  obtain ⟨b, o, rfl, hc⟩ := hr (by rw [Rep.len]; exact Nat.mul_pos (by omega) RB.pos)
  have e0 : (toH ((l.drop i.toNat).take 32)).l = (l.drop i.toNat).take 32 := toH_l (by simp; omega)
  rw [hp.h, el_eq, Addr.add_zero', e0]
  have hlen : (RB.all ((l.drop i.toNat).take 32)).length = 32 := by
    rw [Rep.len]
    show ((l.drop i.toNat).take 32).length * 1 = 32
    simp; omega
  have hfl : flat [.blk 32 (RB.all ((l.drop i.toNat).take 32))] = RB.all ((l.drop i.toNat).take 32) := by simp [flat, Cs.cells]
  unfold Ag
  rw [hfl]
  refine run_loadVar_agg ha (by rw [hlen]; exact hz) fun j u hj => ?_
  rw [Addr.add_lit]
  have hj32 : j < 32 := by rw [← hlen]; exact (List.getElem?_eq_some_iff.1 hj).1
  have e1 : RB.all ((l.drop i.toNat).take 32) = ((RB.all l).drop i.toNat).take 32 := by
    have h1 := Rep.all_drop (R := RB) l i.toNat
    have h2 := Rep.all_take (R := RB) (l.drop i.toNat) 32
    have es : RB.sz = 1 := rfl
    rw [es, Nat.mul_one] at h1 h2
    rw [h1, h2]
  rw [e1, List.getElem?_take_of_lt hj32, List.getElem?_drop] at hj
  have := hc _ _ hj
  rw [Nat.mul_one, Nat.add_assoc]; exact this
/-- an element of an array in a block -/
theorem gea {x y : Operand} {t tt : TypeId} {g o m : Nat} {i : Int} {u : Value} {G : Type} {R : Rep G} {gs : List G} {g' : G} {cs cs' : List Cs} {F : Assn → List Assn} (hx : eev E x = some (.pointer (some (ela g o m 1 i)))) (hy : eev E y = some u) [hb : FBox L g tt cs] [hI : Ix i m] (hq : subS cs o m = some [.blk m (R.all gs)]) (hs : R.sz = 1) (hg : R.sg g' = [.one u]) (hp : putS cs o [.blk m (R.all (gs.set i.toNat g'))] = some cs') (hz : szB P t = some 1) [hF : UpdF L (boxA g tt cs) F] (hD : Dm w0 X ops s (F (boxA g tt cs')))
    (k : GO P n w0 X (nextM s) ops rest Q E (F (boxA g tt cs'))) : GO P n w0 X s ops (⟨none, .store t x y, ty, pos, aft, none⟩ :: rest) Q E L := by
  refine go_hv (ρ := Unit) (E' := fun _ => E) (L' := fun _ => F (boxA g tt cs')) (φ := fun _ => True) rfl (fun w hw rest Q k => ?_) (fun _ _ => hD) (fun _ _ => k)
  obtain ⟨ok, hc⟩ := box_cells hb hw
  obtain ⟨q1, q2, q3⟩ := subS_ok ok hq
  have hgl : gs.length = m := by have := q2.1; rw [Rep.len, hs, Nat.mul_one] at this; exact this
  have hone : u.oneCell' = true := by
    have := (R.ok g').2.2; rw [hg] at this; simpa [oneB, flat, Cs.cells] using this
  have hucells : u.cells = #[u] := by cases u <;> first | rfl | cases hone
  have okn : okS [.blk m (R.all (gs.set i.toNat g'))] := ⟨by rw [Rep.len, hs]; simp [hgl], trivial⟩
  obtain ⟨e1, e2, e3, e4⟩ := putS_ok ok okn hp
  have hst' : St w0 X (F (boxA g tt cs')) (w.setRow g (flat cs').toArray) := hF.st fun i hi => FBox.upd e2 hi hw
  refine tl_skip (fun a ha => ?_) (k () _ trivial hst')
  obtain ⟨kk, ⟨_, rfl⟩, hsub⟩ := hw.getM hb.get
  have hI' := hI.h
  have hfl := flat_len ok
  simp only [lenS, Cs.len] at e4
  have := run_storeVar (P := P) (w := w) (t := t) (tt := tt) (g := g) (o := o + i.toNat * 1) (cur := (flat cs).toArray) (v := u) (by rw [hucells]; exact hz) hsub.one (by rw [hucells]; simp [hfl]; omega) (by rw [hucells]; simp [oneB, hone])
  rw [ela_eq] at hx
  have key : splice (flat cs) (o + i.toNat * 1) [u] = flat cs' := by
    rw [← e1]
    have hset : R.all (gs.set i.toNat g') = splice (R.all gs) i.toNat [u] := by
      have hfg : flat (R.sg g') = [u] := by rw [hg]; rfl
      rw [List.set_eq_take_append_cons_drop, if_pos (by omega), Rep.all_append]
      have h1 := Rep.all_take (R := R) gs i.toNat
      have h2 := Rep.all_drop (R := R) gs (i.toNat + 1)
      rw [hs, Nat.mul_one] at h1 h2
      have h3 : R.all (g' :: gs.drop (i.toNat + 1)) = flat (R.sg g') ++ R.all (gs.drop (i.toNat + 1)) := by simp [Rep.all]
      rw [h3, ← h1, ← h2, hfg]; simp [splice]
    have hf1 : flat [.blk m (R.all (gs.set i.toNat g'))] = splice (R.all gs) i.toNat [u] := by simp [flat, Cs.cells, hset]
    have hal : (R.all gs).length = m := by rw [Rep.len, hs, Nat.mul_one]; exact hgl
    rw [hf1]
    apply List.ext_getElem?
    intro q
    have hsl : (splice (R.all gs) i.toNat [u]).length = m := by rw [splice_len (by simp; omega)]; exact hal
    rw [splice_get (cs := flat cs) (vs := [u]) (by simp; omega), splice_get (cs := flat cs) (vs := splice (R.all gs) i.toNat [u]) (by rw [hsl]; omega), hsl]
    have hall : ∀ j, j < m → (flat cs)[o + j]? = (R.all gs)[j]? := fun j hj => by
      have : flat [.blk m (R.all gs)] = R.all gs := by simp [flat, Cs.cells]
      rw [← this, ← q1, List.getElem?_take_of_lt hj, List.getElem?_drop]
    simp only [List.length_singleton]
    by_cases h1 : q < o
    · rw [if_pos (by omega), if_pos h1]
    · rw [if_neg h1]
      by_cases h2 : q < o + m
      · rw [if_pos h2, splice_get (cs := R.all gs) (vs := [u]) (by simp; omega)]
        simp only [List.length_singleton]
        have hq2 := hall (q - o) (by omega)
        rw [show o + (q - o) = q by omega] at hq2
        by_cases h3 : q < o + i.toNat * 1
        · rw [if_pos h3, if_pos (show q - o < i.toNat by omega), hq2]
        · rw [if_neg h3, if_neg (show ¬ q - o < i.toNat by omega)]
          by_cases h4 : q < o + i.toNat * 1 + 1
          · rw [if_pos h4, if_pos (show q - o < i.toNat + 1 by omega)]; congr 1; omega
          · rw [if_neg h4, if_neg (show ¬ q - o < i.toNat + 1 by omega), hq2]
      · rw [if_neg h2, if_neg (by omega), if_neg (by omega)]
  simp only [execOp, ha.ev hx, ha.ev hy, Instr.storeAt, Instr.sureAddr, Sem.run_bind, Sem.run_pure, Result.andThen_ok, this]
  congr 2
  rw [hucells]
  exact congrArg List.toArray key
end

/-! bytes as texts; comparing -/
section
variable {P : Program} {n : Nat} {w0 : World} {X : Nat → Prop} {Q : Cont} {E : Env} {L : List Assn} {s : Ms} {ops : Array Oper} {rest : List Oper}
variable {d : Nat} {ty : TypeId} {pos : String} {aft : Array Edge}
theorem run_bytes_text {w : World} {A : Option Addr} {m c : Nat} {l : List UInt8} {src dst e : TypeId} (hR : Rw w0 X L (.slice A m c) RB l) (hw : St w0 X L w) (hs : P.underlying src = some (.slice e)) (he : P.underlying e = some (.int .u8)) (hd : P.underlying dst = some .string) : (convert src dst (.slice A m c)).run P w = .ok (.string ⟨l.toArray⟩) w := by
  have hl := hR.len hw
  obtain ⟨A', c', e', h1, h2, h3, hr⟩ := hR.get w hw
  cases e'
  rcases A with _ | a
  · have h0 : l = [] := by
      rcases Nat.eq_zero_or_pos l.length with h | h
      · exact List.eq_nil_of_length_eq_zero h
      · obtain ⟨b, o, e0, _⟩ := hr (by rw [Rep.len]; exact Nat.mul_pos h RB.pos); cases e0
    subst h0
    show (convert src dst (.slice none 0 c)).run P w = _
    rw [run_convert_bytes_string w src dst e none 0 c hs he hd]; rfl
  · refine run_convert_bytes_back w src dst e a c l hs he hd fun j hj => ?_
    obtain ⟨b, o, e0, hc⟩ := hr (by rw [Rep.len]; exact Nat.mul_pos (by omega) RB.pos)
    cases e0
    rw [Addr.add_lit]
    have h1 : at1 (RB.sg l[j]) 0 = some (.int .u8 (l[j].toNat : Int)) := rfl
    have h2 := Rep.at_ (R := RB) hj (at1_ok (RB.ok _).1 h1)
    have h3 := hc _ _ h2
    have es : RB.sz = 1 := rfl
    rw [es, Nat.mul_one, Nat.add_zero] at h3; exact h3
theorem gtx {x : Operand} {A : Option Addr} {m c : Nat} {l : List UInt8} {src dst e : TypeId} (hx : eev E x = some (.slice A m c)) (hs : P.underlying src = some (.slice e)) (he : P.underlying e = some (.int .u8)) (hds : P.underlying dst = some .string) [hR : Rw w0 X L (.slice A m c) RB l] (hd : Nat.blt d n = true)
    (k : GO P n w0 X (loadM (fun w => (convert src dst (.slice A m c)).run P w = .ok (.string ⟨l.toArray⟩) w) s) ops rest Q ((d, .string ⟨l.toArray⟩) :: E) L) : GO P n w0 X s ops (⟨some d, .convert src dst x, ty, pos, aft, none⟩ :: rest) Q E L :=
  go_look (fun w => (convert src dst (.slice A m c)).run P w = .ok (.string ⟨l.toArray⟩) w) rfl (fun w hw => run_bytes_text hR hw hs he hds) (fun w hw => ⟨fun a ha => by simp only [execOp, ha.ev hx, Sem.run_bind, hw, Result.andThen_ok]; rfl⟩) hd k
theorem gteq {x y : Operand} {l l' : List UInt8} {t yt : TypeId} (hx : eev E x = some (.string ⟨l.toArray⟩)) (hy : eev E y = some (.string ⟨l'.toArray⟩)) (hd : Nat.blt d n = true)
    (k : GO P n w0 X (nextM s) ops rest Q ((d, .bool (decide (l = l'))) :: E) L) : GO P n w0 X s ops (⟨some d, .binOp .eql t x y yt, ty, pos, aft, none⟩ :: rest) Q E L :=
  go_yld rfl (fun _ _ => y_bin2 hx hy (fun w => rfl) (fun w => by
    rw [binOp_string_eql]
    simp only [Sem.run_pure]
    congr 2
    have e1 : (⟨l.toArray⟩ : ByteArray).toList = l := by rw [ByteArray.toList_eq]
    have e2 : (⟨l'.toArray⟩ : ByteArray).toList = l' := by rw [ByteArray.toList_eq]
    rw [e1, e2]
    by_cases h : l = l' <;> simp [h])) hd k
/-- values without pointers, in segments -/
class KVc (P : Program) (t : TypeId) (s : List Cs) (p : outParam Prop) : Prop where
  h : p → KV P t (flat s)
class EqS (s s' : List Cs) (q : outParam Prop) : Prop where
  h : flat s = flat s' ↔ q
instance EqS.nil : EqS [] [] True := ⟨by simp⟩
instance EqS.one {k : IntKind} {a b : Int} {r r' : List Cs} {q : Prop} [h : EqS r r' q] : EqS (.one (.int k a) :: r) (.one (.int k b) :: r') (a = b ∧ q) := ⟨by simp [flat, Cs.cells, h.h]⟩
instance EqS.bool {a b : Bool} {r r' : List Cs} {q : Prop} [h : EqS r r' q] : EqS (.one (.bool a) :: r) (.one (.bool b) :: r') (a = b ∧ q) := ⟨by simp [flat, Cs.cells, h.h]⟩
theorem RB_inj : ∀ {l l' : List UInt8}, RB.all l = RB.all l' → l = l'
  | [], [], _ => rfl
  | [], _ :: _, h => by simp [Rep.all, RB, flat, Cs.cells] at h
  | _ :: _, [], h => by simp [Rep.all, RB, flat, Cs.cells] at h
  | a :: l, b :: l', h => by
    simp only [Rep.all, List.flatMap_cons] at h
    have h1 : (by_ a :: RB.all l) = (by_ b :: RB.all l') := h
    simp only [List.cons.injEq, Value.int.injEq, true_and] at h1
    have e1 : a = b := UInt8.toNat_inj.1 (by omega)
    rw [e1, RB_inj h1.2]
instance EqS.blk {m : Nat} {l l' : List UInt8} {r r' : List Cs} {q : Prop} [h1 : LenIs l m] [h2 : LenIs l' m] [h : EqS r r' q] : EqS (.blk m (RB.all l) :: r) (.blk m (RB.all l') :: r') (l = l' ∧ q) := ⟨by
  simp only [flat, Cs.cells]
  constructor
  · intro e
    have := List.append_inj e (by rw [Rep.len, Rep.len, h1.h, h2.h])
    exact ⟨RB_inj this.1, h.h.1 this.2⟩
  · rintro ⟨rfl, e⟩
    rw [h.h.2 e]⟩
open Classical in
theorem geql {x y : Operand} {a b : List Cs} {t yt : TypeId} {p1 p2 q : Prop} (hx : eev E x = some (Ag a)) (hy : eev E y = some (Ag b)) [h1 : KVc P t a p1] [h2 : KVc P t b p2] [hq : EqS a b q] (hf : flatB P t = true) (hp : Pre (p1 ∧ p2)) (hd : Nat.blt d n = true)
    (k : GO P n w0 X (nextM s) ops rest Q ((d, .bool (decide q)) :: E) L) : GO P n w0 X s ops (⟨some d, .binOp .eql t x y yt, ty, pos, aft, none⟩ :: rest) Q E L :=
  go_yld rfl (fun _ _ => by
    have := y_eqlA (n := n) (d := d) (ty := ty) (pos := pos) (aft := aft) (yt := yt) hx hy hf (h1.h hp.h.1) (h2.h hp.h.2)
    have e : decide (flat a = flat b) = decide q := by rw [decide_eq_decide]; exact hq.h
    rwa [e] at this) hd k
open Classical in
theorem gneq {x y : Operand} {a b : List Cs} {t yt : TypeId} {p1 p2 q : Prop} (hx : eev E x = some (Ag a)) (hy : eev E y = some (Ag b)) [h1 : KVc P t a p1] [h2 : KVc P t b p2] [hq : EqS a b q] (hf : flatB P t = true) (hp : Pre (p1 ∧ p2)) (hd : Nat.blt d n = true)
    (k : GO P n w0 X (nextM s) ops rest Q ((d, .bool (!decide q)) :: E) L) : GO P n w0 X s ops (⟨some d, .binOp .neq t x y yt, ty, pos, aft, none⟩ :: rest) Q E L :=
  go_yld rfl (fun _ _ => by
    have := y_neqA (n := n) (d := d) (ty := ty) (pos := pos) (aft := aft) (yt := yt) hx hy hf (h1.h hp.h.1) (h2.h hp.h.2)
    have e : decide (flat a ≠ flat b) = (!decide q) := by
      by_cases h : flat a = flat b
      · have := hq.h.1 h; simp [h, this]
      · have : ¬ q := fun hh => h (hq.h.2 hh)
        simp [h, this]
    rwa [e] at this) hd k
end
theorem litwf {k : IntKind} {n : Int} (h : InR k n) : (Lit.int k n).wf = true := by
  cases k <;> simp only [InR] at h <;> simp [Lit.wf, IntKind.min, IntKind.max, IntKind.signed, IntKind.bits] <;> omega
theorem kv_hash {P : Program} {t : TypeId} {m : Nat} {l : List UInt8} (hk : P.keyTypeAt (m + 1) t = true) (hu : P.underlying t = some (.array 32 5)) (he : P.underlying 5 = some (.int .u8)) (hc : P.cellsOf 5 = 1) (hct : P.cellsOf t = 32) (hl : l.length = 32) : KV P t (RB.all l) := by
  refine KV.array hk hu (by rw [Rep.len, hct]; show l.length * 1 = 32; omega) fun i hi => ?_
  rw [hc, Nat.mul_one]
  have hi' : i < l.length := by omega
  have h1 : at1 (RB.sg l[i]) 0 = some (.int .u8 (l[i].toNat : Int)) := rfl
  have h2 := Rep.at_ (R := RB) hi' (at1_ok (RB.ok _).1 h1)
  have es : RB.sz = 1 := rfl
  rw [es, Nat.mul_one, Nat.add_zero] at h2
  have h3 : ((RB.all l).drop i).take 1 = [.int .u8 (l[i].toNat : Int)] := by
    obtain ⟨h4, h5⟩ := List.getElem?_eq_some_iff.1 h2
    rw [List.drop_eq_getElem_cons h4, h5]; rfl
  rw [h3]
  have := l[i].toNat_lt
  exact KV.int he (litwf (k := .u8) ⟨by omega, by omega⟩)
/-! zero values -/
theorem zs_of {P : Program} {t : TypeId} {s : List Cs} (h : (zeroB P t).map (fun z => z.cells.toList) = some (flat s)) (ok : okS s) : ZS P t s := ⟨h, ok⟩
instance : ZS Tryd.prog 30 [.blk 32 (RB.all (List.replicate 32 0))] := ⟨by kernel_rfl, OkS.blk.h.1⟩
instance : ZS Tryd.prog 72 [.blk 32 (RB.all (List.replicate 32 0)), .one (.int .u16 0), .one (.int .u32 0)] := ⟨by kernel_rfl, OkS.blk.h.1⟩
instance : ZS Tryd.prog 52 [.one (.int .u64 0), .one (.slice none 0 0)] := ⟨by kernel_rfl, OkS.one.h.1⟩
instance : ZS Tryd.prog 74 [.blk 32 (RB.all (List.replicate 32 0)), .one (.int .u16 0), .one (.int .u32 0), .one (.slice none 0 0)] := ⟨by kernel_rfl, OkS.blk.h.1⟩
instance : ZS Tryd.prog 57 [.one (.slice none 0 0), .one (.slice none 0 0), .one (.int .u32 0)] := ⟨by kernel_rfl, OkS.one.h.1⟩

instance {l : List UInt8} [h : LenIs l 32] : KVc Tryd.prog 30 [.blk 32 (RB.all l)] True := ⟨fun _ => by
  have := kv_hash (P := Tryd.prog) (t := 30) (m := 1) (by kernel_rfl) (by kernel_rfl) (by kernel_rfl) (by kernel_rfl) (by kernel_rfl) h.h
  simpa [flat, Cs.cells] using this⟩
def specsOf (P : Program) (t : TypeId) : Option (List (TypeId × Nat × Nat)) := match P.underlying t with | some (.struct fs) => some (fs.toList.map fun f => (f.type, f.offset, P.cellsOf f.type)) | _ => none
def KVs (P : Program) (s : List Cs) : List (TypeId × Nat × Nat) → Prop
  | [] => True
  | (t, o, m) :: r => (∃ u, subS s o m = some u ∧ KV P t (flat u)) ∧ KVs P s r
theorem KVs.mem {P : Program} {s : List Cs} (ok : okS s) : ∀ {l : List (TypeId × Nat × Nat)}, KVs P s l → ∀ x ∈ l, KV P x.1 (((flat s).drop x.2.1).take x.2.2)
  | [], _, x, hx => by cases hx
  | (t, o, m) :: r, h, x, hx => by
    rcases List.mem_cons.1 hx with rfl | hx
    · obtain ⟨u, h1, h2⟩ := h.1
      rw [(subS_ok ok h1).1]; exact h2
    · exact KVs.mem ok h.2 x hx
theorem kv_struct {P : Program} {t : TypeId} {s : List Cs} {specs : List (TypeId × Nat × Nat)} (m : Nat) (hk : P.keyTypeAt (m + 1) t = true) (hs : specsOf P t = some specs) (hl : lenS s = P.cellsOf t) (ok : okS s) (h : KVs P s specs) : KV P t (flat s) := by
  unfold specsOf at hs
  split at hs
  · rename_i fs hu
    cases hs
    refine KV.mk hk hu (by rw [flat_len ok]; exact hl) fun f hf => ?_
    exact KVs.mem ok h _ (List.mem_map.2 ⟨f, hf, rfl⟩)
  · cases hs
instance {l : List UInt8} {n ht : Int} [h : LenIs l 32] : KVc Tryd.prog 72 [.blk 32 (RB.all l), .one (.int .u16 n), .one (.int .u32 ht)] (0 ≤ n ∧ n ≤ 65535 ∧ 0 ≤ ht ∧ ht ≤ 4294967295) := ⟨fun hp => 
  kv_struct 4 (by kernel_rfl) (specs := [(30, 0, 32), (70, 32, 1), (31, 33, 1)]) (by kernel_rfl) (by kernel_rfl) OkS.blk.h.1 ⟨⟨_, rfl, KVc.h trivial⟩, ⟨_, rfl, KV.int (by kernel_rfl) (litwf ⟨hp.1, hp.2.1⟩)⟩, ⟨_, rfl, KV.int (by kernel_rfl) (litwf ⟨hp.2.2.1, hp.2.2.2⟩)⟩, trivial⟩⟩

/-! outputs and inputs, with where their rows lie -/
structure OutG where
  value : Int
  lock : List UInt8
  s : Sv
instance : Inhabited OutG := ⟨⟨0, [], ⟨none, 0⟩⟩⟩
def ROut : Rep OutG := ⟨2, fun o => [.one (.int .u64 o.value), .one (.slice o.s.A o.lock.length o.s.c)], by decide, fun _ => ⟨trivial, rfl, rfl⟩⟩
instance : SzIs ROut 2 := ⟨rfl⟩
structure InG where
  tx : Hsh
  n : Int
  ht : Int
  ul : List UInt8
  s : Sv
instance : Inhabited InG := ⟨⟨default, 0, 0, [], ⟨none, 0⟩⟩⟩
def RIn : Rep InG := ⟨35, fun g => [.blk 32 (RB.all g.tx.l), .one (.int .u16 g.n), .one (.int .u32 g.ht), .one (.slice g.s.A g.ul.length g.s.c)], by decide, fun g => ⟨OkS.blk.h.1, rfl, OkS.blk.h.2⟩⟩
instance : SzIs RIn 35 := ⟨rfl⟩
/-- what is known of an output's numbers and row; of all of a list -/
def OutP (w : World) (o : OutG) : Prop := (0 ≤ o.value ∧ o.value ≤ 18446744073709551615) ∧ Sb w (.slice o.s.A o.lock.length o.s.c) o.lock
def InP (w : World) (g : InG) : Prop := (0 ≤ g.n ∧ g.n ≤ 65535 ∧ 0 ≤ g.ht ∧ g.ht ≤ 4294967295) ∧ Sb w (.slice g.s.A g.ul.length g.s.c) g.ul
def OutsP (w : World) (gs : List OutG) : Prop := ∀ o ∈ gs, OutP w o
def InsP (w : World) (gs : List InG) : Prop := ∀ o ∈ gs, InP w o
class OutsR (w0 : World) (X : Nat → Prop) (L : List Assn) (gs : List OutG) : Prop where
  get : ∀ w, St w0 X L w → OutsP w gs
class InsR (w0 : World) (X : Nat → Prop) (L : List Assn) (gs : List InG) : Prop where
  get : ∀ w, St w0 X L w → InsP w gs
section
variable {w0 w : World} {X : Nat → Prop} {L : List Assn}
theorem ixd_mem {G : Type} [Inhabited G] {gs : List G} {i : Int} {n : Nat} (h : Ix i n) (hn : gs.length = n) : ixd gs i ∈ gs := by
  have := h.h
  rw [ixd_eq (by omega)]; exact List.getElem_mem _
theorem OutsR.old {gs : List OutG} (h : OutsP w0 gs) (L : List Assn) : OutsR w0 no L gs := ⟨fun w hst o ho => ⟨(h o ho).1, hst.sl (h o ho).2⟩⟩
theorem InsR.old {gs : List InG} (h : InsP w0 gs) (L : List Assn) : InsR w0 no L gs := ⟨fun w hst o ho => ⟨(h o ho).1, hst.sl (h o ho).2⟩⟩
instance Rw.out {gs : List OutG} {i : Int} [h : OutsR w0 X L gs] [hi : Ix i gs.length] : Rw w0 X L (.slice (ixd gs i).s.A (ixd gs i).lock.length (ixd gs i).s.c) RB (ixd gs i).lock := ⟨fun w hw => (h.get w hw _ (ixd_mem hi rfl)).2⟩
instance Rw.in_ {gs : List InG} {i : Int} [h : InsR w0 X L gs] [hi : Ix i gs.length] : Rw w0 X L (.slice (ixd gs i).s.A (ixd gs i).ul.length (ixd gs i).s.c) RB (ixd gs i).ul := ⟨fun w hw => (h.get w hw _ (ixd_mem hi rfl)).2⟩
end
/-- rows of elements' own -/
abbrev inRow (g : InG) : Assn := rw_ 5 RB g.s g.ul.length g.ul
abbrev outRow (o : OutG) : Assn := rw_ 5 RB o.s o.lock.length o.lock
@[reducible] def InsN (gs : List InG) : Prop := ∀ g ∈ gs, 0 ≤ g.n ∧ g.n ≤ 65535 ∧ 0 ≤ g.ht ∧ g.ht ≤ 4294967295
@[reducible] def OutsN (os : List OutG) : Prop := ∀ o ∈ os, 0 ≤ o.value ∧ o.value ≤ 18446744073709551615
class InsNc (gs : List InG) : Prop where
  h : InsN gs
class OutsNc (gs : List OutG) : Prop where
  h : OutsN gs
section
variable {w0 : World} {X : Nat → Prop} {L : List Assn}
instance InsR.lot {gs : List InG} [h : FLot L (gs.map inRow)] [hn : InsNc gs] : InsR w0 X L gs := ⟨fun w hw g hg => ⟨hn.h g hg, Slr.of_lot h (List.mem_map.2 ⟨g, hg, rfl⟩) hw⟩⟩
instance OutsR.lot {gs : List OutG} [h : FLot L (gs.map outRow)] [hn : OutsNc gs] : OutsR w0 X L gs := ⟨fun w hw g hg => ⟨hn.h g hg, Slr.of_lot h (List.mem_map.2 ⟨g, hg, rfl⟩) hw⟩⟩
instance InsNc.nil : InsNc [] := ⟨fun _ h => by cases h⟩
instance OutsNc.nil : OutsNc [] := ⟨fun _ h => by cases h⟩
end
instance {tx : Hsh} {n ht : Int} {ul : List UInt8} {s : Sv} : Elm RIn (.agg (flat [.blk 32 (RB.all tx.l), .one (.int .u16 n), .one (.int .u32 ht), .one (.slice s.A ul.length s.c)]).toArray) ⟨tx, n, ht, ul, s⟩ := ⟨by simp [Value.cells, RIn]⟩
instance {v : Int} {l : List UInt8} {s : Sv} : Elm ROut (.agg (flat [.one (.int .u64 v), .one (.slice s.A l.length s.c)]).toArray) ⟨v, l, s⟩ := ⟨by simp [Value.cells, ROut]⟩
instance : EL Tryd.prog 52 2 32 := ⟨by
  obtain ⟨i, h1, h2, h3, h4⟩ := info_parts (show (Tryd.prog.info? 52).map (fun i => (i.zero, i.size, i.bytes)) = some (some (.agg (flat (ROut.sg default)).toArray), 2, 32) by kernel_rfl)
  exact ⟨i, _, h1, h2, h3, h4, rfl, by decide⟩⟩
instance : EL Tryd.prog 74 35 64 := ⟨by
  obtain ⟨i, h1, h2, h3, h4⟩ := info_parts (show (Tryd.prog.info? 74).map (fun i => (i.zero, i.size, i.bytes)) = some (some (.agg (flat (RIn.sg default)).toArray), 35, 64) by kernel_rfl)
  exact ⟨i, _, h1, h2, h3, h4, rfl, by decide⟩⟩
instance : ZE Tryd.prog 52 ROut default := ⟨by kernel_rfl, by kernel_rfl⟩
instance : ZE Tryd.prog 74 RIn default := ⟨by kernel_rfl, by kernel_rfl⟩
end Go.Proofs.YtalainpmlonahaaDoor
