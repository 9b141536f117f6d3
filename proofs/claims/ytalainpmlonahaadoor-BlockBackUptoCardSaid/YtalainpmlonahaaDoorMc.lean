/-
  Nh + Ni + Nk
-/
import Derived.Test.YtalainpmlonahaaDoorMb
import Derived.Laws.Small
section
/-!
  THE SECOND ENGINE, eighth part: words of 32 bits; arrays as values; copying. No program in sight.
-/
set_option linter.all false
set_option maxRecDepth 100000
namespace Go.Proofs.YtalainpmlonahaaDoor
open Go.RowKit

/-! words -/
abbrev wd_ (x : UInt32) : Value := .int .u32 (x.toNat : Int)
def RW : Rep UInt32 := ⟨1, fun x => [.one (wd_ x)], by decide, fun _ => ⟨trivial, rfl, rfl⟩⟩
instance : SzIs RW 1 := ⟨rfl⟩
instance {x : UInt32} : Elm RW (.int .u32 (x.toNat : Int)) x := ⟨rfl⟩
def u32 (z : Int) : UInt32 := UInt32.ofNat (z % 4294967296).toNat
theorem u32_wrap (z : Int) : IntKind.u32.wrap z = ((u32 z).toNat : Int) := by
  rw [IntKind.wrap_u32]
  simp only [u32, UInt32.toNat_ofNat']
  have : 0 ≤ z % 4294967296 ∧ z % 4294967296 < 4294967296 := by omega
  omega
theorem u32_cast (x : UInt32) : u32 (x.toNat : Int) = x := by
  apply UInt32.toNat_inj.1
  have h := x.toNat_lt
  simp only [u32, UInt32.toNat_ofNat']
  omega
theorem u32_of {z : Int} (h : 0 ≤ z ∧ z ≤ 4294967295) : ((u32 z).toNat : Int) = z := by rw [← u32_wrap, IntKind.wrap_u32]; omega
instance Rng.word {x : UInt32} : Rng (.int .u32 (x.toNat : Int)) (0 ≤ (x.toNat : Int) ∧ (x.toNat : Int) ≤ 4294967295) := ⟨by have := x.toNat_lt; omega⟩
class Wd (i : Int) (x : outParam UInt32) (p : outParam Prop) : Prop where
  h : p → i = (x.toNat : Int)
instance Wd.it {x : UInt32} : Wd (x.toNat : Int) x True := ⟨fun _ => rfl⟩
instance Wd.byte {x : UInt8} : Wd (x.toNat : Int) x.toUInt32 True := ⟨fun _ => by rw [UInt8.toNat_toUInt32]⟩
instance (priority := low) Wd.any {i : Int} : Wd i (u32 i) (0 ≤ i ∧ i ≤ 4294967295) := ⟨fun h => (u32_of h).symm⟩
def wop : BinOp → Option (UInt32 → UInt32 → UInt32)
  | .add => some (· + ·)
  | .sub => some (· - ·)
  | .mul => some (· * ·)
  | .and => some (· &&& ·)
  | .or => some (· ||| ·)
  | .xor => some (· ^^^ ·)
  | _ => none
def shlW (x : UInt32) (n : Nat) : UInt32 := ⟨x.toBitVec <<< n⟩
def shrW (x : UInt32) (n : Nat) : UInt32 := ⟨x.toBitVec >>> n⟩
theorem shlW_nat (x : UInt32) (n : Nat) : (shlW x n).toNat = x.toNat * 2 ^ n % 4294967296 := by
  show (x.toBitVec <<< n).toNat = _
  rw [BitVec.toNat_shiftLeft, Nat.shiftLeft_eq]; rfl
theorem shrW_nat (x : UInt32) (n : Nat) : (shrW x n).toNat = x.toNat / 2 ^ n := by
  show (x.toBitVec >>> n).toNat = _
  rw [BitVec.toNat_ushiftRight, Nat.shiftRight_eq_div_pow]; rfl
theorem bv_word (x : UInt32) : BitVec.ofInt 32 (x.toNat : Int) = x.toBitVec := by
  apply BitVec.eq_of_toNat_eq
  rw [BitVec.toNat_ofInt, UInt32.toNat_toBitVec]
  have := x.toNat_lt
  omega
theorem wrap_word (x : UInt32) : IntKind.u32.wrap (x.toNat : Int) = (x.toNat : Int) := by
  have := x.toNat_lt
  rw [IntKind.wrap_u32]; omega
theorem bits_word (o : BinOp) (a b : UInt32) : bits o .u32 (a.toNat : Int) (b.toNat : Int) = (((match o with | .and => a &&& b | .or => a ||| b | .xor => a ^^^ b | _ => a &&& ~~~b : UInt32)).toNat : Int) := by
  unfold bits
  rw [show IntKind.u32.bits = 32 from rfl, bv_word, bv_word]
  cases o <;> exact wrap_word _
section
variable {P : Program} {n : Nat} {w0 : World} {X : Nat → Prop} {Q : Cont} {E : Env} {L L' : List Assn} {s : Ms} {ops : Array Oper} {rest : List Oper} {v : Value}
variable {d : Nat} {ty : TypeId} {pos : String} {aft : Array Edge} {op : Op}
theorem wop_ok {o : BinOp} {f : UInt32 → UInt32 → UInt32} (h : wop o = some f) (a b : UInt32) {x y : Operand} {t yt : TypeId} (hx : eev E x = some (.int .u32 (a.toNat : Int))) (hy : eev E y = some (.int .u32 (b.toNat : Int))) : Yld P n ⟨some d, .binOp o t x y yt, ty, pos, aft, none⟩ E (.int .u32 ((f a b).toNat : Int)) := by
  have ha := a.toNat_lt
  have hb := b.toNat_lt
  unfold wop at h
  split at h <;> cases h
  · exact y_add hx hy (by rw [IntKind.wrap_u32, UInt32.toNat_add]; omega)
  · exact y_sub hx hy (by rw [IntKind.wrap_u32, UInt32.toNat_sub]; omega)
  · exact y_mul hx hy (by rw [IntKind.wrap_u32, UInt32.toNat_mul, ← Int.natCast_mul]; omega)
  · exact y_and hx hy (bits_word .and a b)
  · exact y_or hx hy (bits_word .or a b)
  · exact y_xor hx hy (bits_word .xor a b)
theorem gwd {o : BinOp} {x y : Operand} {t yt : TypeId} {i j : Int} {a b : UInt32} {f : UInt32 → UInt32 → UInt32} {p q : Prop} (hx : eev E x = some (.int .u32 i)) (hy : eev E y = some (.int .u32 j)) (ho : wop o = some f) [ha : Wd i a p] [hb : Wd j b q] (hp : Pre (p ∧ q)) (hd : Nat.blt d n = true)
    (k : GO P n w0 X (nextM s) ops rest Q ((d, .int .u32 ((f a b).toNat : Int)) :: E) L) : GO P n w0 X s ops (⟨some d, .binOp o t x y yt, ty, pos, aft, none⟩ :: rest) Q E L := by
  rw [ha.h hp.h.1] at hx
  rw [hb.h hp.h.2] at hy
  exact go_yld rfl (fun _ _ => wop_ok ho a b hx hy) hd k
theorem gwn {x : Operand} {t : TypeId} {i : Int} {a : UInt32} {p : Prop} (hx : eev E x = some (.int .u32 i)) [ha : Wd i a p] (hp : Pre p) (hd : Nat.blt d n = true)
    (k : GO P n w0 X (nextM s) ops rest Q ((d, .int .u32 ((~~~a).toNat : Int)) :: E) L) : GO P n w0 X s ops (⟨some d, .unOp .xor t x, ty, pos, aft, none⟩ :: rest) Q E L := by
  rw [ha.h hp.h] at hx
  refine go_yld rfl (fun _ _ => ⟨fun c w hc => ?_⟩) hd k
  have e : bits .xor .u32 4294967295 (a.toNat : Int) = ((~~~a).toNat : Int) := by
    have h1 := bits_word .xor (u32 4294967295) a
    rw [u32_of (by omega)] at h1
    rw [h1]
    congr 2
  have hm : IntKind.max .u32 = 4294967295 := by decide
  have e2 : (if IntKind.u32.signed = true then (-1 : Int) else IntKind.max .u32) = 4294967295 := by decide
  simp only [execOp, hc.ev hx, Op.unary, e2, intBits_xor, e]
  rfl
theorem gws {x y : Operand} {t yt : TypeId} {yk : IntKind} {i j : Int} {a : UInt32} {p : Prop} (hx : eev E x = some (.int .u32 i)) (hy : eev E y = some (.int yk j)) [ha : Wd i a p] (hp : Pre p) (hj : 0 ≤ j ∧ j ≤ 32) (hd : Nat.blt d n = true)
    (k : GO P n w0 X (nextM s) ops rest Q ((d, .int .u32 ((shlW a j.toNat).toNat : Int)) :: E) L) : GO P n w0 X s ops (⟨some d, .binOp .shl t x y yt, ty, pos, aft, none⟩ :: rest) Q E L := by
  rw [ha.h hp.h] at hx
  refine go_yld rfl (fun _ _ => y_shl hx hy hj.1 ?_) hd k
  have : min j.toNat IntKind.u32.bits = j.toNat := by simp [IntKind.bits]; omega
  rw [this, IntKind.wrap_u32, shlW_nat]
  have : ((2 ^ j.toNat : Nat) : Int) = 2 ^ j.toNat := by rw [Int.natCast_pow]; rfl
  rw [← this, ← Int.natCast_mul]; omega
theorem gwr {x y : Operand} {t yt : TypeId} {yk : IntKind} {i j : Int} {a : UInt32} {p : Prop} (hx : eev E x = some (.int .u32 i)) (hy : eev E y = some (.int yk j)) [ha : Wd i a p] (hp : Pre p) (hj : 0 ≤ j ∧ j ≤ 32) (hd : Nat.blt d n = true)
    (k : GO P n w0 X (nextM s) ops rest Q ((d, .int .u32 ((shrW a j.toNat).toNat : Int)) :: E) L) : GO P n w0 X s ops (⟨some d, .binOp .shr t x y yt, ty, pos, aft, none⟩ :: rest) Q E L := by
  rw [ha.h hp.h] at hx
  refine go_yld rfl (fun _ _ => y_shr hx hy hj.1 ?_) hd k
  have : min j.toNat IntKind.u32.bits = j.toNat := by simp [IntKind.bits]; omega
  rw [this, Int.fdiv_eq_ediv_of_nonneg _ (by exact_mod_cast Nat.zero_le _), shrW_nat]
  have : ((2 ^ j.toNat : Nat) : Int) = 2 ^ j.toNat := by rw [Int.natCast_pow]; rfl
  rw [← this, ← Int.natCast_ediv]
/-- a byte, or a word, turned to a word -/
theorem gwc {x : Operand} {k' : IntKind} {i : Int} {a : UInt32} {t t' : TypeId} {p : Prop} (hx : eev E x = some (.int k' i)) (hs : (P.underlying t).isSome = true) (ht : P.underlying t' = some (.int .u32)) [ha : Wd i a p] (hp : Pre p) (hd : Nat.blt d n = true)
    (k : GO P n w0 X (nextM s) ops rest Q ((d, .int .u32 (a.toNat : Int)) :: E) L) : GO P n w0 X s ops (⟨some d, .convert t t' x, ty, pos, aft, none⟩ :: rest) Q E L := by
  rw [ha.h hp.h] at hx
  exact go_yld rfl (fun _ _ => y_conv hx hs ht (wrap_word a)) hd k
/-- the negative -/
theorem gneg {x : Operand} {t : TypeId} {kk : IntKind} {i : Int} (hx : eev E x = some (.int kk i)) (hi : InR kk (-i)) (hd : Nat.blt d n = true)
    (k : GO P n w0 X (nextM s) ops rest Q ((d, .int kk (-i)) :: E) L) : GO P n w0 X s ops (⟨some d, .unOp .neg t x, ty, pos, aft, none⟩ :: rest) Q E L := by
  refine go_yld rfl (fun _ _ => ⟨fun c w hc => ?_⟩) hd k
  have e : kk.wrap (0 - i) = -i := by rw [show (0 - i : Int) = -i by omega]; exact InR.wrap hi
  simp only [execOp, hc.ev hx, Op.unary, Op.intArith, e]
  rfl
end
/-! words written out -/
def wordsE : List (Nat × Value) → Nat → Option (List UInt32)
  | [], _ => some []
  | (j, .int .u32 z) :: r, i => bif Nat.beq j i && (decide (0 ≤ z) && decide (z ≤ 4294967295)) then (match wordsE r (i + 1) with | some gs => some (u32 z :: gs) | none => none) else none
  | _, _ => none
theorem wordsE_ok : ∀ {ps : List (Nat × Value)} {i : Nat} {gs : List UInt32}, wordsE ps i = some gs → Elms RW i ps gs
  | [], i, gs, h => by simp only [wordsE, Option.some.injEq] at h; subst h; exact Elms.nil
  | (j, v) :: r, i, gs, h => by
    cases v with
    | int k z => ?_
    | _ => simp only [wordsE] at h; cases h
    cases k with
    | u32 => ?_
    | _ => simp only [wordsE] at h; cases h
    simp only [wordsE] at h
    cases hb : (Nat.beq j i && (decide (0 ≤ z) && decide (z ≤ 4294967295))) <;> rw [hb] at h
    · simp at h
    · simp only [Bool.and_eq_true, decide_eq_true_eq] at hb
      have hj := beqT hb.1
      subst hj
      simp only [cond_true] at h
      split at h
      · rename_i gs' h'
        cases h
        have h1 : Elm RW (.int .u32 z) (u32 z) := ⟨by show [wd_ (u32 z)] ++ [] = _; unfold wd_; rw [u32_of hb.2]; rfl⟩
        have h2 := wordsE_ok h'
        exact Elms.cons
      · cases h
section
variable {P : Program} {n : Nat} {w0 : World} {X : Nat → Prop} {Q : Cont} {E : Env} {L L' : List Assn} {s : Ms} {ops : Array Oper} {rest : List Oper} {v : Value}
variable {d : Nat} {ty : TypeId} {pos : String} {aft : Array Edge} {op : Op} {G : Type} {R : Rep G} {gs : List G}
/-- an array of elements of one cell, written out -/
theorem gbarr {t e : TypeId} {m : Nat} {parts : List (Nat × Operand)} {ps : List (Nat × Value)} {zs : List Cs} (R : Rep G) (gs : List G) (hs : P.underlying t = some (.array m e)) [hz : ZS P t zs] (hz2 : szB P e = some 1) (hl : lenS zs = m) [hR : SzIs R 1] (hp : evps E parts = some ps) (hq : Elms R 0 ps gs) (hm : gs.length = m) (hd : Nat.blt d n = true)
    (kk : GO P n w0 X (nextM s) ops rest Q ((d, Ag [.blk m (R.all gs)]) :: E) L) : GO P n w0 X s ops (⟨some d, .build t parts.toArray, ty, pos, aft, none⟩ :: rest) Q E L := by
  refine go_yld rfl (fun _ _ => ⟨fun a w ha => ?_⟩) hd kk
  obtain ⟨zv, hzv, hzc⟩ := Option.map_eq_some_iff.1 hz.h
  have hR1 := hR.h
  have hzl : zv.cells.toList.length = m := by rw [hzc, flat_len hz.ok, hl]
  have hf := fill_elms (R := R) (ps := ps) (gs := gs) (i := 0) (cs := zv.cells.toList) (by rw [hq.h.1]) hq.h.2 (by rw [hR1, hzl]; omega)
  simp only [Nat.zero_mul, List.take_zero, List.nil_append, hR1] at hf
  have h2 := fill_of hf
  simp only [Array.toArray_toList] at h2
  have hmm : (parts.toArray.map fun (i, x) => (i, a.eval x)).toList = ps := by simpa using evps_map ha hp
  have e0 : flat [.blk m (R.all gs)] = R.all gs := by simp [flat, Cs.cells]
  unfold Ag
  rw [e0]
  simp only [execOp, Instr.build, Sem.run_bind, run_zeroValue hzv, run_underlying hs, Result.andThen_ok, run_sizeOf hz2, hmm, h2]
  rfl
/-- an element of an array value -/
theorem gindex {x ix : Operand} {t e : TypeId} {m : Nat} {i : Int} {k : IntKind} {u : Value} [Inhabited G] (hx : eev E x = some (Ag [.blk m (R.all gs)])) (hi : eev E ix = some (.int k i)) (ht : P.underlying t = some (.array m e)) (ha : aggB P e = some false) (hz : szB P e = some 1) [hR : SzIs R 1] [hl : LenIs gs m] (hb : 0 ≤ i ∧ i < m) (hu : at1 (R.sg (ixd gs i)) 0 = some u) {q : Prop} [hq : Rng u q] (hd : Nat.blt d n = true)
    (kk : q → GO P n w0 X (nextM s) ops rest Q ((d, u) :: E) L) : GO P n w0 X s ops (⟨some d, .index t x ix, ty, pos, aft, none⟩ :: rest) Q E L := by
  refine go_yld rfl (fun _ _ => ⟨fun a w hc => ?_⟩) hd (kk hq.is)
  have hlt : i.toNat < gs.length := by have := hl.h; omega
  have h1 := at1_ok (R.ok _).1 hu
  rw [ixd_eq hlt] at h1
  have h2 := Rep.at_ hlt h1
  rw [hR.h, Nat.mul_one, Nat.add_zero] at h2
  have e0 : flat [.blk m (R.all gs)] = R.all gs := by simp [flat, Cs.cells]
  have h3 : (part e (R.all gs).toArray i.toNat).run P w = .ok u w := by
    have hia : (isAgg e).run P w = .ok false w := run_isAgg ha
    simp [part, hia, h2]
  simp only [execOp, hc.ev hx, hc.ev hi, Instr.index, asIntOf, Sem.run_bind, Sem.run_pure, Result.andThen_ok, run_underlying ht, Ag, e0]
  rw [if_pos hb]
  simp only [Sem.run_bind, run_sizeOf hz, Result.andThen_ok, Nat.mul_one, h3]
/-- from a place on, of an array in a block -/
theorem gcb {x lo : Operand} {g o k sz : Nat} {kl : IntKind} {l : Int} {t e : TypeId} (hx : eev E x = some (.pointer (some ⟨g, o, none⟩))) (hl : eev E lo = some (.int kl l)) (ht : P.underlying t = some (.array k e)) (hz : szB P e = some sz) (hb : 0 ≤ l ∧ l < k) (hd : Nat.blt d n = true)
    (kk : Ix l k → GO P n w0 X (nextM s) ops rest Q ((d, .slice (some (ela g o k sz l)) (k - l.toNat) (k - l.toNat)) :: E) L) : GO P n w0 X s ops (⟨some d, .slice t x (some lo) none none, ty, pos, aft, none⟩ :: rest) Q E L :=
  go_yld rfl (fun _ _ => ⟨fun a w ha => by
    have hk : k ≠ l.toNat := by omega
    have h1 := run_bound (P := P) (w := w) (k := kl) (c := .sliceB) hb.1 (show l ≤ ((k : Nat) : Int) by omega)
    rw [ela_eq]
    simp [execOp, ha.ev hx, ha.ev hl, Instr.sliceAt, Instr.sliceBounds, run_underlying ht, run_sizeOf hz, h1, Instr.sureAddr, Addr.add_lit, hk]⟩) hd (kk ⟨hb⟩)
class Ax (l : Int) (k m c : Nat) : Prop where
  h : 0 ≤ l ∧ l.toNat + k ≤ m ∧ k ≤ c ∧ l.toNat + c ≤ m
/-- a part of an array in a block -/
theorem gcb2 {x lo hi : Operand} {g o k sz : Nat} {kl kh : IntKind} {l h : Int} {t e : TypeId} (hx : eev E x = some (.pointer (some ⟨g, o, none⟩))) (hl : eev E lo = some (.int kl l)) (hh : eev E hi = some (.int kh h)) (ht : P.underlying t = some (.array k e)) (hz : szB P e = some sz) (hb : 0 ≤ l ∧ l ≤ h ∧ l < k ∧ h ≤ k) (hd : Nat.blt d n = true)
    (kk : Ax l (h - l).toNat k (k - l.toNat) → GO P n w0 X (nextM s) ops rest Q ((d, .slice (some (ela g o k sz l)) (h - l).toNat (k - l.toNat)) :: E) L) : GO P n w0 X s ops (⟨some d, .slice t x (some lo) (some hi) none, ty, pos, aft, none⟩ :: rest) Q E L :=
  go_yld rfl (fun _ _ => ⟨fun a w ha => by
    have hk : k ≠ l.toNat := by omega
    have h1 := run_bound (P := P) (w := w) (k := kh) (c := .sliceAlen) (show 0 ≤ h by omega) (show h ≤ ((k : Nat) : Int) by omega)
    have h2 := run_bound (P := P) (w := w) (k := kl) (c := .sliceB) hb.1 (show l ≤ ((h.toNat : Nat) : Int) by omega)
    have e1 : (h - l).toNat = h.toNat - l.toNat := by omega
    rw [ela_eq, e1]
    simp [execOp, ha.ev hx, ha.ev hl, ha.ev hh, Instr.sliceAt, Instr.sliceBounds, run_underlying ht, run_sizeOf hz, h1, h2, Instr.sureAddr, Addr.add_lit, hk]⟩) hd (kk ⟨by omega⟩)
instance Rw.ela {g o k m c : Nat} {l : Int} {t : TypeId} {cs : List Cs} [h : FBox L g t cs] [hb : Blk cs o m R gs] [hs : SzIs R 1] [hm : NLe m 4096] [ha : Ax l k m c] : Rw w0 X L (.slice (some (ela g o m 1 l)) k c) R ((gs.drop l.toNat).take k) := ⟨fun w hw => by
  obtain ⟨ok, hc⟩ := box_cells h hw
  obtain ⟨h1, h2⟩ := hb.h ok
  have hsz := hs.h
  have hl : gs.length = m := by rw [Rep.len, hsz, Nat.mul_one] at h2; exact h2
  have hm := hm.h
  have ha := ha.h
  have hkk : ((gs.drop l.toNat).take k).length = k := by simp; omega
  refine ⟨_, c, by rw [hkk], by rw [Rep.len], by rw [hkk]; omega, by simp [maxLen]; omega, fun _ => ?_⟩
  rw [ela_eq]
  refine ⟨g, _, rfl, fun j u hj => ?_⟩
  rw [hc]
  have e1 := Rep.all_drop (R := R) gs l.toNat
  have e2 := Rep.all_take (R := R) (gs.drop l.toNat) k
  rw [hsz, Nat.mul_one] at e1 e2
  have hjl : j < k := by
    have := (List.getElem?_eq_some_iff.1 hj).1
    rw [Rep.len, hkk, hsz] at this; omega
  rw [← e2, List.getElem?_take_of_lt hjl, ← e1, List.getElem?_drop] at hj
  rw [← h1, List.getElem?_take_of_lt (by omega), List.getElem?_drop] at hj
  rw [Nat.mul_one, Nat.add_assoc]; exact hj⟩
def layL {α : Type} (gs : List α) (l : Nat) (gs' : List α) : List α := gs.take l ++ gs' ++ gs.drop (l + gs'.length)
theorem layL_len {α : Type} {gs gs' : List α} {l : Nat} (h : l + gs'.length ≤ gs.length) : (layL gs l gs').length = gs.length := by simp [layL]; omega
theorem put_blk {cs cs' : List Cs} {o m l : Nat} {gs gs' : List G} (ok : okS cs) (hq : subS cs o m = some [.blk m (R.all gs)]) (hs : R.sz = 1) (hl : l + gs'.length ≤ m) (hp : putS cs o [.blk m (R.all (layL gs l gs'))] = some cs') : okS cs' ∧ splice (flat cs) (o + l) (R.all gs') = flat cs' ∧ o + m ≤ lenS cs := by
  obtain ⟨q1, q2, q3⟩ := subS_ok ok hq
  have hgl : gs.length = m := by have := q2.1; rw [Rep.len, hs, Nat.mul_one] at this; exact this
  have h1 : ∀ l : List G, (R.all l).length = l.length := fun l => by rw [Rep.len, hs, Nat.mul_one]
  have okn : okS [.blk m (R.all (layL gs l gs'))] := ⟨by rw [h1, layL_len (by omega), hgl], trivial⟩
  obtain ⟨e1, e2, e3, e4⟩ := putS_ok ok okn hp
  simp only [lenS, Cs.len] at e4
  have hfl := flat_len ok
  refine ⟨e2, ?_, by omega⟩
  rw [← e1]
  have hset : R.all (layL gs l gs') = splice (R.all gs) l (R.all gs') := by
    have h2 := Rep.all_take (R := R) gs l
    have h3 := Rep.all_drop (R := R) gs (l + gs'.length)
    rw [hs, Nat.mul_one] at h2 h3
    simp only [layL, splice, Rep.all_append, h2, h3, h1]
  have hf1 : flat [.blk m (R.all (layL gs l gs'))] = splice (R.all gs) l (R.all gs') := by simp [flat, Cs.cells, hset]
  rw [hf1]
  apply List.ext_getElem?
  intro q
  have hsl : (splice (R.all gs) l (R.all gs')).length = m := by rw [splice_len (by rw [h1, h1]; omega), h1, hgl]
  rw [splice_get (cs := flat cs) (vs := R.all gs') (by rw [h1]; omega), splice_get (cs := flat cs) (vs := splice (R.all gs) l (R.all gs')) (by rw [hsl]; omega), hsl, h1]
  have hall : ∀ j, j < m → (flat cs)[o + j]? = (R.all gs)[j]? := fun j hj => by
    have : flat [.blk m (R.all gs)] = R.all gs := by simp [flat, Cs.cells]
    rw [← this, ← q1, List.getElem?_take_of_lt hj, List.getElem?_drop]
  by_cases c1 : q < o
  · rw [if_pos (by omega), if_pos c1]
  · rw [if_neg c1]
    by_cases c2 : q < o + m
    · rw [if_pos c2, splice_get (cs := R.all gs) (vs := R.all gs') (by rw [h1, h1]; omega), h1]
      have hq2 := hall (q - o) (by omega)
      rw [show o + (q - o) = q by omega] at hq2
      by_cases c3 : q < o + l
      · rw [if_pos c3, if_pos (show q - o < l by omega), hq2]
      · rw [if_neg c3, if_neg (show ¬ q - o < l by omega)]
        by_cases c4 : q < o + l + gs'.length
        · rw [if_pos c4, if_pos (show q - o < l + gs'.length by omega)]; congr 1; omega
        · rw [if_neg c4, if_neg (show ¬ q - o < l + gs'.length by omega), hq2]
    · rw [if_neg c2, if_neg (by omega), if_neg (by omega)]
/-- copied into an array of a block -/
theorem gcopyb {x y : Operand} {t e tt : TypeId} {g o m k1 c1 k2 c2 : Nat} {l : Int} {B : Option Addr} {gs gs' : List G} {cs cs' : List Cs} {F : Assn → List Assn} (hx : eev E x = some (.slice (some (ela g o m 1 l)) k1 c1)) (hy : eev E y = some (.slice B k2 c2)) (ht : P.underlying t = some (.slice e)) (hz : szB P e = some 1) [hb : FBox L g tt cs] [hI : Ix l m] [hr : Rw w0 X L (.slice B k2 c2) R gs'] [hR : SzIs R 1] (hq : subS cs o m = some [.blk m (R.all gs)]) (hp : putS cs o [.blk m (R.all (layL gs l.toNat gs'))] = some cs') (hk : 0 < k2 ∧ k2 ≤ k1 ∧ l.toNat + k2 ≤ m) [hF : UpdF L (boxA g tt cs) F] (hd : Nat.blt d n = true) (hD : LenIs (layL gs l.toNat gs') m → Dm w0 X ops s (F (boxA g tt cs')))
    (k : LenIs (layL gs l.toNat gs') m → GO P n w0 X (nextM s) ops rest Q ((d, .int .i64 (k2 : Int)) :: E) (F (boxA g tt cs'))) : GO P n w0 X s ops (⟨some d, .call { callee := .builtin .copy, args := #[x, y], argTypes := #[t, t] }, ty, pos, aft, none⟩ :: rest) Q E L := by
  refine go_hv (ρ := Unit) (φ := fun _ => LenIs (layL gs l.toNat gs') m) rfl (fun w hw rest Q k' => ?_) (fun _ h => hD h) (fun _ h => k h)
  have hI' := hI.h
  have hk2 := hr.len hw
  obtain ⟨ok, hc⟩ := box_cells hb hw
  obtain ⟨q1, q2, q3⟩ := subS_ok ok hq
  have h1 : ∀ l : List G, (R.all l).length = l.length := fun l => by rw [Rep.len, hR.h, Nat.mul_one]
  have hgl : gs.length = m := by have := q2.1; rw [h1] at this; exact this
  obtain ⟨p1, p2, p3⟩ := put_blk (l := l.toNat) ok hq hR.h (by omega) hp
  have hst' : St w0 X (F (boxA g tt cs')) (w.setRow g (flat cs').toArray) := hF.st fun i hi => FBox.upd p1 hi hw
  obtain ⟨kk, ⟨_, rfl⟩, hsub⟩ := hw.getM hb.get
  obtain ⟨B', c', e', _, _, _, hrd⟩ := hr.get w hw
  cases e'
  obtain ⟨b, o2, rfl, hcell⟩ := hrd (by rw [h1]; omega)
  have hfl := flat_len ok
  obtain ⟨i, hi, hsz⟩ : ∃ i, P.info? e = some i ∧ i.size = 1 := szB_some hz
  have hrun := run_copy_row (P := P) w t t ty e g (o + l.toNat * 1) k1 c1 ⟨b, o2, none⟩ gs'.length c2 (flat cs).toArray tt (R.all gs') ht (by rw [hi]; simp [hsz]) hsub.one (by rw [h1]; exact (Nat.min_eq_left (by omega)).symm) (fun j v hj => by rw [Addr.add_lit]; exact hcell j v hj) (by rw [h1, List.size_toArray, hfl]; omega) (Rep.one gs')
  rw [ela_eq] at hx
  refine tl_run (fun a ha => by
    simp only [execOp, resolve, invoke, builtin, Sem.run_bind, Sem.run_pure, Result.andThen_ok, List.map_toArray, List.map_cons, List.map_nil, ha.ev hx, ha.ev hy, hrun, h1]; rfl) hd (k' () _ ⟨by rw [layL_len (by omega), hgl]⟩ ?_)
  have hst2 : ((flat cs).take (o + l.toNat * 1) ++ R.all gs' ++ (flat cs).drop (o + l.toNat * 1 + gs'.length)) = flat cs' := by
    have h9 := p2
    simp only [splice, h1] at h9
    rw [Nat.mul_one]; exact h9
  rw [hst2]; exact hst'
end
/-! a block that can be read -/
structure Pr (w : World) (g : Nat) (cs : List Cs) : Prop where
  ok : okS cs
  cell : ∀ (j : Nat) u, (flat cs)[j]? = some u → w.cell? ⟨g, j, none⟩ = some u
class Rp (w0 : World) (X : Nat → Prop) (L : List Assn) (g : Nat) (cs : outParam (List Cs)) : Prop where
  get : ∀ w, St w0 X L w → Pr w g cs
instance Rp.box {w0 : World} {X : Nat → Prop} {L : List Assn} {g : Nat} {t : TypeId} {cs : List Cs} [h : FBox L g t cs] : Rp w0 X L g cs := ⟨fun w hw => by
  obtain ⟨ok, hc⟩ := box_cells h hw
  exact ⟨ok, fun j u hj => (hc j).trans hj⟩⟩
theorem Rp.old {w0 : World} {g : Nat} {cs : List Cs} (h : Pr w0 g cs) (L : List Assn) : Rp w0 no L g cs := ⟨fun w hst => ⟨h.ok, fun j u hj => hst.cell (h.cell j u hj)⟩⟩
theorem lvp {P : Program} {w0 : World} {X : Nat → Prop} {L : List Assn} {g o : Nat} {t : TypeId} {cs : List Cs} {u : Value} [h : Rp w0 X L g cs] (ha : aggB P t = some false) (hu : at1 cs o = some u) : Lv P w0 X L t ⟨g, o, none⟩ u := .mk fun w hw => by
  have hp := h.get w hw
  exact run_loadVar_one ha (hp.cell _ _ (at1_ok hp.ok hu))
theorem lvP {P : Program} {w0 : World} {X : Nat → Prop} {L : List Assn} {g o m : Nat} {t : TypeId} {cs s' : List Cs} [h : Rp w0 X L g cs] (ha : aggB P t = some true) (hz : szB P t = some m) (hu : subS cs o m = some s') : Lv P w0 X L t ⟨g, o, none⟩ (Ag s') := .mk fun w hw => by
  have hp := h.get w hw
  obtain ⟨e1, e2, e3⟩ := subS_ok hp.ok hu
  refine run_loadVar_agg ha (by rw [flat_len e2, e3]; exact hz) fun j u hj => ?_
  rw [Addr.add_lit]
  have hjl : j < m := by rw [← e3, ← flat_len e2]; exact (List.getElem?_eq_some_iff.1 hj).1
  rw [← e1, List.getElem?_take_of_lt hjl, List.getElem?_drop] at hj
  exact hp.cell _ _ hj
/-- bytes, as an array of so many -/
def padT (m : Nat) (l : List UInt8) : List UInt8 := (l ++ List.replicate m 0).take m
theorem ixd_cut {α : Type} [Inhabited α] {gs : List α} {l k : Nat} {j : Int} (h0 : 0 ≤ j) (h : j < k) : ixd ((gs.drop l).take k) j = ixd gs ((l : Int) + j) := by
  have e : ((l : Int) + j).toNat = l + j.toNat := by omega
  unfold ixd
  rw [List.getD_eq_getElem?_getD, List.getD_eq_getElem?_getD, List.getElem?_take_of_lt (by omega), List.getElem?_drop, e]
theorem ixd_set_self {α : Type} [Inhabited α] {gs : List α} {i : Int} {n : Nat} {x : α} (hn : i.toNat = n) (h : n < gs.length) : ixd (gs.set n x) i = x := by subst hn; simp [ixd, h]
theorem set_ixd {α : Type} [Inhabited α] {gs : List α} {i : Nat} (h : i < gs.length) : gs.set i (ixd gs (i : Int)) = gs := by rw [ixd_eq (by simpa using h)]; simp
instance {m : Nat} {l : List UInt8} : LenIs (padT m l) m := ⟨by simp [padT]⟩
theorem padT_eq {m : Nat} {l : List UInt8} (h : l.length = m) : padT m l = l := by
  unfold padT; rw [List.take_append_of_le_length (by omega), ← h, List.take_length]
theorem lvn {P : Program} {w0 : World} {X : Nat → Prop} {L : List Assn} {p : Addr} {A : Option Addr} {m c k : Nat} {i : Int} {t : TypeId} {l : List UInt8} [hp : PtrN p A m c 1 i 0] [hR : Rw w0 X L (.slice A m c) RB l] (ha : aggB P t = some true) (hz : szB P t = some k) (hk : Nat.beq k 0 = false) (hi : 0 ≤ i ∧ i + k ≤ m) : Lv P w0 X L t p (Ag [.blk k (RB.all (padT k ((l.drop i.toNat).take k)))]) := .mk fun w hw => by
  have hk0 : k ≠ 0 := fun e0 => by subst e0; simp [Nat.beq] at hk
  have hl := hR.len hw
  obtain ⟨A', c', e', h1, h2, h3, hr⟩ := hR.get w hw
  cases e'
  obtain ⟨b, o, rfl, hc⟩ := hr (by rw [Rep.len]; exact Nat.mul_pos (by omega) RB.pos)
  have e0 : padT k ((l.drop i.toNat).take k) = (l.drop i.toNat).take k := padT_eq (by simp; omega)
  rw [hp.h, el_eq, Addr.add_zero', e0]
  have hlen : (RB.all ((l.drop i.toNat).take k)).length = k := by
    rw [Rep.len]
    show ((l.drop i.toNat).take k).length * 1 = k
    simp; omega
  have hfl : flat [.blk k (RB.all ((l.drop i.toNat).take k))] = RB.all ((l.drop i.toNat).take k) := by simp [flat, Cs.cells]
  unfold Ag
  rw [hfl]
  refine run_loadVar_agg ha (by rw [hlen]; exact hz) fun j u hj => ?_
  rw [Addr.add_lit]
  have hj32 : j < k := by rw [← hlen]; exact (List.getElem?_eq_some_iff.1 hj).1
  have e1 : RB.all ((l.drop i.toNat).take k) = ((RB.all l).drop i.toNat).take k := by
    have h1 := Rep.all_drop (R := RB) l i.toNat
    have h2 := Rep.all_take (R := RB) (l.drop i.toNat) k
    have es : RB.sz = 1 := rfl
    rw [es, Nat.mul_one] at h1 h2
    rw [h1, h2]
  rw [e1, List.getElem?_take_of_lt hj32, List.getElem?_drop] at hj
  have := hc _ _ hj
  rw [Nat.mul_one, Nat.add_assoc]; exact this
end Go.Proofs.YtalainpmlonahaaDoor
end
section
/-!
  THE SECOND ENGINE, ninth part: cuts of rows of the call's own; rows of rows. No program in sight.
-/
set_option linter.all false
set_option maxRecDepth 100000
namespace Go.Proofs.YtalainpmlonahaaDoor
open Go.RowKit

/-! cuts of nil, of rows of the call's own -/
section
variable {P : Program} {n : Nat} {w0 : World} {X : Nat → Prop} {Q : Cont} {E : Env} {L L' : List Assn} {s : Ms} {ops : Array Oper} {rest : List Oper} {v : Value}
variable {d : Nat} {ty : TypeId} {pos : String} {aft : Array Edge} {op : Op} {G : Type} {R : Rep G} {gs : List G}
theorem gcn {x hi : Operand} {kh : IntKind} {t e : TypeId} {sz : Nat} (hx : eev E x = some (.slice none 0 0)) (hh : eev E hi = some (.int kh 0)) (ht : P.underlying t = some (.slice e)) (hz : szB P e = some sz) (hd : Nat.blt d n = true)
    (kk : GO P n w0 X (nextM s) ops rest Q ((d, .slice none 0 0) :: E) L) : GO P n w0 X s ops (⟨some d, .slice t x none (some hi) none, ty, pos, aft, none⟩ :: rest) Q E L :=
  go_yld rfl (fun _ _ => by simpa using y_cut_h (P := P) (n := n) (d := d) (ty := ty) (pos := pos) (aft := aft) hx hh ht hz (Int.le_refl 0) (Int.le_refl 0)) hd kk
theorem row_take {e : TypeId} {sv : Sv} {m k : Nat} {h : Hp} (hk : k ≤ m) (hr : rw_ e R sv m gs h) : rw_ e R sv k (gs.take k) h := by
  obtain ⟨hl, ⟨rfl, rfl⟩ | ⟨g, ys, rfl, hm, rfl⟩⟩ := hr
  · obtain rfl : k = 0 := by omega
    exact ⟨by simp, .inl ⟨rfl, rfl⟩⟩
  · refine ⟨by simp; omega, .inr ⟨g, gs.drop k ++ ys, ?_, ?_, ?_⟩⟩
    · simp; omega
    · simp; omega
    · rw [← List.append_assoc, List.take_append_drop]
theorem go_mono (hm : ∀ w, St w0 X L w → St w0 X L' w) {l : List Oper} (h : GO P n w0 X s ops l Q E L') : GO P n w0 X s ops l Q E L := by
  cases s with
  | none => exact ⟨fun w hw => h.go w (hm w hw)⟩
  | some p =>
    obtain ⟨r, D⟩ := p
    cases r with
    | nil => cases l with
      | nil => exact ⟨fun w hw => h.go w (hm w hw)⟩
      | cons o l => exact ⟨trivial⟩
    | cons i r => cases l with
      | nil => exact ⟨trivial⟩
      | cons o l => exact ⟨fun hh ph w hw => h.go hh ph w (hm w hw)⟩
    | fork => cases l with
      | nil => exact ⟨fun w hw => h.go w (hm w hw)⟩
      | cons o l => exact ⟨trivial⟩
theorem UpdF.mono {A A' : Assn} {F : Assn → List Assn} [hF : UpdF L A F] (hm : ∀ h, A h → A' h) (w : World) (hw : St w0 X L w) : St w0 X (F A') w := hF.st fun i hi => by
  have h0 := hw.front' hi
  obtain ⟨hp, ⟨a1, a2, a3, a4, a5, a6⟩, hs, hX⟩ := h0.res
  exact ⟨h0.os, h0.tape, h0.output, h0.size, h0.keep, hp, ⟨a1, a2, a3, a4, hm _ a5, a6⟩, hs, hX⟩
/-- the head of a row of the call's own -/
theorem gcr {x hi : Operand} {kh : IntKind} {h : Int} {t e : TypeId} {m sz : Nat} {sv : Sv} {F : Assn → List Assn} (hx : eev E x = some (.slice sv.A m sv.c)) (hh : eev E hi = some (.int kh h)) (ht : P.underlying t = some (.slice e)) [hr : FRow L sv m e R gs] [hs : SzIs R sz] (hz : szB P e = some sz) [hF : UpdF L (rw_ e R sv m gs) F] (hb : 0 ≤ h ∧ h ≤ m) (hd : Nat.blt d n = true)
    (kk : GO P n w0 X (nextM s) ops rest Q ((d, .slice sv.A h.toNat sv.c) :: E) (F (rw_ e R sv h.toNat (gs.take h.toNat)))) : GO P n w0 X s ops (⟨some d, .slice t x none (some hi) none, ty, pos, aft, none⟩ :: rest) Q E L := by
  refine go_with fun w hw => ?_
  have hc := (Rw.of_row (w0 := w0) (X := X) hr.get).cap hw
  refine go_yld (v := .slice sv.A h.toNat sv.c) rfl (fun _ _ => ?_) hd ?_
  · have := y_cut_h (P := P) (n := n) (d := d) (ty := ty) (pos := pos) (aft := aft) hx hh ht hz hb.1 (by omega)
    have e1 : (if sv.c = 0 then sv.A else sv.A.map (·.add (0 * sz))) = sv.A := by
      split
      · rfl
      · cases sv.A <;> simp [Addr.add_zero']
    rw [e1] at this
    simpa using this
  · exact go_mono (fun w hw => UpdF.mono (F := F) (A := rw_ e R sv m gs) (A' := rw_ e R sv h.toNat (gs.take h.toNat)) (fun k hk => row_take (by omega) hk) w hw) kk
/-- so many zero elements, onto nil -/
theorem ganz {sx x : Operand} {t tn e : TypeId} {sz bytes : Nat} {i : Int} {kq kn : IntKind} {g0 : G} (hs : eev E sx = some (.slice none 0 0)) (hx : eev E x = some (.int kq i)) (ht : P.underlying t = some (.slice e)) (htn : P.underlying tn = some (.int kn)) [hE : EL P e sz bytes] [hz0 : ZE P e R g0] [hz : SzIs R sz]
    (hb : 0 ≤ i ∧ i.toNat * bytes ≤ 140737488355328 ∧ i.toNat ≤ 9223372036854775807) (hd : Nat.blt d n = true) (hD : ∀ s' : Sv, Dm w0 X ops s (rw_ e R s' i.toNat (List.replicate i.toNat g0) :: L))
    (kk : ∀ s' : Sv, GO P n w0 X (nextM s) ops rest Q ((d, .slice s'.A i.toNat s'.c) :: E) (rw_ e R s' i.toNat (List.replicate i.toNat g0) :: L)) :
    GO P n w0 X s ops (⟨some d, .call { callee := .builtin .append, args := #[sx, x], argTypes := #[t, tn] }, ty, pos, aft, none⟩ :: rest) Q E L := by
  refine go_hv (ρ := Sv) (φ := fun _ => True) rfl (fun w hw rest Q k' => ?_) (fun s' _ => hD s') (fun s' _ => kk s')
  obtain ⟨info, z, hinf, hzi, hsz, hby, hzc⟩ := hz0.info hE
  have ei : (i.toNat : Int) = i := by omega
  obtain ⟨s', w', hrun, hst⟩ := row_app (ty := ty) (i := 0) (sv := ⟨none, 0⟩) (m := 0) (gs := []) rfl (by simp) hzc (appR_zeros (kq := kq) (k := i.toNat) ht htn hinf hzi hsz hby hzc hb.2.1 (by omega)) (by rw [Nat.zero_add]; exact hb.2.1) (by have h3 := hb.2.2; simp only [maxLen, Nat.zero_add]; exact h3) (nil_row hw e R)
  have hrun' : (Builtin.append_ #[t, tn] ty #[.slice none 0 0, .int kq i]).run P w = .ok (.slice s'.A i.toNat s'.c) w' := by
    rw [ei] at hrun; simpa only [sl, Nat.zero_add] using hrun
  refine tl_run (fun a ha => by
    simp only [execOp, resolve, invoke, builtin, Sem.run_bind, Sem.run_pure, Result.andThen_ok, List.map_toArray, List.map_cons, List.map_nil, ha.ev hs, ha.ev hx, hrun']) hd (k' s' w' trivial ?_)
  simpa using hst
end
section
variable {P : Program} {n : Nat} {w0 : World} {X : Nat → Prop} {Q : Cont} {E : Env} {L L' : List Assn} {s : Ms} {ops : Array Oper} {rest : List Oper} {v : Value}
variable {d : Nat} {ty : TypeId} {pos : String} {aft : Array Edge} {G : Type}
theorem y_cut_hm {x hi mx : Operand} {A : Option Addr} {len cap sz : Nat} {kh km : IntKind} {h m : Int} {t e : TypeId} (hx : eev E x = some (.slice A len cap)) (hh : eev E hi = some (.int kh h)) (hm : eev E mx = some (.int km m)) (ht : P.underlying t = some (.slice e)) (hz : szB P e = some sz) (h0 : 0 ≤ h) (h2 : h ≤ m) (h3 : m ≤ cap) :
    Yld P n ⟨some d, .slice t x none (some hi) (some mx), ty, pos, aft, none⟩ E (.slice (if m.toNat = 0 then A else A.map (·.add (0 * sz))) (h.toNat - 0) (m.toNat - 0)) := ⟨fun a w ha => by
  have e1 : (h : Int) ≤ m.toNat := by omega
  simp [execOp, ha.ev hx, ha.ev hh, ha.ev hm, Instr.sliceAt, Instr.slice, Instr.sliceBounds, run_underlying ht, run_sizeOf hz, run_bound (show 0 ≤ m by omega) h3, run_bound h0 e1]⟩
theorem gchm {x hi mx : Operand} {A : Option Addr} {m c sz : Nat} {kh km : IntKind} {h mm : Int} {t e : TypeId} {R : Rep G} {gs : List G} (hx : eev E x = some (.slice A m c)) (hh : eev E hi = some (.int kh h)) (hm : eev E mx = some (.int km mm)) (ht : P.underlying t = some (.slice e)) (hz : szB P e = some sz) [hR : Rw w0 X L (.slice A m c) R gs] (hb : 0 ≤ h ∧ h ≤ m ∧ h ≤ mm ∧ mm ≤ m) (hd : Nat.blt d n = true)
    (kk : Cu 0 h.toNat m c mm.toNat mm.toNat → GO P n w0 X (nextM s) ops rest Q ((d, .slice (cutA A m c mm.toNat sz 0) h.toNat mm.toNat) :: E) L) : GO P n w0 X s ops (⟨some d, .slice t x none (some hi) (some mx), ty, pos, aft, none⟩ :: rest) Q E L :=
  go_with fun w hw => by
    have hc := hR.cap hw
    refine go_yld rfl (fun _ _ => ?_) hd (kk ⟨by omega⟩)
    have := y_cut_hm (P := P) (n := n) (d := d) (ty := ty) (pos := pos) (aft := aft) hx hh hm ht hz hb.1 hb.2.2.1 (by omega)
    unfold cutA; simpa using this
/-- shifted, whatever its sign; shifted out -/
def pss (E : Env) : Op → Option (Value × Prop)
  | .binOp .shr _ x y _ => match eev E x, eev E y with
    | some (.int k i), some (.int _ j) => some (.int k (i / 2 ^ j.toNat), InSh k j)
    | _, _ => none
  | .binOp .shl _ x y _ => match eev E x, eev E y with
    | some (.int k i), some (.int _ j) => some (.int k (k.wrap (i * 2 ^ j.toNat)), InSh k j)
    | _, _ => none
  | _ => none
theorem pss_light {op : Op} {φ : Prop} (h : pss E op = some (v, φ)) : isLight op = true := by
  unfold pss at h
  split at h <;> first | rfl | cases h
theorem pss_ok {op : Op} {φ : Prop} (h : pss E op = some (v, φ)) (hφ : φ) : Yld P n ⟨some d, op, ty, pos, aft, none⟩ E v := by
  unfold pss at h
  split at h
  · split at h <;> cases h
    rename_i hx hy
    have h1 := hφ
    refine y_shr hx hy h1.min.1 ?_
    rw [h1.min.2, Int.fdiv_eq_ediv_of_nonneg _ (by exact_mod_cast Nat.zero_le _)]
  · split at h <;> cases h
    rename_i hx hy
    have h1 := hφ
    refine y_shl hx hy h1.min.1 ?_
    rw [h1.min.2]
  · cases h
theorem gss {op : Op} {φ : Prop} (h : pss E op = some (v, φ)) (hφ : φ) (hd : Nat.blt d n = true) (k : GO P n w0 X (nextM s) ops rest Q ((d, v) :: E) L) : GO P n w0 X s ops (⟨some d, op, ty, pos, aft, none⟩ :: rest) Q E L := go_yld (pss_light h) (fun _ _ => pss_ok h hφ) hd k
/-- a literal without elements: not nil -/
theorem gbe {t e : TypeId} {sz bytes : Nat} (R : Rep G) (ht : P.underlying t = some (.slice e)) [hE : EL P e sz bytes] [hs : SzIs R sz] (hd : Nat.blt d n = true)
    (hD : ∀ s' : Sv, s'.A.isNone = false → Dm w0 X ops s (rw_ e R s' 0 [] :: L)) (kk : ∀ s' : Sv, s'.A.isNone = false → GO P n w0 X (nextM s) ops rest Q ((d, .slice s'.A 0 s'.c) :: E) (rw_ e R s' 0 [] :: L)) :
    GO P n w0 X s ops (⟨some d, .buildSlice t 0 #[], ty, pos, aft, none⟩ :: rest) Q E L := by
  refine go_hv (ρ := Sv) (φ := fun s' => s'.A.isNone = false) rfl (fun w hw rest Q k' => ?_) (fun s' h => hD s' h) (fun s' h => kk s' h)
  obtain ⟨info, z, hinf, hzi, hsz, hby, hzs, hpos'⟩ := hE.h
  have hsR := hs.h
  subst hsR
  have hsB : (sizeOf e).run P w = .ok R.sz w := by simp [sizeOf, typeInfo, hinf, hsz]
  refine tl_run (w' := w.alloc (.cells (R.all []).toArray e)) (fun a ha => ?_) hd (k' ⟨some ⟨w.heap.size, 0, none⟩, 0⟩ _ rfl ?_)
  · simp only [execOp, Instr.buildSlice, Sem.run_bind, run_underlying ht, Result.andThen_ok, hsB]
    have e0 : (Array.range 0) = #[] := rfl
    simp [newRow, Rep.all, e0, Instr.fill, newObj]
    rfl
  · refine hw.grow rfl rfl rfl (by simp) (fun b hb => Below.heap_alloc w _ b hb) ⟨hone w.heap.size _, ⟨rfl, .inr ⟨w.heap.size, [], rfl, by simp only [List.length_nil, maxLen]; omega, rfl⟩⟩, ?_, fun b hb => by rw [hone_ne hb]; exact Nat.le_refl _⟩
    rw [List.append_nil]; exact Sub.of_one (heap_alloc_new w _)
end
theorem Slr.isNone {w : World} {G : Type} {R : Rep G} {A : Option Addr} {n c : Nat} {gs : List G} (h : Slr w R (.slice A n c) gs) (h0 : A.isNone = true) : gs = [] := by
  obtain ⟨a, c', e1, e2, e3, e4, e5⟩ := h
  cases e1
  cases gs with
  | nil => rfl
  | cons g gs =>
    have := R.pos
    obtain ⟨b, o, rfl, _⟩ := e5 (by rw [Rep.len, List.length_cons, Nat.succ_mul]; omega)
    cases h0
/-! rows of rows -/
abbrev BsG := Sv × List UInt8
def RBs : Rep BsG := ⟨1, fun x => [.one (.slice x.1.A x.2.length x.1.c)], by decide, fun _ => ⟨trivial, rfl, rfl⟩⟩
instance : SzIs RBs 1 := ⟨rfl⟩
instance {s : Sv} {l : List UInt8} : Elm RBs (.slice s.A l.length s.c) (s, l) := ⟨rfl⟩
def BsP (w : World) (gs : List BsG) : Prop := ∀ x ∈ gs, Sb w (.slice x.1.A x.2.length x.1.c) x.2
class BsR (w0 : World) (X : Nat → Prop) (L : List Assn) (gs : List BsG) : Prop where
  get : ∀ w, St w0 X L w → BsP w gs
theorem BsR.old {w0 : World} {gs : List BsG} (h : BsP w0 gs) (L : List Assn) : BsR w0 no L gs := ⟨fun w hst o ho => hst.sl (h o ho)⟩
instance BsR.nil {w0 : World} {X : Nat → Prop} {L : List Assn} : BsR w0 X L [] := ⟨fun _ _ _ h => by cases h⟩
instance BsR.cons {w0 : World} {X : Nat → Prop} {L : List Assn} {s : Sv} {l : List UInt8} {gs : List BsG} [h : Rw w0 X L (.slice s.A l.length s.c) RB l] [h' : BsR w0 X L gs] : BsR w0 X L ((s, l) :: gs) := ⟨fun w hw x hx => by
  rcases List.mem_cons.1 hx with rfl | hx
  · exact h.get w hw
  · exact h'.get w hw x hx⟩
/-- an array of zeros -/
theorem gba0 {P : Program} {n : Nat} {w0 : World} {X : Nat → Prop} {Q : Cont} {E : Env} {L : List Assn} {s : Ms} {ops : Array Oper} {rest : List Oper} {d : Nat} {ty : TypeId} {pos : String} {aft : Array Edge} {t e : TypeId} {k sz : Nat} {z : List Cs}
    (hs : P.underlying t = some (.array k e)) [hz : ZS P t z] (hz2 : szB P e = some sz) (hd : Nat.blt d n = true)
    (kk : GO P n w0 X (nextM s) ops rest Q ((d, Ag z) :: E) L) : GO P n w0 X s ops (⟨some d, .build t #[], ty, pos, aft, none⟩ :: rest) Q E L := by
  refine go_yld rfl (fun _ _ => ⟨fun a w ha => ?_⟩) hd kk
  obtain ⟨zv, hzv, hzc⟩ := Option.map_eq_some_iff.1 hz.h
  have e0 : zv.cells = (flat z).toArray := by rw [← hzc]
  simp [execOp, Instr.build, run_zeroValue hzv, run_underlying hs, run_sizeOf hz2, Instr.fill, Ag, e0]
section
variable {w0 : World} {X : Nat → Prop} {L : List Assn}
theorem Slr.nil {G : Type} {R : Rep G} {w : World} : Slr w R (.slice none 0 0) ([] : List G) := ⟨none, 0, rfl, by simp [Rep.all], Nat.le_refl _, by decide, fun h => absurd h (by simp [Rep.all])⟩
set_option synthInstance.checkSynthOrder false in
instance Rw.nil {G : Type} {R : Rep G} : Rw w0 X L (.slice none 0 0) R ([] : List G) := ⟨fun _ _ => Slr.nil⟩
end
end Go.Proofs.YtalainpmlonahaaDoor
end
section
/-!
  THE SECOND ENGINE, eleventh part: functions that have captured a block; bytes of a string. No program in sight.
-/
set_option linter.all false
set_option maxRecDepth 100000
namespace Go.Proofs.YtalainpmlonahaaDoor
open Go.RowKit
section
variable {P : Program} {n : Nat} {w0 : World} {X : Nat → Prop} {Q : Cont} {E : Env} {L L' : List Assn} {s : Ms} {ops : Array Oper} {rest : List Oper} {v : Value}
variable {d : Nat} {ty : TypeId} {pos : String} {aft : Array Edge} {ats : Array TypeId} {pre : Prop} {ρ : Type} {val : ρ → Value} {M : ρ → List Assn} {φ : ρ → Prop} {f : FuncId}
theorem gcc1 {fo x : Operand} {u c : Value} (hf : eev E fo = some (.func (.func f) #[] #[c])) (hx : eev E x = some u) [h : Ctr P f [u, c] w0 X L pre val M φ] (hp : Pre pre) (hd : Nat.blt d n = true) (hD : ∀ r, φ r → Dm w0 X ops s (M r))
    (k : ∀ r, φ r → GO P n w0 X (nextM s) ops rest Q ((d, val r) :: E) (M r)) : GO P n w0 X s ops (⟨some d, .call { callee := .value fo, args := #[x], argTypes := ats }, ty, pos, aft, none⟩ :: rest) Q E L := by
  have h' : Ctr P f ([] ++ [u] ++ [c]) w0 X L pre val M φ := h
  exact gca' (xs := [x]) (vs := [u]) (first := []) (cap := [c]) hf (by simp only [evs, hx]) hp hd hD k
variable {op : Op} {G : Type} {R : Rep G} {gs : List G}
/-- all of an array: as long as what it holds -/
theorem gcal {x : Operand} {t e : TypeId} {g o k sz : Nat} {l : List UInt8} (hx : eev E x = some (.pointer (some ⟨g, o, none⟩))) (ht : P.underlying t = some (.array k e)) (hz : szB P e = some sz) [hR : Rw w0 X L (.slice (some ⟨g, o, none⟩) k k) RB l] (hd : Nat.blt d n = true)
    (kk : GO P n w0 X (nextM s) ops rest Q ((d, .slice (some ⟨g, o, none⟩) l.length k) :: E) L) : GO P n w0 X s ops (⟨some d, .slice t x none none none, ty, pos, aft, none⟩ :: rest) Q E L :=
  go_with fun w hw => by
    have e := hR.len hw
    exact go_yld rfl (fun _ _ => by rw [e]; exact y_arr_all hx ht hz) hd kk
instance Rw.boxl {g o k : Nat} {l : List UInt8} [hR : Rw w0 X L (.slice (some ⟨g, o, none⟩) k k) RB l] : Rw w0 X L (.slice (some ⟨g, o, none⟩) l.length k) RB l := ⟨fun w hw => by
  have e := hR.len hw
  rw [e]; exact hR.get w hw⟩
instance (priority := low) elmA {A : Option Addr} {c : Nat} {l : List UInt8} : Elm RBs (.slice A l.length c) (⟨A, c⟩, l) := ⟨rfl⟩
/-- an array of two -/
theorem gbar2 {t e : TypeId} {x y : Operand} {u v : Value} {zs : List Cs} (hs : P.underlying t = some (.array 2 e)) [hz : ZS P t zs] (hz2 : szB P e = some 1) (hl : lenS zs = 2) (hx : eev E x = some u) (hy : eev E y = some v) [hu : Sg u [.one u]] [hv : Sg v [.one v]] (hd : Nat.blt d n = true)
    (kk : GO P n w0 X (nextM s) ops rest Q ((d, Ag [.one u, .one v]) :: E) L) : GO P n w0 X s ops (⟨some d, .build t #[(0, x), (1, y)], ty, pos, aft, none⟩ :: rest) Q E L := by
  refine go_yld rfl (fun _ _ => ⟨fun a w ha => ?_⟩) hd kk
  obtain ⟨zv, hzv, hzc⟩ := Option.map_eq_some_iff.1 hz.h
  have hzl : zv.cells.toList.length = 2 := by rw [hzc, flat_len hz.ok, hl]
  have hu1 := hu.h.1
  have hv1 := hv.h.1
  simp only [flat, Cs.cells, List.append_nil] at hu1 hv1
  have hu2 : u.cells = #[u] := by apply Array.ext'; simpa using hu1
  have hv2 : v.cells = #[v] := by apply Array.ext'; simpa using hv1
  obtain ⟨p, q, hpq⟩ : ∃ p q, zv.cells = #[p, q] := by
    match h : zv.cells.toList, hzl with
    | [p, q], _ => exact ⟨p, q, by apply Array.ext'; simpa using h⟩
  simp [execOp, Instr.build, Sem.run_bind, run_zeroValue hzv, run_underlying hs, run_sizeOf hz2, ha.ev hx, ha.ev hy, hu2, hv2, hpq, Instr.fill, flat, Cs.cells]
/-- an element of an array, at a place that is known -/
theorem lvx {g o m sz : Nat} {i : Int} {t tt : TypeId} {cs : List Cs} {u : Value} [h : FBox L g tt cs] (ha : aggB P t = some false) (hu : at1 cs (o + i.toNat * sz) = some u) : Lv P w0 X L t (ela g o m sz i) u := .mk fun w hw => by
  obtain ⟨ok, hc⟩ := box_cells h hw
  rw [ela_eq]
  exact run_loadVar_one ha ((hc _).trans (at1_ok ok hu))
/-- a scope to whose labels nothing jumps -/
theorem gscope0 {c : Code} (h : GC P n w0 X c (scope1 w0 X 0 (fun _ : Empty => []) (fun _ => []) (fun _ => False) (fun _ => 0) 0 Q) E L) : GC P n w0 X (.scope c) Q E L :=
  ⟨fun w hw => t_scope (fun _ (_ : Empty) => []) (fun l _ w => l = 0 ∧ False ∧ St w0 X [] w) (fun _ _ => 0) 0 (h.go w hw) fun _ x => x.elim⟩
theorem gmin {x y : Operand} {k k' : IntKind} {i j : Int} {ats : Array TypeId} (hx : eev E x = some (.int k i)) (hy : eev E y = some (.int k' j)) (hd : Nat.blt d n = true) (hD : Dm w0 X ops s L)
    (kk : ∀ m : Int, (m ≤ i ∧ m ≤ j ∧ (m = i ∨ m = j)) → GO P n w0 X (nextM s) ops rest Q ((d, .int k m) :: E) L) : GO P n w0 X s ops (⟨some d, .call { callee := .builtin .min, args := #[x, y], argTypes := ats }, ty, pos, aft, none⟩ :: rest) Q E L := by
  refine go_hv (ρ := Unit) (E' := fun _ => (d, .int k (if j < i then j else i)) :: E) (L' := fun _ => L) (φ := fun _ => True) rfl (fun w hw rest Q k' => ?_) (fun _ _ => hD) (fun _ _ => kk _ (by split <;> omega))
  refine tl_run (w' := w) (fun a ha => ?_) hd (k' () w trivial hw)
  simp only [execOp, resolve, invoke, builtin, Sem.run_bind, Sem.run_pure, Result.andThen_ok, List.map_toArray, List.map_cons, List.map_nil, ha.ev hx, ha.ev hy, run_min_int2]
theorem gmf {fn : Fn} {x : Operand} (hx : eev E x = some v) (hd : Nat.blt d n = true) (hD : Dm w0 X ops s L)
    (k : GO P n w0 X (nextM s) ops rest Q ((d, .func fn #[] #[v]) :: E) L) : GO P n w0 X s ops (⟨some d, .makeFunc fn #[] #[x], ty, pos, aft, none⟩ :: rest) Q E L := by
  refine go_hv (ρ := Unit) (E' := fun _ => (d, .func fn #[] #[v]) :: E) (L' := fun _ => L) (φ := fun _ => True) rfl (fun w hw rest Q k' => ?_) (fun _ _ => hD) (fun _ _ => k)
  refine tl_run (w' := w) (fun a ha => ?_) hd (k' () w trivial hw)
  have h1 := ha.ev hx
  simp [execOp, Instr.makeFunc, h1]
/-- a byte of a text that is written out: as a list tells -/
theorem gstr {x ix : Operand} {t : TypeId} {b : ByteArray} {i : Int} {k : IntKind} {l : List UInt8} {m : Nat} [hm : LenIs l m] (hx : eev E x = some (.string b)) (hi : eev E ix = some (.int k i)) (ht : P.underlying t = some .string) (hb : 0 ≤ i ∧ i < m) (hl : b.data.toList = l) (hd : Nat.blt d n = true)
    (kk : GO P n w0 X (nextM s) ops rest Q ((d, .int .u8 ((ixd l i).toNat : Int)) :: E) L) : GO P n w0 X s ops (⟨some d, .index t x ix, ty, pos, aft, none⟩ :: rest) Q E L := by
  refine go_yld rfl (fun _ _ => ⟨fun a w hc => ?_⟩) hd kk
  obtain ⟨h0, h1⟩ := hb
  have hlt : i.toNat < l.length := by rw [hm.h]; omega
  have hlt' : i.toNat < b.size := by have e : b.data.size = b.size := rfl; rw [← e, ← Array.length_toList, hl]; exact hlt
  have e : b[i.toNat]? = some l[i.toNat] := by
    rw [getElem?_pos b i.toNat hlt']
    subst hl
    rfl
  simp only [execOp, hc.ev hx, hc.ev hi, Instr.index, asIntOf, Sem.run_bind, Sem.run_pure, Result.andThen_ok, run_underlying ht, if_pos h0, e, ixd_eq hlt]
/-- a loop of four variables -/
def loop4 {σ τ υ ν : Type} (w0 : World) (X : Nat → Prop) (E' : σ → τ → υ → ν → Env) (L' : σ → τ → υ → ν → List Assn) (φ : σ → τ → υ → ν → Prop) (m : σ → τ → υ → ν → Nat) (k : Nat) (Q : Cont) : Cont :=
  .loop (σ × τ × υ × ν) (fun p => E' p.1 p.2.1 p.2.2.1 p.2.2.2) (fun p w => φ p.1 p.2.1 p.2.2.1 p.2.2.2 ∧ St w0 X (L' p.1 p.2.1 p.2.2.1 p.2.2.2) w) (fun p => m p.1 p.2.1 p.2.2.1 p.2.2.2) k Q
theorem gloop4 {σ τ υ ν : Type} (ds : List Nat) (E' : σ → τ → υ → ν → Env → Env) (L' : σ → τ → υ → ν → List Assn) (φ : σ → τ → υ → ν → Prop) (m : σ → τ → υ → ν → Nat) (x : σ) (y : τ) (z : υ) (u : ν) {K : Env} {c : Code} (hk : evl E ds = some K) (hs : ESub E (E' x y z u K)) (hL : Ent L (L' x y z u)) (hφ : φ x y z u)
    (round : ∀ x y z u, φ x y z u → GC P n w0 X c (loop4 w0 X (fun x y z u => E' x y z u K) L' φ m (m x y z u) Q) (E' x y z u K) (L' x y z u)) : GC P n w0 X (.loop c) Q E L :=
  ⟨fun w hw => t_loop (fun p : σ × τ × υ × ν => E' p.1 p.2.1 p.2.2.1 p.2.2.2 K) (fun (p : σ × τ × υ × ν) w => φ p.1 p.2.1 p.2.2.1 p.2.2.2 ∧ St w0 X (L' p.1 p.2.1 p.2.2.1 p.2.2.2) w) (fun p : σ × τ × υ × ν => m p.1 p.2.1 p.2.2.1 p.2.2.2) (x, y, z, u) hs ⟨hφ, hL.go _ _ _ hw⟩ fun (p : σ × τ × υ × ν) w hj => (round p.1 p.2.1 p.2.2.1 p.2.2.2 hj.1).go w hj.2⟩
theorem gnl4 {σ τ υ ν : Type} {E' : σ → τ → υ → ν → Env} {L' : σ → τ → υ → ν → List Assn} {φ : σ → τ → υ → ν → Prop} {m : σ → τ → υ → ν → Nat} {k : Nat} (x : σ) (y : τ) (z : υ) (u : ν) (hs : ESub E (E' x y z u)) (hL : Ent L (L' x y z u)) (hφ : φ x y z u) (hm : m x y z u < k) : GN P n w0 X (loop4 w0 X E' L' φ m k Q) E L :=
  ⟨fun w hw => n_loop (x, y, z, u) hs ⟨hφ, hL.go _ _ _ hw⟩ hm⟩
end
end Go.Proofs.YtalainpmlonahaaDoor
end
