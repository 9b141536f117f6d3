/-
  moneyerlaw10: BlockSealed.
-/
import Derived.Test.YtalainpmlonahaaDoorBg
set_option linter.all false
set_option maxRecDepth 100000
set_option maxHeartbeats 4000000
namespace Go.Proofs.YtalainpmlonahaaDoor
open Go.RowKit

theorem xor8 (a : UInt8) {k : Int} (h : 0 ≤ k ∧ k ≤ 255) : bits .xor .u8 (a.toNat : Int) k = ((a ^^^ u8 k).toNat : Int) := by
  obtain ⟨m, rfl⟩ := Int.eq_ofNat_of_zero_le h.1
  have hm : m < 256 := by omega
  have ha := a.toNat_lt
  unfold bits
  have h1 : (BitVec.ofInt IntKind.u8.bits (a.toNat : Int) ^^^ BitVec.ofInt IntKind.u8.bits (m : Int)).toNat = a.toNat ^^^ m := by
    show (BitVec.ofInt 8 (a.toNat : Int) ^^^ BitVec.ofInt 8 (m : Int)).toNat = a.toNat ^^^ m
    rw [BitVec.toNat_xor]
    have a1 : (BitVec.ofInt 8 (a.toNat : Int)).toNat = a.toNat := by rw [BitVec.toNat_ofInt]; omega
    have a2 : (BitVec.ofInt 8 (m : Int)).toNat = m := by rw [BitVec.toNat_ofInt]; omega
    rw [a1, a2]
  simp only [h1]
  have h2 : a.toNat ^^^ m < 256 := Nat.xor_lt_two_pow (n := 8) (by omega) (by omega)
  have h3 : (u8 (m : Int)).toNat = m := by simp only [u8, UInt8.toNat_ofNat']; omega
  rw [IntKind.wrap_u8, UInt8.toNat_xor, h3]
  omega
theorem set_xor {l : List UInt8} {i : Nat} {b : Int} (hi : i < l.length) (hb : 0 ≤ b ∧ b ≤ 255) : l = l.set i (ixd l (i : Int) ^^^ u8 b) ↔ b = 0 := by
  have e : ixd l (i : Int) = l[i] := by rw [ixd_eq (by simpa using hi)]; simp
  rw [e]
  constructor
  · intro h
    have h1 := congrArg (·[i]?) h
    simp only [List.getElem?_set_self hi, List.getElem?_eq_getElem hi, Option.some.injEq] at h1
    have h2 : u8 b = 0 := by
      have : l[i] ^^^ l[i] = l[i] ^^^ (l[i] ^^^ u8 b) := by rw [← h1]
      rw [← UInt8.xor_assoc, UInt8.xor_self, UInt8.zero_xor] at this
      exact this.symm
    have h3 : (u8 b).toNat = 0 := by rw [h2]; rfl
    simp only [u8, UInt8.toNat_ofNat'] at h3
    omega
  · rintro rfl
    have h2 : u8 0 = 0 := by decide
    rw [h2, UInt8.xor_zero]
    simp
theorem sealedB_key {root : List UInt8} {a b : List TxG} (h : a.map txK = b.map txK) : sealedB root a = sealedB root b := by
  unfold sealedB; rw [idsE_key h, rootT_key h]
theorem sealed_is {ts rs : List TxG} {root : List UInt8} (he : sealE ts = 0) (hk : rs.map txK = if sealE ts = 0 then ts.map txK else []) : sealedB root rs = decide ((rootT ts).1.l = root) := by
  rw [if_pos he] at hk
  obtain ⟨h1, h2⟩ := sealE_ok he
  rw [sealedB_key hk]; unfold sealedB
  exact decide_eq_decide.2 ⟨fun h => h.2.2, fun h => ⟨h1, h2, h⟩⟩
theorem sealed_yes {ts rs : List TxG} (he : sealE ts = 0) (hk : rs.map txK = if sealE ts = 0 then ts.map txK else []) : sealedB (pickL (sealE ts = 0) (rootT ts).1.l) rs = true := by
  rw [sealed_is he hk, pickL, if_pos he]; simp
theorem sealed_not {ts rs : List TxG} {n b : Int} (hn : 0 ≤ n ∧ n < 32) (hb : 0 ≤ b ∧ b ≤ 255) (he : sealE ts = 0) (hk : rs.map txK = if sealE ts = 0 then ts.map txK else []) :
    sealedB ((pickL (sealE ts = 0) (rootT ts).1.l).set n.toNat (ixd (pickL (sealE ts = 0) (rootT ts).1.l) n ^^^ u8 b)) rs = decide (b = 0) := by
  obtain ⟨i, rfl⟩ := Int.eq_ofNat_of_zero_le hn.1
  have hl := (rootT ts).1.len
  rw [sealed_is he hk, pickL, if_pos he]
  exact decide_eq_decide.2 (set_xor (by omega) hb)
theorem blockSealed_ok (prev : List UInt8) [hprev : LenIs prev 32] (root : List UInt8) [hroot : LenIs root 32] (tm bits' nonce : Int) (txsA : Option Addr) (txsc : Nat) (txs : List TxG) (n b : Int) (w0 : World) (hK : KOk w0) (hE : EOk w0) (htxs : Slr w0 RTx (.slice txsA txs.length txsc) txs) (q_txs : TxsP w0 txs) (hp : (0 ≤ n ∧ n ≤ 255) ∧ (0 ≤ b ∧ b ≤ 255)) :
    Ct Tryd.prog 5 [Ag [.blk 32 (RB.all prev), .blk 32 (RB.all root), .one (.int .u32 tm), .one (.int .u32 bits'), .one (.int .u32 nonce), .one (.slice txsA txs.length txsc)], .int .u8 n, .int .u8 b] w0 no (fun _ : Unit => .bool true) (fun _ => []) (fun _ => True) := by
  have hst := St.start w0
  have i_txs := Rw.old htxs
  have j_txs := TxsR.old q_txs
  have j_K := KR.old hK
  have j_E := ER.old hE
  refine genter _ hst Tryd.func5 rfl rfl rfl rfl ?_
  repeat' (first
   | refine gy (y_xor rfl rfl (xor8 _ ⟨by omega, by omega⟩)) rfl rfl ?_
   | (refine z1 ?_; intros)
   | (refine z2 ?_ ?_ <;> first | exact zi | intro h | skip)
   | (refine kR ?_; refine zr (()) ?_)
   | (refine kO ?_; refine zc ?_ ?_ <;> intros)
   | (refine kD ?_; exact dz))
  all_goals first
    | trivial
    | (rename sealedB _ _ = false => c; exact absurd ((sealed_yes (by assumption) (by assumption)).symm.trans c) (by decide))
    | (rename (sealedB _ _ == _) = false => c; rw [sealed_not ⟨by omega, by omega⟩ hp.2 (by assumption) (by assumption)] at c; simp at c)
end Go.Proofs.YtalainpmlonahaaDoor
