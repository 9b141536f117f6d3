/-
  moneyerref01: contracts, to the same plain functions as ends'.
-/
import Derived.Test.YtalainpmlonahaaDoorVends
set_option linter.all false
set_option maxRecDepth 100000
set_option maxHeartbeats 4000000
namespace Go.Proofs.YtalainpmlonahaaDoor
open Go.RowKit

theorem ref01_size (n : Int) (w0 : World)   :
    Ct Tryd.prog 81 [.int .i64 n] w0 no (fun ((e0) : Bool) => .bool e0) (fun (e0) => []) (fun (e0) => e0 = sizeOk n) := by
  have hst := St.start w0
  refine genter _ hst Tryd.func81 rfl rfl rfl rfl ?_
  repeat' (first
   | (refine z1 ?_; intros)
   | (refine z2 ?_ ?_ <;> first | exact zi | intro h | skip)
   | (refine kR ?_; refine zr (_) ?_)
   | (refine kO ?_; refine zc ?_ ?_ <;> intros))
  all_goals grind
instance c_ref01_size {n : Int} {w0 : World} {X : Nat → Prop} {L : List Assn}  : Ctr Tryd.prog 81 [.int .i64 n] w0 X L (True) (fun _ : Unit => .bool (sizeOk n)) (fun _ : Unit => L) (fun _ : Unit => True) :=
  ctr' (M' := (fun _ : Unit => [])) (by kernel_rfl) (fun hp w hw => by exact ref01_size _ w) (by rintro hp e0 rfl ok; exact ⟨(), rfl, rfl, trivial⟩)
theorem byteAt_mod (n : Int) (i : Nat) : u8 (n / 2 ^ (8 * i) % 256) = byteAt n i := u8_mod _
theorem pow_next (n : Int) (i : Nat) : n / 2 ^ (8 * i) / 256 = n / 2 ^ (8 * (i + 1)) := by
  rw [Int.ediv_ediv_of_nonneg (by exact_mod_cast Nat.zero_le _), show 8 * (i + 1) = 8 * i + 8 by omega, Int.pow_add]; rfl
theorem div_b (n : Int) (i : Nat) (h : 0 ≤ n ∧ n ≤ 18446744073709551615) : 0 ≤ n / 2 ^ (8 * i) ∧ n / 2 ^ (8 * i) ≤ 18446744073709551615 :=
  ⟨Int.ediv_nonneg h.1 (by exact_mod_cast Nat.zero_le _), Int.le_trans (Int.ediv_le_self _ h.1) h.2⟩
theorem ref01_low (n : Int) (k : Int) (w0 : World)  (hp : 0 ≤ n ∧ n ≤ 18446744073709551615 ∧ 0 ≤ k ∧ k ≤ 8) :
    Ct Tryd.prog 82 [.int .u64 n, .int .i64 k] w0 no (fun ((⟨s0, n0, x0⟩) : Br UInt8) => .slice s0.A n0 s0.c) (fun (⟨s0, n0, x0⟩) => [rw_ 5 RB s0 n0 x0]) (fun (⟨s0, n0, x0⟩) => x0 = (lowS n k.toNat)) := by
  have hst := St.start w0
  refine genter _ hst Tryd.func82 rfl rfl rfl rfl ?_
  obtain ⟨m, rfl⟩ := Int.eq_ofNat_of_zero_le hp.2.2.1
  repeat' (first
   | (refine z1 ?_; intros)
   | (refine z2 ?_ ?_ <;> first | exact zi | intro h | skip)
   | (refine kR ?_; refine zr (⟨⟨_, _⟩, _, _⟩) ?_)
   | (refine kO ?_; refine zc ?_ ?_ <;> intros))
  refine gloop2 [1] (fun (i : Nat) (s : Sv) K => (0, .int .u64 (n / 2 ^ (8 * i))) :: (5, .slice s.A i s.c) :: (6, .int .i64 i) :: K) (fun i s => [rw_ 5 RB s i (lowS n i)]) (fun i s => i ≤ m) (fun i s => m - i) 0 ⟨none, 0⟩ rfl ⟨by show some (Value.int .u64 n) = _; simp, rfl, rfl, rfl, trivial⟩ (er0 Ent.nil) (Nat.zero_le _) (fun i s hi => ?_)
  have hd := div_b n i ⟨hp.1, hp.2.1⟩
  repeat' (first
   | (refine z1 ?_; intros)
   | (refine z2 ?_ ?_ <;> first | exact zi | intro h | skip)
   | (refine kR ?_; refine zr (⟨⟨_, _⟩, _, _⟩) ?_)
   | (refine kO ?_; refine zc ?_ ?_ <;> intros))
  · rename_i s'
    refine gnl2 (i + 1) s' ⟨by rw [← pow_next]; rfl, rfl, rfl, rfl, trivial⟩ ?_ (by omega) (by omega)
    rw [lowS_succ, ← byteAt_mod]; exact er Ent.nil
  · obtain rfl : i = m := by omega
    simp
instance c_ref01_low {n : Int} {k : Int} {w0 : World} {X : Nat → Prop} {L : List Assn}  : Ctr Tryd.prog 82 [.int .u64 n, .int .i64 k] w0 X L (0 ≤ n ∧ n ≤ 18446744073709551615 ∧ 0 ≤ k ∧ k ≤ 8) (fun s0 : Sv => .slice s0.A (lowS n k.toNat).length s0.c) (fun s0 : Sv => rw_ 5 RB s0 (lowS n k.toNat).length (lowS n k.toNat) :: L) (fun s0 : Sv => (lowS n k.toNat).length = k.toNat) :=
  ctr' (M' := (fun s0 : Sv => [rw_ 5 RB s0 (lowS n k.toNat).length (lowS n k.toNat)])) (by kernel_rfl) (fun hp w hw => by exact ref01_low _ _ w hp) (by rintro hp ⟨s0, n0, x0⟩ rfl ok; cases ok.row; exact ⟨s0, rfl, rfl, lowS_len _ _⟩)
theorem take_ixd {l : List UInt8} {i : Int} {j : Nat} (h0 : 0 ≤ i) (h : i + j < l.length) : (l.drop i.toNat).take (j + 1) = (l.drop i.toNat).take j ++ [ixd l (i + j)] := by
  have e : (i + j).toNat = i.toNat + j := by omega
  rw [ixd_eq (by omega), List.take_succ_eq_append_getElem (by simp; omega), List.getElem_drop]; simp [e]
theorem ref01_Part (lA : Option Addr) (lc : Nat) (l : List UInt8) (i : Int) (k : Int) (w0 : World) (hl : Slr w0 RB (.slice lA l.length lc) l) (hp : l.length ≤ 140737488351232) :
    Ct Tryd.prog 47 [.slice lA l.length lc, .int .i64 i, .int .i64 k] w0 no (fun ((⟨s0, n0, x0⟩, e1) : Br UInt8 × Int) => .tuple #[.slice s0.A n0 s0.c, .int .i64 e1]) (fun (⟨s0, n0, x0⟩, e1) => [rw_ 5 RB s0 n0 x0]) (fun (⟨s0, n0, x0⟩, e1) => x0 = (partL l i k) ∧ e1 = partE l i k) := by
  have hst := St.start w0
  have i_l := Rw.old hl
  refine genter _ hst Tryd.func47 rfl rfl rfl rfl ?_
  repeat' (first
   | (refine z1 ?_; intros)
   | (refine z2 ?_ ?_ <;> first | exact zi | intro h | skip)
   | (refine kR ?_; refine zr (⟨⟨_, _⟩, _, _⟩, _) ?_)
   | (refine kO ?_; refine zc ?_ ?_ <;> intros))
  · grind [partL, partE]
  · grind [partL, partE]
  · obtain ⟨m, rfl⟩ : ∃ m : Nat, k = m := ⟨k.toNat, by omega⟩
    refine gloop2 [0, 1, 2] (fun (j : Nat) (s : Sv) K => (8, .slice s.A j s.c) :: (9, .int .i64 j) :: K) (fun j s => [rw_ 5 RB s j ((l.drop i.toNat).take j)]) (fun j s => j ≤ m) (fun j s => m - j) 0 ⟨none, 0⟩ rfl (by repeat (first | exact trivial | refine ⟨rfl, ?_⟩)) (er0 Ent.nil) (Nat.zero_le _) (fun j s hj => ?_)
    repeat' (first
     | (refine z1 ?_; intros)
     | (refine z2 ?_ ?_ <;> first | exact zi | intro h | skip)
     | (refine kR ?_; refine zr (⟨⟨_, _⟩, _, _⟩, _) ?_)
     | (refine kO ?_; refine zc ?_ ?_ <;> intros))
    · rename_i s'
      refine gnl2 (j + 1) s' (by repeat (first | exact trivial | refine ⟨rfl, ?_⟩)) ?_ (by omega) (by omega)
      rw [take_ixd (by omega) (by omega)]; exact er Ent.nil
    · obtain rfl : j = m := by omega
      grind [partL, partE]
  · grind [partL, partE]
  · grind [partL, partE]
instance c_ref01_Part {lA : Option Addr} {lc ln : Nat} {l : List UInt8} {i : Int} {k : Int} {w0 : World} {X : Nat → Prop} {L : List Assn} [hl : Rw w0 X L (.slice lA ln lc) RB l] : Ctr Tryd.prog 47 [.slice lA ln lc, .int .i64 i, .int .i64 k] w0 X L (l.length ≤ 140737488351232) (fun s0 : Sv => .tuple #[.slice s0.A (partL l i k).length s0.c, .int .i64 (partE l i k)]) (fun s0 : Sv => rw_ 5 RB s0 (partL l i k).length (partL l i k) :: L) (fun s0 : Sv => (partL l i k).length ≤ l.length ∧ (partE l i k = 0 → (partL l i k).length = k)) :=
  ctr' (M' := (fun s0 : Sv => [rw_ 5 RB s0 (partL l i k).length (partL l i k)])) (by kernel_rfl) (fun hp w hw => by have el := hl.len hw; subst el; exact ref01_Part _ _ _ _ _ w (hl.get w hw) hp) (by rintro hp ⟨⟨s0, n0, x0⟩, e1⟩ ⟨rfl, rfl⟩ ok; cases ok.row; exact ⟨s0, rfl, rfl, ⟨partL_le _ _ _, partL_len⟩⟩)
theorem num_drop (p : List UInt8) (i : Nat) (h : i < p.length) : numS (p.drop i) = (p[i].toNat : Int) + 256 * numS (p.drop (i + 1)) := by
  rw [List.drop_eq_getElem_cons h]; rfl
theorem num_drop_b (p : List UInt8) (h : p.length ≤ 8) (i : Nat) : 0 ≤ numS (p.drop i) ∧ numS (p.drop i) ≤ 18446744073709551615 := by
  have h1 := numS_b (p.drop i)
  have h2 : (2 : Int) ^ (8 * (p.drop i).length) ≤ 2 ^ 64 := by exact_mod_cast Nat.pow_le_pow_right (by decide) (by simp; omega)
  omega
theorem ref01_Get (lA : Option Addr) (lc : Nat) (l : List UInt8) (i : Int) (k : Int) (w0 : World) (hl : Slr w0 RB (.slice lA l.length lc) l) (hp : l.length ≤ 140737488351232) :
    Ct Tryd.prog 48 [.slice lA l.length lc, .int .i64 i, .int .i64 k] w0 no (fun ((e0, e1) : Int × Int) => .tuple #[.int .u64 e0, .int .i64 e1]) (fun (e0, e1) => []) (fun (e0, e1) => e0 = getN l i k ∧ e1 = getE l i k) := by
  have hst := St.start w0
  have i_l := Rw.old hl
  refine genter _ hst Tryd.func48 rfl rfl rfl rfl ?_
  have h8 : (partL l i k).length ≤ 8 ∨ sizeOk k = false := by
    by_cases h : sizeOk k = true
    · by_cases he : partE l i k = 0
      · have := partL_len he; have := sizeOk_c h; omega
      · left; unfold partL; rw [if_neg he]; simp
    · right; simpa using h
  repeat' (first
   | (refine z1 ?_; intros)
   | (refine z2 ?_ ?_ <;> first | exact zi | intro h | skip)
   | (refine kR ?_; refine zr (_, _) ?_)
   | (refine kO ?_; refine zc ?_ ?_ <;> intros))
  · grind [getN, getE]
  · rename_i s _
    have hp8 : (partL l i k).length ≤ 8 := by grind
    clear h8
    generalize hP : partL l i k = p at *
    refine gloop [8, 9] (fun (j : Nat) K => (11, .int .i64 ((j : Int) - 1)) :: (10, .int .u64 (numS (p.drop j))) :: K) (fun j => [rw_ 5 RB s p.length p]) (fun j => j ≤ p.length) (fun j => j) p.length rfl ⟨rfl, by rw [List.drop_length]; rfl, rfl, rfl, trivial⟩ (er Ent.nil) (Nat.le_refl _) (fun j hj => ?_)
    have hb := num_drop_b p hp8 j
    have hb2 := num_drop_b p hp8 (j - 1)
    by_cases hj0 : j = 0
    · subst hj0
      repeat' (first
       | (refine z1 ?_; intros)
       | (refine z2 ?_ ?_ <;> first | exact zi | intro h | skip)
       | (refine kR ?_; refine zr (_, _) ?_)
       | (refine kO ?_; refine zc ?_ ?_ <;> intros))
      grind [getN, getE, partL, numS]
    · have hd := num_drop p (j - 1) (by omega)
      have ej : j - 1 + 1 = j := by omega
      rw [ej] at hd
      have hi : ixd p ((j : Int) - 1) = p[j - 1] := by rw [ixd_eq (by omega)]; congr 1; omega
      rw [← hi] at hd
      repeat' (first
       | (refine z1 ?_; intros)
       | (refine z2 ?_ ?_ <;> first | exact zi | intro h | skip)
       | (refine kR ?_; refine zr (_, _) ?_)
       | (refine kO ?_; refine zc ?_ ?_ <;> intros))
      refine gnl (j - 1) ⟨?_, ?_, rfl, rfl, trivial⟩ (er Ent.nil) (by omega) (by omega)
      · show some (Value.int .i64 ((j : Int) - 1 - 1)) = some (Value.int .i64 (((j - 1 : Nat) : Int) - 1)); congr 2; omega
      · show some (Value.int .u64 (256 * numS (p.drop j) + ((ixd p ((j : Int) - 1)).toNat : Int))) = _; rw [hd]; congr 2; omega
instance c_ref01_Get {lA : Option Addr} {lc ln : Nat} {l : List UInt8} {i : Int} {k : Int} {w0 : World} {X : Nat → Prop} {L : List Assn} [hl : Rw w0 X L (.slice lA ln lc) RB l] : Ctr Tryd.prog 48 [.slice lA ln lc, .int .i64 i, .int .i64 k] w0 X L (l.length ≤ 140737488351232) (fun _ : Unit => .tuple #[.int .u64 (getN l i k), .int .i64 (getE l i k)]) (fun _ : Unit => L) (fun _ : Unit => 0 ≤ getN l i k ∧ getN l i k ≤ 18446744073709551615) :=
  ctr' (M' := (fun _ : Unit => [])) (by kernel_rfl) (fun hp w hw => by have el := hl.len hw; subst el; exact ref01_Get _ _ _ _ _ w (hl.get w hw) hp) (by rintro hp ⟨e0, e1⟩ ⟨rfl, rfl⟩ ok; exact ⟨(), rfl, rfl, getN_b _ _ _⟩)
theorem ref01_Count (n : Int) (w0 : World)  (hp : 0 ≤ n ∧ n ≤ 18446744073709551615) :
    Ct Tryd.prog 49 [.int .u64 n] w0 no (fun ((⟨s0, n0, x0⟩) : Br UInt8) => .slice s0.A n0 s0.c) (fun (⟨s0, n0, x0⟩) => [rw_ 5 RB s0 n0 x0]) (fun (⟨s0, n0, x0⟩) => x0 = (countS n)) := by
  have hst := St.start w0
  refine genter _ hst Tryd.func49 rfl rfl rfl rfl ?_
  have e1 : lowS n 1 = [u8 n] := by simp [lowS, byteAt]
  repeat' (first
   | (refine z1 ?_; intros)
   | (refine z2 ?_ ?_ <;> first | exact zi | intro h | skip)
   | (refine kR ?_; refine zr (⟨⟨_, _⟩, _, _⟩) ?_)
   | (refine kO ?_; refine zc ?_ ?_ <;> intros))
  all_goals (unfold countS; grind)
instance c_ref01_Count {n : Int} {w0 : World} {X : Nat → Prop} {L : List Assn}  : Ctr Tryd.prog 49 [.int .u64 n] w0 X L (0 ≤ n ∧ n ≤ 18446744073709551615) (fun s0 : Sv => .slice s0.A (countS n).length s0.c) (fun s0 : Sv => rw_ 5 RB s0 (countS n).length (countS n) :: L) (fun s0 : Sv => 1 ≤ (countS n).length ∧ (countS n).length ≤ 9) :=
  ctr' (M' := (fun s0 : Sv => [rw_ 5 RB s0 (countS n).length (countS n)])) (by kernel_rfl) (fun hp w hw => by exact ref01_Count _ w hp) (by rintro hp ⟨s0, n0, x0⟩ rfl ok; cases ok.row; exact ⟨s0, rfl, rfl, countS_b _⟩)
theorem get1 (l : List UInt8) (i : Int) : getE l i 1 = partE l i 1 := by unfold getE; simp [sizeOk]
theorem get1N {l : List UInt8} {i : Int} (h : partE l i 1 = 0) : getN l i 1 = ((ixd (partL l i 1) 0).toNat : Int) := by
  have h1 := partL_len h
  unfold getN; rw [get1, if_pos h]
  match hp : partL l i 1, h1 with
  | [x], _ => simp [numS, ixd]
  | [], h1 => simp at h1
  | _ :: _ :: _, h1 => simp at h1; omega
theorem getN_pow (l : List UInt8) (i : Int) (k : Nat) : getN l i k < 2 ^ (8 * k) := by
  unfold getN; split
  · rename_i h
    have h3 := numS_b (partL l i k)
    have h4 : ((partL l i k).length : Int) = k := partL_len (by unfold getE at h; split at h; exact h; cases h)
    have h5 : (partL l i k).length = k := by omega
    rw [h5] at h3; exact h3.2
  · exact_mod_cast Nat.two_pow_pos _
theorem count_le2 (l : List UInt8) (i : Int) : (countS (getN l i 2)).length ≤ 3 := by
  have := getN_pow l i 2; have h0 := getN_b l i 2
  rw [countS_len]; repeat' split
  all_goals first | omega | (exfalso; simp at this; omega)
theorem count_le4 (l : List UInt8) (i : Int) : (countS (getN l i 4)).length ≤ 5 := by
  have := getN_pow l i 4; have h0 := getN_b l i 4
  rw [countS_len]; repeat' split
  all_goals first | omega | (exfalso; simp at this; omega)
theorem ref01_GetCount (lA : Option Addr) (lc : Nat) (l : List UInt8) (i : Int) (w0 : World) (hl : Slr w0 RB (.slice lA l.length lc) l) (hp : l.length ≤ 140737488351232) :
    Ct Tryd.prog 26 [.slice lA l.length lc, .int .i64 i] w0 no (fun ((e0, e1, e2) : Int × Int × Int) => .tuple #[.int .u64 e0, .int .i64 e1, .int .i64 e2]) (fun (e0, e1, e2) => []) (fun (e0, e1, e2) => e0 = countN l i ∧ e1 = countX l i ∧ e2 = countE l i) := by
  have hst := St.start w0
  have i_l := Rw.old hl
  refine genter _ hst Tryd.func26 rfl rfl rfl rfl ?_
  have h1 := getN_1 l i
  have h2 : manyOf (getN l i 1) = 2 ∨ manyOf (getN l i 1) = 4 ∨ manyOf (getN l i 1) = 8 := manyOf_b _
  have h3 := getN_b l (i + 1) (manyOf (getN l i 1))
  have h8 := count_le2 l (i + 1)
  have h9 := count_le4 l (i + 1)
  by_cases hh : partE l i 1 = 0
  · have h4 := get1N hh
    have h5 := partE_ok hh
    have h6 := partL_len hh
    have h7 := get1 l i
    rw [h4] at h1 h2 h3
    repeat' (first
     | (refine z1 ?_; intros)
     | (refine z2 ?_ ?_ <;> first | exact zi | intro h | skip)
     | (refine kR ?_; refine zr (_, _, _) ?_)
     | (refine kO ?_; refine zc ?_ ?_ <;> intros))
    all_goals grind [countN, countX, countE, manyOf]
  · skip
    repeat' (first
     | (refine z1 ?_; intros)
     | (refine z2 ?_ ?_ <;> first | exact zi | intro h | skip)
     | (refine kR ?_; refine zr (_, _, _) ?_)
     | (refine kO ?_; refine zc ?_ ?_ <;> intros))
    all_goals grind [countN, countX, countE, get1]
instance c_ref01_GetCount {lA : Option Addr} {lc ln : Nat} {l : List UInt8} {i : Int} {w0 : World} {X : Nat → Prop} {L : List Assn} [hl : Rw w0 X L (.slice lA ln lc) RB l] : Ctr Tryd.prog 26 [.slice lA ln lc, .int .i64 i] w0 X L (l.length ≤ 140737488351232) (fun _ : Unit => .tuple #[.int .u64 (countN l i), .int .i64 (countX l i), .int .i64 (countE l i)]) (fun _ : Unit => L) (fun _ : Unit => 0 ≤ countN l i ∧ countN l i ≤ 18446744073709551615) :=
  ctr' (M' := (fun _ : Unit => [])) (by kernel_rfl) (fun hp w hw => by have el := hl.len hw; subst el; exact ref01_GetCount _ _ _ _ w (hl.get w hw) hp) (by rintro hp ⟨e0, e1, e2⟩ ⟨rfl, rfl, rfl⟩ ok; exact ⟨(), rfl, rfl, countN_b _ _⟩)
theorem ref01_GetRow (lA : Option Addr) (lc : Nat) (l : List UInt8) (i : Int) (most : Int) (w0 : World) (hl : Slr w0 RB (.slice lA l.length lc) l) (hp : l.length ≤ 140737488351232 ∧ most ≤ 9223372036854775807) :
    Ct Tryd.prog 51 [.slice lA l.length lc, .int .i64 i, .int .i64 most] w0 no (fun ((⟨s0, n0, x0⟩, e1, e2) : Br UInt8 × Int × Int) => .tuple #[.slice s0.A n0 s0.c, .int .i64 e1, .int .i64 e2]) (fun (⟨s0, n0, x0⟩, e1, e2) => [rw_ 5 RB s0 n0 x0]) (fun (⟨s0, n0, x0⟩, e1, e2) => x0 = (rowL l i most) ∧ e1 = rowX l i most ∧ e2 = rowE l i most) := by
  have hst := St.start w0
  have i_l := Rw.old hl
  refine genter _ hst Tryd.func51 rfl rfl rfl rfl ?_
  by_cases hh : partE l (countX l i) (countN l i) = 0
  · have h2 := partE_ok hh
    repeat' (first
     | (refine z1 ?_; intros)
     | (refine z2 ?_ ?_ <;> first | exact zi | intro h | skip)
     | (refine kR ?_; refine zr (⟨⟨_, _⟩, _, _⟩, _, _) ?_)
     | (refine kO ?_; refine zc ?_ ?_ <;> intros))
    all_goals grind [rowL, rowX, rowE]
  · skip
    repeat' (first
     | (refine z1 ?_; intros)
     | (refine z2 ?_ ?_ <;> first | exact zi | intro h | skip)
     | (refine kR ?_; refine zr (⟨⟨_, _⟩, _, _⟩, _, _) ?_)
     | (refine kO ?_; refine zc ?_ ?_ <;> intros))
    all_goals grind [rowL, rowX, rowE]
instance c_ref01_GetRow {lA : Option Addr} {lc ln : Nat} {l : List UInt8} {i : Int} {most : Int} {w0 : World} {X : Nat → Prop} {L : List Assn} [hl : Rw w0 X L (.slice lA ln lc) RB l] : Ctr Tryd.prog 51 [.slice lA ln lc, .int .i64 i, .int .i64 most] w0 X L (l.length ≤ 140737488351232 ∧ most ≤ 9223372036854775807) (fun s0 : Sv => .tuple #[.slice s0.A (rowL l i most).length s0.c, .int .i64 (rowX l i most), .int .i64 (rowE l i most)]) (fun s0 : Sv => rw_ 5 RB s0 (rowL l i most).length (rowL l i most) :: L) (fun s0 : Sv => True) :=
  ctr' (M' := (fun s0 : Sv => [rw_ 5 RB s0 (rowL l i most).length (rowL l i most)])) (by kernel_rfl) (fun hp w hw => by have el := hl.len hw; subst el; exact ref01_GetRow _ _ _ _ _ w (hl.get w hw) hp) (by rintro hp ⟨⟨s0, n0, x0⟩, e1, e2⟩ ⟨rfl, rfl, rfl⟩ ok; cases ok.row; exact ⟨s0, rfl, rfl, trivial⟩)
end Go.Proofs.YtalainpmlonahaaDoor
