/-
  ends: contracts.
-/
import Derived.Test.YtalainpmlonahaaDoorVtypes
import Derived.Test.YtalainpmlonahaaDoorVplain
import Derived.Laws.Bits64b
set_option linter.all false
set_option maxRecDepth 100000
set_option maxHeartbeats 4000000
namespace Go.Proofs.YtalainpmlonahaaDoor
open Go.RowKit

theorem ends_size (n : Int) (w0 : World)   :
    Ct Tryd.prog 93 [.int .i64 n] w0 no (fun ((e0) : Bool) => .bool e0) (fun (e0) => []) (fun (e0) => e0 = sizeOk n) := by
  have hst := St.start w0
  refine genter _ hst Tryd.func93 rfl rfl rfl rfl ?_
  repeat' (first
   | (refine z1 ?_; intros)
   | (refine z2 ?_ ?_ <;> first | exact zi | intro h | skip)
   | (refine kR ?_; refine zr (_) ?_)
   | (refine kO ?_; refine zc ?_ ?_ <;> intros))
  all_goals grind
instance c_ends_size {n : Int} {w0 : World} {X : Nat → Prop} {L : List Assn}  : Ctr Tryd.prog 93 [.int .i64 n] w0 X L (True) (fun _ : Unit => .bool (sizeOk n)) (fun _ : Unit => L) (fun _ : Unit => True) :=
  ctr' (M' := (fun _ : Unit => [])) (by kernel_rfl) (fun hp w hw => by exact ends_size _ w) (by rintro hp e0 rfl ok; exact ⟨(), rfl, rfl, trivial⟩)
theorem ends_Part (lA : Option Addr) (lc : Nat) (l : List UInt8) (i : Int) (k : Int) (w0 : World) (hl : Slr w0 RB (.slice lA l.length lc) l) (hp : l.length ≤ 140737488351232) :
    Ct Tryd.prog 70 [.slice lA l.length lc, .int .i64 i, .int .i64 k] w0 no (fun ((⟨s0, n0, x0⟩, e1) : Br UInt8 × Int) => .tuple #[.slice s0.A n0 s0.c, .int .i64 e1]) (fun (⟨s0, n0, x0⟩, e1) => [rw_ 5 RB s0 n0 x0]) (fun (⟨s0, n0, x0⟩, e1) => x0 = (partL l i k) ∧ e1 = partE l i k) := by
  have hst := St.start w0
  have i_l := Rw.old hl
  refine genter _ hst Tryd.func70 rfl rfl rfl rfl ?_
  repeat' (first
   | (refine z1 ?_; intros)
   | (refine z2 ?_ ?_ <;> first | exact zi | intro h | skip)
   | (refine kR ?_; refine zr (⟨⟨_, _⟩, _, _⟩, _) ?_)
   | (refine kO ?_; refine zc ?_ ?_ <;> intros))
  all_goals grind [partL, partE]
instance c_ends_Part {lA : Option Addr} {lc ln : Nat} {l : List UInt8} {i : Int} {k : Int} {w0 : World} {X : Nat → Prop} {L : List Assn} [hl : Rw w0 X L (.slice lA ln lc) RB l] : Ctr Tryd.prog 70 [.slice lA ln lc, .int .i64 i, .int .i64 k] w0 X L (l.length ≤ 140737488351232) (fun s0 : Sv => .tuple #[.slice s0.A (partL l i k).length s0.c, .int .i64 (partE l i k)]) (fun s0 : Sv => rw_ 5 RB s0 (partL l i k).length (partL l i k) :: L) (fun s0 : Sv => (partL l i k).length ≤ l.length) :=
  ctr' (M' := (fun s0 : Sv => [rw_ 5 RB s0 (partL l i k).length (partL l i k)])) (by kernel_rfl) (fun hp w hw => by have el := hl.len hw; subst el; exact ends_Part _ _ _ _ _ w (hl.get w hw) hp) (by rintro hp ⟨⟨s0, n0, x0⟩, e1⟩ ⟨rfl, rfl⟩ ok; cases ok.row; exact ⟨s0, rfl, rfl, partL_le _ _ _⟩)
def lowX (n : Int) (m i : Nat) : List UInt8 := (List.range m).map fun j => if j < i then byteAt n j else 0
theorem lowX_len (n : Int) (m i : Nat) : (lowX n m i).length = m := by simp [lowX]
theorem lowX_step {n : Int} {m i : Nat} (h : i < m) : (lowX n m i).set i (byteAt n i) = lowX n m (i + 1) := by
  apply List.ext_getElem?
  intro j
  simp only [lowX, List.getElem?_set, List.getElem?_map, List.length_map, List.length_range]
  by_cases hj : j < m
  · rw [List.getElem?_range hj]; grind
  · rw [List.getElem?_eq_none (by simpa using hj)]; grind
theorem lowX_zero (n : Int) (m : Nat) : lowX n m 0 = List.replicate m 0 := by
  apply List.ext_getElem (by simp [lowX]); intro j h1 h2; simp [lowX]
theorem lowX_all (n : Int) (m : Nat) : lowX n m m = lowS n m := by
  simp only [lowX, lowS]
  exact List.map_congr_left fun j hj => by rw [if_pos (by simpa using hj)]
theorem ends_low (n : Int) (k : Int) (w0 : World)  (hp : 0 ≤ n ∧ 0 ≤ k ∧ k ≤ 8) :
    Ct Tryd.prog 62 [.int .u64 n, .int .i64 k] w0 no (fun ((⟨s0, n0, x0⟩) : Br UInt8) => .slice s0.A n0 s0.c) (fun (⟨s0, n0, x0⟩) => [rw_ 5 RB s0 n0 x0]) (fun (⟨s0, n0, x0⟩) => x0 = (lowS n k.toNat)) := by
  have hst := St.start w0
  refine genter _ hst Tryd.func62 rfl rfl rfl rfl ?_
  obtain ⟨m, rfl⟩ := Int.eq_ofNat_of_zero_le hp.2.1
  repeat' (first
   | (refine z1 ?_; intros)
   | (refine z2 ?_ ?_ <;> first | exact zi | intro h | skip)
   | (refine kR ?_; refine zr (⟨⟨_, _⟩, _, _⟩) ?_)
   | (refine kO ?_; refine zc ?_ ?_ <;> intros))
  rename_i s
  refine gloop [0, 5, 10] (fun (i : Nat) K => (11, .int .i64 i) :: K) (fun i => [rw_ 5 RB s m (lowX n m i)]) (fun i => i ≤ m) (fun i => m - i) 0 rfl (by repeat (first | exact trivial | refine ⟨rfl, ?_⟩)) (by rw [lowX_zero]; exact er Ent.nil) (Nat.zero_le _) (fun i hi => ?_)
  repeat' (first
   | (refine z1 ?_; intros)
   | (refine z2 ?_ ?_ <;> first | exact zi | intro h | skip)
   | (refine kR ?_; refine zr (⟨⟨_, _⟩, _, _⟩) ?_)
   | (refine kO ?_; refine zc ?_ ?_ <;> intros))
  · refine gnl (i + 1) (by repeat (first | exact trivial | refine ⟨rfl, ?_⟩)) ?_ (by omega) (by omega)
    rw [← lowX_step (by omega)]
    have e : (8 * (i : Int)).toNat = 8 * i := by omega
    simp only [e, Int.toNat_natCast, byteAt]; exact er Ent.nil
  · obtain rfl : i = m := by omega
    simp [lowX_all]
instance c_ends_low {n : Int} {k : Int} {w0 : World} {X : Nat → Prop} {L : List Assn}  : Ctr Tryd.prog 62 [.int .u64 n, .int .i64 k] w0 X L (0 ≤ n ∧ 0 ≤ k ∧ k ≤ 8) (fun s0 : Sv => .slice s0.A (lowS n k.toNat).length s0.c) (fun s0 : Sv => rw_ 5 RB s0 (lowS n k.toNat).length (lowS n k.toNat) :: L) (fun s0 : Sv => (lowS n k.toNat).length = k.toNat) :=
  ctr' (M' := (fun s0 : Sv => [rw_ 5 RB s0 (lowS n k.toNat).length (lowS n k.toNat)])) (by kernel_rfl) (fun hp w hw => by exact ends_low _ _ w hp) (by rintro hp ⟨s0, n0, x0⟩ rfl ok; cases ok.row; exact ⟨s0, rfl, rfl, lowS_len _ _⟩)
theorem ends_Put (n : Int) (k : Int) (w0 : World)  (hp : 0 ≤ n) :
    Ct Tryd.prog 89 [.int .u64 n, .int .i64 k] w0 no (fun ((⟨s0, n0, x0⟩, e1) : Br UInt8 × Int) => .tuple #[.slice s0.A n0 s0.c, .int .i64 e1]) (fun (⟨s0, n0, x0⟩, e1) => [rw_ 5 RB s0 n0 x0]) (fun (⟨s0, n0, x0⟩, e1) => x0 = (putL n k) ∧ e1 = putE n k) := by
  have hst := St.start w0
  refine genter _ hst Tryd.func89 rfl rfl rfl rfl ?_
  have h2 : 0 ≤ n / 2 ^ (8 * k).toNat := Int.ediv_nonneg hp (by exact_mod_cast Nat.zero_le _)
  repeat' (first
   | (refine z1 ?_; intros)
   | (refine z2 ?_ ?_ <;> first | exact zi | intro h | skip)
   | (refine kR ?_; refine zr (⟨⟨_, _⟩, _, _⟩, _) ?_)
   | (refine kO ?_; refine zc ?_ ?_ <;> intros))
  all_goals grind [putL, putE]
instance c_ends_Put {n : Int} {k : Int} {w0 : World} {X : Nat → Prop} {L : List Assn}  : Ctr Tryd.prog 89 [.int .u64 n, .int .i64 k] w0 X L (0 ≤ n) (fun s0 : Sv => .tuple #[.slice s0.A (putL n k).length s0.c, .int .i64 (putE n k)]) (fun s0 : Sv => rw_ 5 RB s0 (putL n k).length (putL n k) :: L) (fun s0 : Sv => True) :=
  ctr' (M' := (fun s0 : Sv => [rw_ 5 RB s0 (putL n k).length (putL n k)])) (by kernel_rfl) (fun hp w hw => by exact ends_Put _ _ w hp) (by rintro hp ⟨⟨s0, n0, x0⟩, e1⟩ ⟨rfl, rfl⟩ ok; cases ok.row; exact ⟨s0, rfl, rfl, trivial⟩)
theorem num_snoc (l : List UInt8) (i : Nat) (h : i < l.length) : numS (l.take (i + 1)) = numS (l.take i) + 2 ^ (8 * i) * l[i].toNat := by
  rw [List.take_succ_eq_append_getElem h, numS_append]
  have : (l.take i).length = i := by simp; omega
  rw [this]; simp [numS]
theorem shlb (x : UInt8) (j : Nat) (hj : j < 8) : IntKind.u64.wrap ((x.toNat : Int) * 2 ^ min (8 * (j : Int)).toNat IntKind.u64.bits) = 2 ^ (8 * j) * (x.toNat : Int) := by
  have e : min (8 * (j : Int)).toNat IntKind.u64.bits = 8 * j := by
    show min (8 * (j : Int)).toNat 64 = 8 * j
    omega
  have hx := x.toNat_lt
  have h1 : (2 : Int) ^ (8 * j) ≤ 2 ^ 56 := by exact_mod_cast Nat.pow_le_pow_right (by decide) (by omega : 8 * j ≤ 56)
  have h0 : (0 : Int) ≤ 2 ^ (8 * j) := by exact_mod_cast Nat.zero_le _
  have h2 : (2 : Int) ^ (8 * j) * (x.toNat : Int) ≤ 2 ^ 56 * (x.toNat : Int) := Int.mul_le_mul_of_nonneg_right h1 (by omega)
  have h3 : (0 : Int) ≤ 2 ^ (8 * j) * (x.toNat : Int) := Int.mul_nonneg h0 (by omega)
  rw [e, Int.mul_comm, IntKind.wrap_u64]; omega
theorem orn (p : List UInt8) (j : Nat) (hj : j < p.length) (h8 : p.length ≤ 8) : bits .or .u64 (numS (p.take j)) (2 ^ (8 * j) * ((ixd p j).toNat : Int)) = numS (p.take (j + 1)) := by
  have hx : ixd p j = p[j] := by rw [ixd_eq (by simpa using hj)]; simp
  rw [hx, num_snoc p j hj]
  have h1 := numS_b (p.take j)
  rw [List.length_take, Nat.min_eq_left (by omega)] at h1
  have h2 := numS_b (p.take (j + 1))
  rw [List.length_take, Nat.min_eq_left (by omega), num_snoc p j hj] at h2
  have h3 : (2 : Int) ^ (8 * (j + 1)) ≤ 2 ^ 64 := by exact_mod_cast Nat.pow_le_pow_right (by decide) (by omega : 8 * (j + 1) ≤ 64)
  obtain ⟨a, ha⟩ := Int.eq_ofNat_of_zero_le h1.1
  rw [ha] at h1 h2 ⊢
  have e : (2 : Int) ^ (8 * j) * (p[j].toNat : Int) = ((2 ^ (8 * j) * p[j].toNat : Nat) : Int) := by push_cast; rfl
  rw [e] at h2 ⊢
  have ha' : a < 2 ^ (8 * j) := by exact_mod_cast h1.2
  rw [bits_or_u64_nat _ _ (by omega) (by omega), Nat.or_comm, ← Nat.two_pow_add_eq_or_of_lt ha']
  push_cast; omega
theorem ends_Get (lA : Option Addr) (lc : Nat) (l : List UInt8) (i : Int) (k : Int) (w0 : World) (hl : Slr w0 RB (.slice lA l.length lc) l) (hp : l.length ≤ 140737488351232) :
    Ct Tryd.prog 72 [.slice lA l.length lc, .int .i64 i, .int .i64 k] w0 no (fun ((e0, e1) : Int × Int) => .tuple #[.int .u64 e0, .int .i64 e1]) (fun (e0, e1) => []) (fun (e0, e1) => e0 = getN l i k ∧ e1 = getE l i k) := by
  have hst := St.start w0
  have i_l := Rw.old hl
  refine genter _ hst Tryd.func72 rfl rfl rfl rfl ?_
  repeat' (first
   | (refine z1 ?_; intros)
   | (refine z2 ?_ ?_ <;> first | exact zi | intro h | skip)
   | (refine kR ?_; refine zr (_, _) ?_)
   | (refine kO ?_; refine zc ?_ ?_ <;> intros))
  · grind [getN, getE]
  · grind [getN, getE]
  · rename_i hk s _
    have hlen := partL_len h
    refine gloop [26, 27] (fun (j : Nat) K => (28, .int .i64 j) :: (10, .int .u64 (numS ((partL l i k).take j))) :: K) (fun j => [rw_ 5 RB s (partL l i k).length (partL l i k)]) (fun j => j ≤ (partL l i k).length) (fun j => (partL l i k).length - j) 0 rfl (by repeat (first | exact trivial | refine ⟨rfl, ?_⟩)) (er Ent.nil) (Nat.zero_le _) (fun j hj => ?_)
    repeat' (first
     | (refine kO ?_; first | refine gy (y_shl rfl rfl (by omega) (shlb _ _ (by omega))) rfl rfl ?_ | refine gy (y_or rfl rfl (orn _ _ (by omega) (by omega))) rfl rfl ?_)
     | (refine z1 ?_; intros)
     | (refine z2 ?_ ?_ <;> first | exact zi | intro h | skip)
     | (refine kR ?_; refine zr (_, _) ?_)
     | (refine kO ?_; refine zc ?_ ?_ <;> intros)
     | (refine kD ?_; exact dz))
    · exact gnl (j + 1) (by repeat (first | exact trivial | refine ⟨rfl, ?_⟩)) (er Ent.nil) (by omega) (by omega)
    · obtain rfl : j = (partL l i k).length := by omega
      rw [List.take_length]; grind [getN, getE]
instance c_ends_Get {lA : Option Addr} {lc ln : Nat} {l : List UInt8} {i : Int} {k : Int} {w0 : World} {X : Nat → Prop} {L : List Assn} [hl : Rw w0 X L (.slice lA ln lc) RB l] : Ctr Tryd.prog 72 [.slice lA ln lc, .int .i64 i, .int .i64 k] w0 X L (l.length ≤ 140737488351232) (fun _ : Unit => .tuple #[.int .u64 (getN l i k), .int .i64 (getE l i k)]) (fun _ : Unit => L) (fun _ : Unit => 0 ≤ getN l i k ∧ getN l i k ≤ 18446744073709551615) :=
  ctr' (M' := (fun _ : Unit => [])) (by kernel_rfl) (fun hp w hw => by have el := hl.len hw; subst el; exact ends_Get _ _ _ _ _ w (hl.get w hw) hp) (by rintro hp ⟨e0, e1⟩ ⟨rfl, rfl⟩ ok; exact ⟨(), rfl, rfl, getN_b _ _ _⟩)
theorem ends_Count (n : Int) (w0 : World)  (hp : 0 ≤ n) :
    Ct Tryd.prog 36 [.int .u64 n] w0 no (fun ((⟨s0, n0, x0⟩) : Br UInt8) => .slice s0.A n0 s0.c) (fun (⟨s0, n0, x0⟩) => [rw_ 5 RB s0 n0 x0]) (fun (⟨s0, n0, x0⟩) => x0 = (countS n)) := by
  have hst := St.start w0
  refine genter _ hst Tryd.func36 rfl rfl rfl rfl ?_
  repeat' (first
   | (refine z1 ?_; intros)
   | (refine z2 ?_ ?_ <;> first | exact zi | intro h | skip)
   | (refine kR ?_; refine zr (⟨⟨_, _⟩, _, _⟩) ?_)
   | (refine kO ?_; refine zc ?_ ?_ <;> intros))
  all_goals (unfold countS; grind)
instance c_ends_Count {n : Int} {w0 : World} {X : Nat → Prop} {L : List Assn}  : Ctr Tryd.prog 36 [.int .u64 n] w0 X L (0 ≤ n) (fun s0 : Sv => .slice s0.A (countS n).length s0.c) (fun s0 : Sv => rw_ 5 RB s0 (countS n).length (countS n) :: L) (fun s0 : Sv => 1 ≤ (countS n).length ∧ (countS n).length ≤ 9) :=
  ctr' (M' := (fun s0 : Sv => [rw_ 5 RB s0 (countS n).length (countS n)])) (by kernel_rfl) (fun hp w hw => by exact ends_Count _ w hp) (by rintro hp ⟨s0, n0, x0⟩ rfl ok; cases ok.row; exact ⟨s0, rfl, rfl, countS_b _⟩)
theorem ends_Row (lA : Option Addr) (lc : Nat) (l : List UInt8) (w0 : World) (hl : Slr w0 RB (.slice lA l.length lc) l) (hp : l.length ≤ 140737488350000) :
    Ct Tryd.prog 87 [.slice lA l.length lc] w0 no (fun ((⟨s0, n0, x0⟩) : Br UInt8) => .slice s0.A n0 s0.c) (fun (⟨s0, n0, x0⟩) => [rw_ 5 RB s0 n0 x0]) (fun (⟨s0, n0, x0⟩) => x0 = (rowS l)) := by
  have hst := St.start w0
  have i_l := Rw.old hl
  refine genter _ hst Tryd.func87 rfl rfl rfl rfl ?_
  repeat' (first
   | (refine z1 ?_; intros)
   | (refine z2 ?_ ?_ <;> first | exact zi | intro h | skip)
   | (refine kR ?_; refine zr (⟨⟨_, _⟩, _, _⟩) ?_)
   | (refine kO ?_; refine zc ?_ ?_ <;> intros))
  all_goals (unfold rowS; grind)
instance c_ends_Row {lA : Option Addr} {lc ln : Nat} {l : List UInt8} {w0 : World} {X : Nat → Prop} {L : List Assn} [hl : Rw w0 X L (.slice lA ln lc) RB l] : Ctr Tryd.prog 87 [.slice lA ln lc] w0 X L (l.length ≤ 140737488350000) (fun s0 : Sv => .slice s0.A (rowS l).length s0.c) (fun s0 : Sv => rw_ 5 RB s0 (rowS l).length (rowS l) :: L) (fun s0 : Sv => l.length + 1 ≤ (rowS l).length ∧ (rowS l).length ≤ l.length + 9) :=
  ctr' (M' := (fun s0 : Sv => [rw_ 5 RB s0 (rowS l).length (rowS l)])) (by kernel_rfl) (fun hp w hw => by have el := hl.len hw; subst el; exact ends_Row _ _ _ w (hl.get w hw) hp) (by rintro hp ⟨s0, n0, x0⟩ rfl ok; cases ok.row; exact ⟨s0, rfl, rfl, rowS_len l⟩)
theorem shlm (f : Int) (h1 : 253 ≤ f) (h2 : f ≤ 255) : IntKind.i64.wrap (2 * 2 ^ min (f - 253).toNat IntKind.i64.bits) = manyOf f := by
  obtain rfl | rfl | rfl : f = 253 ∨ f = 254 ∨ f = 255 := by omega
  all_goals decide
theorem ends_GetCount (lA : Option Addr) (lc : Nat) (l : List UInt8) (i : Int) (w0 : World) (hl : Slr w0 RB (.slice lA l.length lc) l) (hp : l.length ≤ 140737488351232) :
    Ct Tryd.prog 44 [.slice lA l.length lc, .int .i64 i] w0 no (fun ((e0, e1, e2) : Int × Int × Int) => .tuple #[.int .u64 e0, .int .i64 e1, .int .i64 e2]) (fun (e0, e1, e2) => []) (fun (e0, e1, e2) => e0 = countN l i ∧ e1 = countX l i ∧ e2 = countE l i) := by
  have hst := St.start w0
  have i_l := Rw.old hl
  refine genter _ hst Tryd.func44 rfl rfl rfl rfl ?_
  have h1 := getN_1 l i
  have h2 := manyOf_b (getN l i 1)
  have h3 := getN_b l (i + 1) (manyOf (getN l i 1))
  have h4 : getE l i 1 = 0 → 0 ≤ i ∧ i + 1 ≤ l.length := fun h => by have := partE_ok (l := l) (i := i) (k := 1) (by unfold getE at h; simpa [sizeOk] using h); omega
  by_cases hh : getE l i 1 = 0
  · have h5 := h4 hh
    clear h4
    repeat' (first
     | refine gy (y_shl rfl rfl (by omega) (shlm _ (by omega) (by omega))) rfl rfl ?_
     | (refine z1 ?_; intros)
     | (refine z2 ?_ ?_ <;> first | exact zi | intro h | skip)
     | (refine kR ?_; refine zr (_, _, _) ?_)
     | (refine kO ?_; refine zc ?_ ?_ <;> intros)
     | (refine kD ?_; exact dz))
    all_goals grind [countN, countX, countE]
  · clear h4
    repeat' (first
     | (refine z1 ?_; intros)
     | (refine z2 ?_ ?_ <;> first | exact zi | intro h | skip)
     | (refine kR ?_; refine zr (_, _, _) ?_)
     | (refine kO ?_; refine zc ?_ ?_ <;> intros))
    all_goals grind [countN, countX, countE]
instance c_ends_GetCount {lA : Option Addr} {lc ln : Nat} {l : List UInt8} {i : Int} {w0 : World} {X : Nat → Prop} {L : List Assn} [hl : Rw w0 X L (.slice lA ln lc) RB l] : Ctr Tryd.prog 44 [.slice lA ln lc, .int .i64 i] w0 X L (l.length ≤ 140737488351232) (fun _ : Unit => .tuple #[.int .u64 (countN l i), .int .i64 (countX l i), .int .i64 (countE l i)]) (fun _ : Unit => L) (fun _ : Unit => 0 ≤ countN l i ∧ countN l i ≤ 18446744073709551615) :=
  ctr' (M' := (fun _ : Unit => [])) (by kernel_rfl) (fun hp w hw => by have el := hl.len hw; subst el; exact ends_GetCount _ _ _ _ w (hl.get w hw) hp) (by rintro hp ⟨e0, e1, e2⟩ ⟨rfl, rfl, rfl⟩ ok; exact ⟨(), rfl, rfl, countN_b _ _⟩)
theorem ends_GetRow (lA : Option Addr) (lc : Nat) (l : List UInt8) (i : Int) (most : Int) (w0 : World) (hl : Slr w0 RB (.slice lA l.length lc) l) (hp : l.length ≤ 140737488351232 ∧ most ≤ 9223372036854775807) :
    Ct Tryd.prog 95 [.slice lA l.length lc, .int .i64 i, .int .i64 most] w0 no (fun ((⟨s0, n0, x0⟩, e1, e2) : Br UInt8 × Int × Int) => .tuple #[.slice s0.A n0 s0.c, .int .i64 e1, .int .i64 e2]) (fun (⟨s0, n0, x0⟩, e1, e2) => [rw_ 5 RB s0 n0 x0]) (fun (⟨s0, n0, x0⟩, e1, e2) => x0 = (rowL l i most) ∧ e1 = rowX l i most ∧ e2 = rowE l i most) := by
  have hst := St.start w0
  have i_l := Rw.old hl
  refine genter _ hst Tryd.func95 rfl rfl rfl rfl ?_
  have h1 : partE l (countX l i) (countN l i) = 0 → 0 ≤ countX l i ∧ countX l i + countN l i ≤ l.length := fun h => by have := partE_ok h; omega
  by_cases hh : partE l (countX l i) (countN l i) = 0
  · have h2 := h1 hh
    clear h1
    repeat' (first
     | (refine z1 ?_; intros)
     | (refine z2 ?_ ?_ <;> first | exact zi | intro h | skip)
     | (refine kR ?_; refine zr (⟨⟨_, _⟩, _, _⟩, _, _) ?_)
     | (refine kO ?_; refine zc ?_ ?_ <;> intros))
    all_goals grind [rowL, rowX, rowE]
  · clear h1
    repeat' (first
     | (refine z1 ?_; intros)
     | (refine z2 ?_ ?_ <;> first | exact zi | intro h | skip)
     | (refine kR ?_; refine zr (⟨⟨_, _⟩, _, _⟩, _, _) ?_)
     | (refine kO ?_; refine zc ?_ ?_ <;> intros))
    all_goals grind [rowL, rowX, rowE]
instance c_ends_GetRow {lA : Option Addr} {lc ln : Nat} {l : List UInt8} {i : Int} {most : Int} {w0 : World} {X : Nat → Prop} {L : List Assn} [hl : Rw w0 X L (.slice lA ln lc) RB l] : Ctr Tryd.prog 95 [.slice lA ln lc, .int .i64 i, .int .i64 most] w0 X L (l.length ≤ 140737488351232 ∧ most ≤ 9223372036854775807) (fun s0 : Sv => .tuple #[.slice s0.A (rowL l i most).length s0.c, .int .i64 (rowX l i most), .int .i64 (rowE l i most)]) (fun s0 : Sv => rw_ 5 RB s0 (rowL l i most).length (rowL l i most) :: L) (fun s0 : Sv => True) :=
  ctr' (M' := (fun s0 : Sv => [rw_ 5 RB s0 (rowL l i most).length (rowL l i most)])) (by kernel_rfl) (fun hp w hw => by have el := hl.len hw; subst el; exact ends_GetRow _ _ _ _ _ w (hl.get w hw) hp) (by rintro hp ⟨⟨s0, n0, x0⟩, e1, e2⟩ ⟨rfl, rfl, rfl⟩ ok; cases ok.row; exact ⟨s0, rfl, rfl, trivial⟩)
end Go.Proofs.YtalainpmlonahaaDoor
