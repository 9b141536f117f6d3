/-
  Operators of two numbers.
-/
import Derived.Test.YtkjpemkankefnaaDoorEc
set_option linter.all false
set_option maxRecDepth 100000
set_option maxHeartbeats 4000000
namespace Go.Proofs.YtkjpemkankefnaaDoor
open Go.RowKit

instance {n : Int} : Decidable (I64 n) := inferInstanceAs (Decidable (_ ∧ _))
/-- what an operator makes; may it be? -/
def twoX (op a b : Int) : Int := if op = 13 then a + b else if op = 14 then a - b else if op = 15 then a * b else if a < b then 1 else 0
def twoE (op a b : Int) : Int := if op < 13 ∨ 16 < op then 2 else if I64 (twoX op a b) then 0 else 3
def twoN (op a b : Int) : Int := if twoE op a b = 0 then twoX op a b else 0
theorem twoN_b (op a b : Int) : I64 (twoN op a b) := by
  unfold twoN
  split
  · rename_i h
    unfold twoE at h
    split at h
    · omega
    · split at h
      · assumption
      · omega
  · exact ⟨by omega, by omega⟩
theorem two_ok {op a b x : Int} (h : 13 ≤ op ∧ op ≤ 16) (hx : twoX op a b = x) (hi : I64 x) : x = twoN op a b ∧ (0 : Int) = twoE op a b := by
  have e : twoE op a b = 0 := by unfold twoE; rw [if_neg (by omega), if_pos (hx ▸ hi)]
  unfold twoN; rw [if_pos e, e, hx]; exact ⟨rfl, rfl⟩
theorem two_no {op a b : Int} (h : 13 ≤ op ∧ op ≤ 16) (hi : ¬ I64 (twoX op a b)) : (0 : Int) = twoN op a b ∧ (3 : Int) = twoE op a b := by
  have e : twoE op a b = 3 := by unfold twoE; rw [if_neg (by omega), if_neg hi]
  unfold twoN; rw [if_neg (by omega), e]; exact ⟨rfl, rfl⟩
theorem two_arg {op a b : Int} (h : op < 13 ∨ 16 < op) : (0 : Int) = twoN op a b ∧ (2 : Int) = twoE op a b := by
  have e : twoE op a b = 2 := by unfold twoE; rw [if_pos h]
  unfold twoN; rw [if_neg (by omega), e]; exact ⟨rfl, rfl⟩
section
variable {P : Program} {n : Nat} {w0 : World} {X : Nat → Prop} {Q : Cont} {E : Env} {L : List Assn} {s : Ms} {ops : Array Oper} {rest : List Oper}
variable {d : Nat} {ty : TypeId} {pos : String} {aft : Array Edge}
theorem gnegw {x : Operand} {t : TypeId} {kk : IntKind} {i : Int} (hx : eev E x = some (.int kk i)) (hd : Nat.blt d n = true)
    (k : GO P n w0 X (nextM s) ops rest Q ((d, .int kk (kk.wrap (-i))) :: E) L) : GO P n w0 X s ops (⟨some d, .unOp .neg t x, ty, pos, aft, none⟩ :: rest) Q E L := by
  refine go_yld rfl (fun _ _ => ⟨fun c w hc => ?_⟩) hd k
  have e : kk.wrap (0 - i) = kk.wrap (-i) := by rw [show (0 - i : Int) = -i by omega]
  simp only [execOp, hc.ev hx, Op.unary, Op.intArith, e]
  rfl
theorem gquo {x y : Operand} {kk : IntKind} {i j : Int} {t yt : TypeId} (hx : eev E x = some (.int kk i)) (hy : eev E y = some (.int kk j)) (h0 : j ≠ 0) (hd : Nat.blt d n = true)
    (k : GO P n w0 X (nextM s) ops rest Q ((d, .int kk (kk.wrap (i.tdiv j))) :: E) L) : GO P n w0 X s ops (⟨some d, .binOp .quo t x y yt, ty, pos, aft, none⟩ :: rest) Q E L :=
  go_yld rfl (fun _ _ => y_bin hx hy (by rw [binOp_quo]; simp only [Op.intDiv]; rw [if_neg h0])) hd k
end
/-- without its sign -/
def absZ (a : Int) : Int := if a < 0 then -a else a
theorem cell_size (a : Int) (w0 : World)  (hp : I64 a) :
    Ct Tryd.prog 81 [.int .i64 a] w0 no (fun ((e0) : Int) => .int .u64 e0) (fun (e0) => []) (fun (e0) => e0 = absZ a) := by
  have hst := St.start w0
  refine genter _ hst Tryd.func81 rfl rfl rfl rfl ?_
  have hp' := hp
  repeat' (first
   | (refine kO ?_; first | refine gnegw rfl rfl ?_ | refine gv rfl rfl ?_ | refine gnil ?_ | refine gp rfl (by (try simp only [InR]); omega) rfl ?_ | refine gb rfl rfl rfl rfl ?_ | refine gw rfl rfl ?_)
   | (refine kC ?_; first | refine gseq ?_ | refine greg ?_ | refine gret ?_ | refine gskip ?_ | (refine gcond rfl (fun h => ?_) (fun h => ?_) <;> (first | exact h.elim | (exfalso; omega) | exact absurd h (by assumption) | exact absurd (by assumption) h | skip)))
   | (refine kN ?_; first | refine gthen ?_)
   | (refine kR ?_; first | refine grs ?_ | refine grc ?_)
   | (refine kR ?_; refine gr rfl (rvT rfl rv0) (_) rfl Ent.nil ?_)
   | (refine kD ?_; first | exact dm_none))
  · show IntKind.u64.wrap (-IntKind.u64.wrap a) = absZ a
    unfold absZ; rw [if_pos h, IntKind.wrap_u64, IntKind.wrap_u64]; have := hp.1; omega
  · unfold absZ; rw [if_neg h]
instance c_cell_size {a : Int} {w0 : World} {X : Nat → Prop} {L : List Assn}  : Ctr Tryd.prog 81 [.int .i64 a] w0 X L (I64 a) (fun _ : Unit => .int .u64 (absZ a)) (fun _ : Unit => L) (fun _ : Unit => True) :=
  ctr' (M' := (fun _ : Unit => [])) (by kernel_rfl) (fun hp w hw => by exact cell_size _ w hp) (by rintro hp e0 rfl ok; exact ⟨(), rfl, rfl, trivial⟩)
theorem and32 {x : Int} (h : 0 ≤ x ∧ x ≤ 18446744073709551615) : bits BinOp.and .u64 x 4294967295 = x % 4294967296 := by
  obtain ⟨n, rfl⟩ := nat_of' h.1
  rw [u64_and _ _ (by omega) (by omega) (by omega) (by omega)]
  have e : (n : Nat) &&& 4294967295 = n % 4294967296 := Nat.and_two_pow_sub_one_eq_mod n 32
  simp only [Int.toNat_natCast]
  rw [show (4294967295 : Int).toNat = 4294967295 from rfl, e]; omega
theorem mul64_law {x0 x1 y0 y1 xy : Int} (hx0 : 0 ≤ x0 ∧ x0 ≤ 4294967295) (hx1 : 0 ≤ x1 ∧ x1 ≤ 4294967295) (hy0 : 0 ≤ y0 ∧ y0 ≤ 4294967295) (hy1 : 0 ≤ y1 ∧ y1 ≤ 4294967295) (e : xy = (x1 * 4294967296 + x0) * (y1 * 4294967296 + y0)) :
    IntKind.u64.wrap (IntKind.u64.wrap (IntKind.u64.wrap (x1 * y1) + IntKind.u64.wrap (IntKind.u64.wrap (x1 * y0) + IntKind.u64.wrap (x0 * y0) / 4294967296) / 4294967296) + IntKind.u64.wrap (IntKind.u64.wrap (IntKind.u64.wrap (x1 * y0) + IntKind.u64.wrap (x0 * y0) / 4294967296) % 4294967296 + IntKind.u64.wrap (x0 * y1)) / 4294967296) = xy / 18446744073709551616 := by
  have mb : ∀ {a b : Int}, (0 ≤ a ∧ a ≤ 4294967295) → (0 ≤ b ∧ b ≤ 4294967295) → 0 ≤ a * b ∧ a * b ≤ 18446744065119617025 := fun {a b} ha hb =>
    ⟨Int.mul_nonneg ha.1 hb.1, Int.le_trans (Int.mul_le_mul ha.2 hb.2 hb.1 (by omega)) (by decide)⟩
  have b11 := mb hx1 hy1
  have b10 := mb hx1 hy0
  have b01 := mb hx0 hy1
  have b00 := mb hx0 hy0
  have e2 : xy = (x1 * y1) * 18446744073709551616 + (x1 * y0) * 4294967296 + (x0 * y1) * 4294967296 + x0 * y0 := by rw [e]; grind
  generalize x1 * y1 = p11 at *
  generalize x1 * y0 = p10 at *
  generalize x0 * y1 = p01 at *
  generalize x0 * y0 = p00 at *
  simp only [IntKind.wrap_u64]
  omega
def hiZ (x y : Int) : Int := x * y / 18446744073709551616
theorem bits_Mul64 (x : Int) (y : Int) (w0 : World)  (hp : (0 ≤ x ∧ x ≤ 18446744073709551615) ∧ (0 ≤ y ∧ y ≤ 18446744073709551615)) :
    Ct Tryd.prog 80 [.int .u64 x, .int .u64 y] w0 no (fun ((e0, e1) : Int × Int) => .tuple #[.int .u64 e0, .int .u64 e1]) (fun (e0, e1) => []) (fun (e0, e1) => e0 = hiZ x y ∧ e1 = x * y % 18446744073709551616) := by
  have hst := St.start w0
  refine genter _ hst Tryd.func80 rfl rfl rfl rfl ?_
  have ax := and32 hp.1
  have ay := and32 hp.2
  have az : ∀ z : Int, bits BinOp.and .u64 (IntKind.u64.wrap z) 4294967295 = IntKind.u64.wrap z % 4294967296 := fun z => and32 (by rw [IntKind.wrap_u64]; omega)
  have e32 : (2 : Int) ^ (32 : Int).toNat = 4294967296 := by decide
  repeat' (first
   | (refine kO ?_; first | refine gv rfl rfl ?_ | refine gnil ?_ | refine gp rfl (by (try simp only [InR]); omega) rfl ?_ | refine gsh rfl (by (try simp only [InR]); omega) rfl ?_ | refine gsv rfl (by (try simp only [InR, InSh]); omega) rfl ?_ | refine gss rfl (by (try simp only [InR, InSh]); omega) rfl ?_ | refine gw rfl rfl ?_)
   | (refine kC ?_; first | refine gseq ?_ | refine greg ?_ | refine gret ?_ | refine gskip ?_)
   | (refine kN ?_; first | refine gthen ?_)
   | (refine kR ?_; first | refine grs ?_ | refine grc ?_)
   | (refine kR ?_; refine gr rfl (rvT rfl (rvT rfl rv0)) (_, _) rfl Ent.nil ?_)
   | (refine kD ?_; first | exact dm_none))
  show _ = hiZ x y ∧ _ = x * y % 18446744073709551616
  simp only [ax, ay, az, e32, Int.reducePow]
  refine ⟨?_, IntKind.wrap_u64 _⟩
  unfold hiZ
  have key := mul64_law (x0 := x % 4294967296) (x1 := x / 4294967296) (y0 := y % 4294967296) (y1 := y / 4294967296) (xy := x * y) (by omega) (by omega) (by omega) (by omega) (by rw [show x / 4294967296 * 4294967296 + x % 4294967296 = x by omega, show y / 4294967296 * 4294967296 + y % 4294967296 = y by omega])
  exact key
instance c_bits_Mul64 {x : Int} {y : Int} {w0 : World} {X : Nat → Prop} {L : List Assn}  : Ctr Tryd.prog 80 [.int .u64 x, .int .u64 y] w0 X L ((0 ≤ x ∧ x ≤ 18446744073709551615) ∧ (0 ≤ y ∧ y ≤ 18446744073709551615)) (fun _ : Unit => .tuple #[.int .u64 (hiZ x y), .int .u64 (x * y % 18446744073709551616)]) (fun _ : Unit => L) (fun _ : Unit => True) :=
  ctr' (M' := (fun _ : Unit => [])) (by kernel_rfl) (fun hp w hw => by exact bits_Mul64 _ _ w hp) (by rintro hp ⟨e0, e1⟩ ⟨rfl, rfl⟩ ok; exact ⟨(), rfl, rfl, trivial⟩)
theorem absZ_b {a : Int} (h : I64 a) : 0 ≤ absZ a ∧ absZ a ≤ 9223372036854775808 := by unfold absZ; have := h.1; have := h.2; split <;> omega
theorem tw13 {op a b x : Int} (h : op = 13) (hx : x = a + b) (hi : I64 (a + b)) : x = twoN op a b ∧ (0 : Int) = twoE op a b := two_ok (by omega) (by unfold twoX; rw [if_pos h, hx]) (hx ▸ hi)
theorem tn13 {op a b : Int} (h : op = 13) (hi : ¬ I64 (a + b)) : (0 : Int) = twoN op a b ∧ (3 : Int) = twoE op a b := two_no (by omega) (by unfold twoX; rw [if_pos h]; exact hi)
theorem tw14 {op a b x : Int} (h : op = 14) (hx : x = a - b) (hi : I64 (a - b)) : x = twoN op a b ∧ (0 : Int) = twoE op a b := two_ok (by omega) (by unfold twoX; rw [if_neg (by omega), if_pos h, hx]) (hx ▸ hi)
theorem tn14 {op a b : Int} (h : op = 14) (hi : ¬ I64 (a - b)) : (0 : Int) = twoN op a b ∧ (3 : Int) = twoE op a b := two_no (by omega) (by unfold twoX; rw [if_neg (by omega), if_pos h]; exact hi)
theorem tw15 {op a b x : Int} (h : op = 15) (hx : x = a * b) (hi : I64 (a * b)) : x = twoN op a b ∧ (0 : Int) = twoE op a b := two_ok (by omega) (by unfold twoX; rw [if_neg (by omega), if_neg (by omega), if_pos h, hx]) (hx ▸ hi)
theorem tn15 {op a b : Int} (h : op = 15) (hi : ¬ I64 (a * b)) : (0 : Int) = twoN op a b ∧ (3 : Int) = twoE op a b := two_no (by omega) (by unfold twoX; rw [if_neg (by omega), if_neg (by omega), if_pos h]; exact hi)
theorem tw16 {op a b x : Int} (h : op = 16) (hx : x = if a < b then 1 else 0) : x = twoN op a b ∧ (0 : Int) = twoE op a b := two_ok (by omega) (by unfold twoX; rw [if_neg (by omega), if_neg (by omega), if_neg (by omega), hx]) (by rw [hx]; unfold I64; split <;> omega)
theorem mul_div_law {a b c : Int} (ha : I64 a) (hb : I64 b) (h0 : a ≠ 0) (hc : c = IntKind.i64.wrap (a * b)) : (IntKind.i64.wrap (c.tdiv a) = b ∧ ¬ (a = -1 ∧ b = -9223372036854775808)) ↔ I64 (a * b) := by
  rw [IntKind.wrap_i64] at hc ⊢
  constructor
  · rintro ⟨h1, h2⟩
    apply Classical.byContradiction
    intro hn
    have e := Int.mul_tdiv_add_tmod c a
    have hq := Int.natAbs_tdiv_le_natAbs c a
    have hr1 : -(a.natAbs : Int) < c.tmod a ∧ c.tmod a < a.natAbs := by
      have h3 : (c.tmod a).natAbs < a.natAbs := by
        rw [Int.natAbs_tmod]; exact Nat.mod_lt _ (by omega)
      omega
    by_cases a1 : a = 1
    · subst a1; rw [Int.one_mul] at hn; exact hn hb
    by_cases a2 : a = -1
    · subst a2; rw [Int.neg_mul, Int.one_mul] at hn hc; unfold I64 at hn hb; omega
    generalize hQ : c.tdiv a = q at *
    generalize c.tmod a = r at *
    unfold I64 at ha hb hn
    have hq2 : q = b ∨ q = 9223372036854775808 := by omega
    rcases hq2 with rfl | rfl
    · generalize a * q = p at *; omega
    · omega
  · intro hi
    unfold I64 at hi
    have hc2 : c = a * b := by omega
    rw [hc2, Int.mul_tdiv_cancel_left _ h0]
    refine ⟨by unfold I64 at hb; omega, fun h => ?_⟩
    rw [h.1, h.2] at hi; omega
theorem cell_product (a : Int) (b : Int) (w0 : World)  (hp : I64 a ∧ I64 b) :
    Ct Tryd.prog 65 [.int .i64 a, .int .i64 b] w0 no (fun ((e0, e1) : Int × Int) => .tuple #[.int .i64 e0, .int .i64 e1]) (fun (e0, e1) => []) (fun (e0, e1) => e0 = twoN 15 a b ∧ e1 = twoE 15 a b) := by
  have hst := St.start w0
  refine genter _ hst Tryd.func65 rfl rfl rfl rfl ?_
  have ha := absZ_b hp.1
  have hb := absZ_b hp.2
  have hm : 0 ≤ absZ a * absZ b ∧ absZ a * absZ b ≤ 9223372036854775808 * 9223372036854775808 := ⟨Int.mul_nonneg ha.1 hb.1, Int.mul_le_mul ha.2 hb.2 hb.1 (by omega)⟩
  have hs : ((a < 0 ↔ b < 0) → absZ a * absZ b = a * b) ∧ (¬ (a < 0 ↔ b < 0) → absZ a * absZ b = -(a * b)) := by
    unfold absZ
    by_cases h1 : a < 0 <;> by_cases h2 : b < 0 <;> simp only [h1, h2, if_true, if_false] <;> grind
  have hz : hiZ (absZ a) (absZ b) = absZ a * absZ b / 18446744073709551616 := rfl
  repeat' (first
   | (refine kO ?_; first | refine gnegw rfl rfl ?_ | refine gv rfl rfl ?_ | refine gnil ?_ | refine gp rfl (by (try simp only [InR]); omega) rfl ?_ | (refine kK ?_; first | refine gcall rfl ?_ rfl (fun _ _ => ?_) (fun _ _ => ?_) | refine gcv rfl rfl ?_ rfl (fun _ _ => ?_) (fun _ _ => ?_) | refine gcc1 rfl rfl ?_ rfl (fun _ _ => ?_) (fun _ _ => ?_)) | refine geql rfl rfl (by kernel_rfl) ?_ rfl ?_ | refine gneq rfl rfl (by kernel_rfl) ?_ rfl ?_ | refine gb rfl rfl rfl rfl ?_ | refine gw rfl rfl ?_ | (refine kg ?_; (first | refine guardT rfl rfl rfl rfl (fun h => ?_) (fun h => ?_) | refine guardF rfl rfl rfl rfl (fun h => ?_) (fun h => ?_) | refine guardU rfl rfl rfl rfl ?_ | refine guardTH rfl rfl rfl rfl ?_ (fun h => ?_) (fun h => ?_) | refine guardFH rfl rfl rfl rfl ?_ (fun h => ?_) (fun h => ?_) | refine guardUH rfl rfl rfl rfl ?_ ?_) <;> (first | exact h.elim | (exfalso; omega) | exact absurd h (by assumption) | exact absurd (by assumption) h | skip)))
   | (refine kC ?_; first | refine gseq ?_ | refine greg ?_ | refine gret ?_ | refine gskip ?_ | (refine gcond rfl (fun h => ?_) (fun h => ?_) <;> (first | exact h.elim | (exfalso; omega) | exact absurd h (by assumption) | exact absurd (by assumption) h | skip)) | refine gblk ?_)
   | (refine kN ?_; first | refine gthen ?_ | refine gnblk ?_)
   | (refine kR ?_; first | refine grs ?_ | refine grb ?_ | refine grc ?_)
   | (refine kR ?_; refine gr rfl (rvT rfl (rvT rfl rv0)) (_, _) rfl Ent.nil ?_)
   | (refine Pre.mk ?_; first | exact True.intro | omega | ((repeat' (first | refine And.intro ?_ ?_ | exact True.intro | assumption | omega)); done) | (simp only [and_true, true_and, or_true, true_or]; first | done | omega))
   | (refine kD ?_; first | exact dm_none))
  all_goals
    rw [hz] at *
    clear hz
    simp only [beq_iff_eq, decide_eq_decide, beq_eq_false_iff_ne, ne_eq, IntKind.wrap_i64, IntKind.wrap_u64] at *
    generalize absZ a * absZ b = p at *
    first
    | exact tw15 rfl (by omega) (by unfold I64; omega)
    | exact tn15 rfl (by unfold I64; omega)
    | (exfalso; omega)
instance c_cell_product {a : Int} {b : Int} {w0 : World} {X : Nat → Prop} {L : List Assn}  : Ctr Tryd.prog 65 [.int .i64 a, .int .i64 b] w0 X L (I64 a ∧ I64 b) (fun _ : Unit => .tuple #[.int .i64 (twoN 15 a b), .int .i64 (twoE 15 a b)]) (fun _ : Unit => L) (fun _ : Unit => I64 (twoN 15 a b)) :=
  ctr' (M' := (fun _ : Unit => [])) (by kernel_rfl) (fun hp w hw => by exact cell_product _ _ w hp) (by rintro hp ⟨e0, e1⟩ ⟨rfl, rfl⟩ ok; exact ⟨(), rfl, rfl, twoN_b 15 a b⟩)
theorem cell_Two (op : Int) (a : Int) (b : Int) (w0 : World)  (hp : (0 ≤ op ∧ op ≤ 255) ∧ I64 a ∧ I64 b) :
    Ct Tryd.prog 53 [.int .u8 op, .int .i64 a, .int .i64 b] w0 no (fun ((e0, e1) : Int × Int) => .tuple #[.int .i64 e0, .int .i64 e1]) (fun (e0, e1) => []) (fun (e0, e1) => e0 = twoN op a b ∧ e1 = twoE op a b) := by
  have hst := St.start w0
  refine genter _ hst Tryd.func53 rfl rfl rfl rfl ?_
  have ha := hp.2.1
  have hb := hp.2.2
  unfold I64 at ha hb
  repeat' (first
   | (refine kO ?_; first | refine gv rfl rfl ?_ | refine gnil ?_ | refine gp rfl (by (try simp only [InR]); omega) rfl ?_ | (refine kK ?_; first | refine gcall rfl ?_ rfl (fun _ _ => ?_) (fun _ _ => ?_) | refine gcv rfl rfl ?_ rfl (fun _ _ => ?_) (fun _ _ => ?_) | refine gcc1 rfl rfl ?_ rfl (fun _ _ => ?_) (fun _ _ => ?_)) | refine geql rfl rfl (by kernel_rfl) ?_ rfl ?_ | refine gw rfl rfl ?_)
   | (refine kC ?_; first | refine gseq ?_ | refine greg ?_ | refine gret ?_ | refine gskip ?_ | (refine gcond rfl (fun h => ?_) (fun h => ?_) <;> (first | exact h.elim | (exfalso; omega) | exact absurd h (by assumption) | exact absurd (by assumption) h | skip)) | refine gblk ?_)
   | (refine kN ?_; first | refine gthen ?_ | refine gnblk ?_)
   | (refine kR ?_; first | refine grs ?_ | refine grb ?_ | refine grc ?_)
   | (refine kR ?_; refine gr rfl (rvT rfl (rvT rfl rv0)) (_, _) rfl Ent.nil ?_)
   | (refine Pre.mk ?_; first | exact True.intro | omega | ((repeat' (first | refine And.intro ?_ ?_ | exact True.intro | assumption | omega)); done) | (simp only [and_true, true_and, or_true, true_or]; first | done | omega))
   | (refine kD ?_; first | exact dm_none))
  all_goals first
    | (simp only [beq_iff_eq, decide_eq_decide, beq_eq_false_iff_ne, ne_eq, IntKind.wrap_i64] at *; first | exact tw13 (by assumption) (by omega) (by unfold I64; omega) | exact tn13 (by assumption) (by unfold I64; omega) | exact tw14 (by assumption) (by omega) (by unfold I64; omega) | exact tn14 (by assumption) (by unfold I64; omega))
    | (subst h; exact ⟨rfl, rfl⟩)
    | exact tw16 (by assumption) (by rw [if_pos h])
    | exact tw16 (by assumption) (by rw [if_neg h])
    | exact two_arg (by omega)
instance c_cell_Two {op : Int} {a : Int} {b : Int} {w0 : World} {X : Nat → Prop} {L : List Assn}  : Ctr Tryd.prog 53 [.int .u8 op, .int .i64 a, .int .i64 b] w0 X L ((0 ≤ op ∧ op ≤ 255) ∧ I64 a ∧ I64 b) (fun _ : Unit => .tuple #[.int .i64 (twoN op a b), .int .i64 (twoE op a b)]) (fun _ : Unit => L) (fun _ : Unit => I64 (twoN op a b)) :=
  ctr' (M' := (fun _ : Unit => [])) (by kernel_rfl) (fun hp w hw => by exact cell_Two _ _ _ w hp) (by rintro hp ⟨e0, e1⟩ ⟨rfl, rfl⟩ ok; exact ⟨(), rfl, rfl, twoN_b op a b⟩)
theorem ref12_Two (op : Int) (a : Int) (b : Int) (w0 : World)  (hp : (0 ≤ op ∧ op ≤ 255) ∧ I64 a ∧ I64 b) :
    Ct Tryd.prog 91 [.int .u8 op, .int .i64 a, .int .i64 b] w0 no (fun ((e0, e1) : Int × Int) => .tuple #[.int .i64 e0, .int .i64 e1]) (fun (e0, e1) => []) (fun (e0, e1) => e0 = twoN op a b ∧ e1 = twoE op a b) := by
  have hst := St.start w0
  refine genter _ hst Tryd.func91 rfl rfl rfl rfl ?_
  have ha := hp.2.1
  have hb := hp.2.2
  unfold I64 at ha hb
  have hml := fun h => mul_div_law (a := a) (b := b) hp.2.1 hp.2.2 h rfl
  repeat' (first
   | (refine kO ?_; first | refine gquo rfl rfl (by assumption) rfl ?_ | refine gv rfl rfl ?_ | refine gnil ?_ | refine gp rfl (by (try simp only [InR]); omega) rfl ?_ | refine geql rfl rfl (by kernel_rfl) ?_ rfl ?_ | refine gw rfl rfl ?_ | (refine kg ?_; (first | refine guardT rfl rfl rfl rfl (fun h => ?_) (fun h => ?_) | refine guardF rfl rfl rfl rfl (fun h => ?_) (fun h => ?_) | refine guardU rfl rfl rfl rfl ?_ | refine guardTH rfl rfl rfl rfl ?_ (fun h => ?_) (fun h => ?_) | refine guardFH rfl rfl rfl rfl ?_ (fun h => ?_) (fun h => ?_) | refine guardUH rfl rfl rfl rfl ?_ ?_) <;> (first | exact h.elim | (exfalso; omega) | exact absurd h (by assumption) | exact absurd (by assumption) h | skip)))
   | (refine kC ?_; first | refine gseq ?_ | refine greg ?_ | refine gret ?_ | refine gskip ?_ | (refine gcond rfl (fun h => ?_) (fun h => ?_) <;> (first | exact h.elim | (exfalso; omega) | exact absurd h (by assumption) | exact absurd (by assumption) h | skip)) | refine gblk ?_)
   | (refine kN ?_; first | refine gthen ?_ | refine gnblk ?_)
   | (refine kR ?_; first | refine grs ?_ | refine grb ?_ | refine grc ?_)
   | (refine kR ?_; refine gr rfl (rvT rfl (rvT rfl rv0)) (_, _) rfl Ent.nil ?_)
   | (refine Pre.mk ?_; first | exact True.intro | omega | ((repeat' (first | refine And.intro ?_ ?_ | exact True.intro | assumption | omega)); done) | (simp only [and_true, true_and, or_true, true_or]; first | done | omega))
   | (refine kD ?_; first | exact dm_none))
  all_goals first
    | exact tw13 (by assumption) (by omega) (by unfold I64; omega)
    | exact tn13 (by assumption) (by unfold I64; omega)
    | exact tw14 (by assumption) (by omega) (by unfold I64; omega)
    | exact tn14 (by assumption) (by unfold I64; omega)
    | exact tw16 (by assumption) (by rw [if_pos h])
    | exact tw16 (by assumption) (by rw [if_neg h])
    | exact two_arg (by omega)
    | (have hi := (hml (by assumption)).1 ⟨by assumption, by omega⟩
       exact tw15 (by assumption) (by unfold I64 at hi; rw [IntKind.wrap_i64]; omega) hi)
    | exact tn15 (by assumption) (fun hi => absurd ((hml (by assumption)).2 hi).1 (by assumption))
    | exact tn15 (by assumption) (fun hi => ((hml (by assumption)).2 hi).2 ⟨by assumption, by assumption⟩)
    | exact tw15 (by assumption) (by rw [show a = 0 by assumption, Int.zero_mul]; kernel_rfl) (by rw [show a = 0 by assumption, Int.zero_mul]; unfold I64; omega)
instance c_ref12_Two {op : Int} {a : Int} {b : Int} {w0 : World} {X : Nat → Prop} {L : List Assn}  : Ctr Tryd.prog 91 [.int .u8 op, .int .i64 a, .int .i64 b] w0 X L ((0 ≤ op ∧ op ≤ 255) ∧ I64 a ∧ I64 b) (fun _ : Unit => .tuple #[.int .i64 (twoN op a b), .int .i64 (twoE op a b)]) (fun _ : Unit => L) (fun _ : Unit => I64 (twoN op a b)) :=
  ctr' (M' := (fun _ : Unit => [])) (by kernel_rfl) (fun hp w hw => by exact ref12_Two _ _ _ w hp) (by rintro hp ⟨e0, e1⟩ ⟨rfl, rfl⟩ ok; exact ⟨(), rfl, rfl, twoN_b op a b⟩)
end Go.Proofs.YtkjpemkankefnaaDoor
