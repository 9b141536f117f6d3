/-
  ends: contracts.
-/
import Derived.Test.YtkjpemkankefnaaDoorVtypes
import Derived.Test.YtkjpemkankefnaaDoorVplain
import Derived.Laws.Bits64b
set_option linter.all false
set_option maxRecDepth 100000
set_option maxHeartbeats 4000000
namespace Go.Proofs.YtkjpemkankefnaaDoor
open Go.RowKit

theorem ends_size (n : Int) (w0 : World)   :
    Ct Tryd.prog 59 [.int .i64 n] w0 no (fun ((e0) : Bool) => .bool e0) (fun (e0) => []) (fun (e0) => e0 = sizeOk n) := by
  have hst := St.start w0
  refine genter _ hst Tryd.func59 rfl rfl rfl rfl ?_
  repeat' (first
   | (refine kO ?_; first | refine gv rfl rfl ?_ | refine gnil ?_ | refine gp rfl (by (try simp only [InR]); omega) rfl ?_ | refine geql rfl rfl (by kernel_rfl) ?_ rfl ?_ | (refine kg ?_; (first | refine guardT rfl rfl rfl rfl (fun h => ?_) (fun h => ?_) | refine guardF rfl rfl rfl rfl (fun h => ?_) (fun h => ?_) | refine guardU rfl rfl rfl rfl ?_ | refine guardTH rfl rfl rfl rfl ?_ (fun h => ?_) (fun h => ?_) | refine guardFH rfl rfl rfl rfl ?_ (fun h => ?_) (fun h => ?_) | refine guardUH rfl rfl rfl rfl ?_ ?_) <;> (first | exact h.elim | (exfalso; omega) | exact absurd h (by assumption) | exact absurd (by assumption) h | skip)))
   | (refine kC ?_; first | refine gseq ?_ | refine greg ?_ | refine gret ?_ | refine gskip ?_)
   | (refine kN ?_; first | refine gthen ?_)
   | (refine kR ?_; first | refine grs ?_ | refine grc ?_)
   | (refine kR ?_; refine gr rfl (rvT rfl rv0) (_) rfl Ent.nil ?_)
   | (refine Pre.mk ?_; first | exact True.intro | omega | ((repeat' (first | refine And.intro ?_ ?_ | exact True.intro | assumption | omega)); done) | (simp only [and_true, true_and, or_true, true_or]; first | done | omega))
   | (refine kD ?_; first | exact dm_none))
  all_goals grind
instance c_ends_size {n : Int} {w0 : World} {X : Nat → Prop} {L : List Assn}  : Ctr Tryd.prog 59 [.int .i64 n] w0 X L (True) (fun _ : Unit => .bool (sizeOk n)) (fun _ : Unit => L) (fun _ : Unit => True) :=
  ctr' (M' := (fun _ : Unit => [])) (by kernel_rfl) (fun hp w hw => by exact ends_size _ w) (by rintro hp e0 rfl ok; exact ⟨(), rfl, rfl, trivial⟩)
theorem ends_Part (lA : Option Addr) (lc : Nat) (l : List UInt8) (i : Int) (k : Int) (w0 : World) (hl : Slr w0 RB (.slice lA l.length lc) l) (hp : l.length ≤ 140737488351232) :
    Ct Tryd.prog 41 [.slice lA l.length lc, .int .i64 i, .int .i64 k] w0 no (fun ((⟨s0, n0, x0⟩, e1) : Br UInt8 × Int) => .tuple #[.slice s0.A n0 s0.c, .int .i64 e1]) (fun (⟨s0, n0, x0⟩, e1) => [rw_ 5 RB s0 n0 x0]) (fun (⟨s0, n0, x0⟩, e1) => x0 = (partL l i k) ∧ e1 = partE l i k) := by
  have hst := St.start w0
  have i_l := Rw.old hl
  refine genter _ hst Tryd.func41 rfl rfl rfl rfl ?_
  repeat' (first
   | (refine kO ?_; first | refine gv rfl rfl ?_ | refine gnil ?_ | refine gp rfl (by (try simp only [InR]); omega) rfl ?_ | refine gc3 rfl rfl rfl rfl rfl rfl (by omega) rfl (fun _ => ?_) | refine gc2 rfl rfl rfl rfl rfl (by omega) rfl (fun _ => ?_) | refine gch rfl rfl rfl rfl (by omega) rfl (fun _ => ?_) | refine gcl rfl rfl rfl rfl (by omega) rfl (fun _ => ?_) | refine gca rfl rfl rfl rfl ?_ | refine gchm rfl rfl rfl rfl rfl (by omega) rfl (fun _ => ?_) | (refine kK ?_; first | refine gcall rfl ?_ rfl (fun _ _ => ?_) (fun _ _ => ?_) | refine gcv rfl rfl ?_ rfl (fun _ _ => ?_) (fun _ _ => ?_) | refine gcc1 rfl rfl ?_ rfl (fun _ _ => ?_) (fun _ _ => ?_)) | refine gap rfl rfl rfl (by omega) rfl (fun _ => ?_) (fun _ => ?_) | refine gan rfl rfl rfl (by omega) rfl (fun _ => ?_) (fun _ => ?_) | refine gapz rfl rfl rfl rfl (by omega) rfl (fun _ => ?_) (fun _ => ?_) | refine ganz rfl rfl rfl rfl (by omega) rfl (fun _ => ?_) (fun _ => ?_) | refine gw rfl rfl ?_ | (refine kg ?_; (first | refine guardT rfl rfl rfl rfl (fun h => ?_) (fun h => ?_) | refine guardF rfl rfl rfl rfl (fun h => ?_) (fun h => ?_) | refine guardU rfl rfl rfl rfl ?_ | refine guardTH rfl rfl rfl rfl ?_ (fun h => ?_) (fun h => ?_) | refine guardFH rfl rfl rfl rfl ?_ (fun h => ?_) (fun h => ?_) | refine guardUH rfl rfl rfl rfl ?_ ?_) <;> (first | exact h.elim | (exfalso; omega) | exact absurd h (by assumption) | exact absurd (by assumption) h | skip)))
   | (refine kC ?_; first | refine gseq ?_ | refine greg ?_ | refine gret ?_ | refine gskip ?_ | (refine gcond rfl (fun h => ?_) (fun h => ?_) <;> (first | exact h.elim | (exfalso; omega) | exact absurd h (by assumption) | exact absurd (by assumption) h | skip)) | refine gblk ?_)
   | (refine kN ?_; first | refine gthen ?_ | refine gnblk ?_)
   | (refine kR ?_; first | refine grs ?_ | refine grb ?_ | refine grc ?_)
   | (refine kR ?_; refine gr rfl (rvT rfl (rvT rfl rv0)) (⟨_, _, _⟩, _) rfl (er Ent.nil) ?_)
   | (refine kR ?_; refine gr rfl (rvT rfl (rvT rfl rv0)) (⟨⟨none, 0⟩, 0, []⟩, _) rfl (er0 Ent.nil) ?_)
   | (refine Pre.mk ?_; first | exact True.intro | omega | ((repeat' (first | refine And.intro ?_ ?_ | exact True.intro | assumption | omega)); done) | (simp only [and_true, true_and, or_true, true_or]; first | done | omega))
   | (refine kD ?_; first | exact dm_none))
  all_goals grind [partL, partE]
instance c_ends_Part {lA : Option Addr} {lc ln : Nat} {l : List UInt8} {i : Int} {k : Int} {w0 : World} {X : Nat → Prop} {L : List Assn} [hl : Rw w0 X L (.slice lA ln lc) RB l] : Ctr Tryd.prog 41 [.slice lA ln lc, .int .i64 i, .int .i64 k] w0 X L (l.length ≤ 140737488351232) (fun s0 : Sv => .tuple #[.slice s0.A (partL l i k).length s0.c, .int .i64 (partE l i k)]) (fun s0 : Sv => rw_ 5 RB s0 (partL l i k).length (partL l i k) :: L) (fun s0 : Sv => (partL l i k).length ≤ l.length) :=
  ctr' (M' := (fun s0 : Sv => [rw_ 5 RB s0 (partL l i k).length (partL l i k)])) (by kernel_rfl) (fun hp w hw => by have el := hl.len hw; subst el; exact ends_Part _ _ _ _ _ w (hl.get w hw) hp) (by rintro hp ⟨⟨s0, n0, x0⟩, e1⟩ ⟨rfl, rfl⟩ ok; cases ok.row; exact ⟨s0, rfl, rfl, partL_le _ _ _⟩)
def lowX (n : Int) (m i : Nat) : List UInt8 := (List.range m).map fun j => if j < i then byteAt n j else 0
theorem lowX_len (n : Int) (m i : Nat) : (lowX n m i).length = m := by simp [lowX]
theorem lowX_step {n : Int} {m i : Nat} (h : i < m) : (lowX n m i).set i (byteAt n i) = lowX n m (i + 1) := by
  apply List.ext_getElem?
  intro j
  simp only [lowX, List.getElem?_set, List.getElem?_map, List.length_map, List.length_range]
  by_cases hj : j < m
  · rw [List.getElem?_range hj]; grind
  · rw [List.getElem?_eq_none (by simpa using hj)]; grind
theorem lowX_zero (n : Int) (m : Nat) : lowX n m 0 = List.replicate m 0 := by
  apply List.ext_getElem (by simp [lowX]); intro j h1 h2; simp [lowX]
theorem lowX_all (n : Int) (m : Nat) : lowX n m m = lowS n m := by
  simp only [lowX, lowS]
  exact List.map_congr_left fun j hj => by rw [if_pos (by simpa using hj)]
theorem num_snoc (l : List UInt8) (i : Nat) (h : i < l.length) : numS (l.take (i + 1)) = numS (l.take i) + 2 ^ (8 * i) * l[i].toNat := by
  rw [List.take_succ_eq_append_getElem h, numS_append]
  have : (l.take i).length = i := by simp; omega
  rw [this]; simp [numS]
theorem shlb (x : UInt8) (j : Nat) (hj : j < 8) : IntKind.u64.wrap ((x.toNat : Int) * 2 ^ min (8 * (j : Int)).toNat IntKind.u64.bits) = 2 ^ (8 * j) * (x.toNat : Int) := by
  have e : min (8 * (j : Int)).toNat IntKind.u64.bits = 8 * j := by
    show min (8 * (j : Int)).toNat 64 = 8 * j
    omega
  have hx := x.toNat_lt
  have h1 : (2 : Int) ^ (8 * j) ≤ 2 ^ 56 := by exact_mod_cast Nat.pow_le_pow_right (by decide) (by omega : 8 * j ≤ 56)
  have h0 : (0 : Int) ≤ 2 ^ (8 * j) := by exact_mod_cast Nat.zero_le _
  have h2 : (2 : Int) ^ (8 * j) * (x.toNat : Int) ≤ 2 ^ 56 * (x.toNat : Int) := Int.mul_le_mul_of_nonneg_right h1 (by omega)
  have h3 : (0 : Int) ≤ 2 ^ (8 * j) * (x.toNat : Int) := Int.mul_nonneg h0 (by omega)
  rw [e, Int.mul_comm, IntKind.wrap_u64]; omega
theorem orn (p : List UInt8) (j : Nat) (hj : j < p.length) (h8 : p.length ≤ 8) : bits .or .u64 (numS (p.take j)) (2 ^ (8 * j) * ((ixd p j).toNat : Int)) = numS (p.take (j + 1)) := by
  have hx : ixd p j = p[j] := by rw [ixd_eq (by simpa using hj)]; simp
  rw [hx, num_snoc p j hj]
  have h1 := numS_b (p.take j)
  rw [List.length_take, Nat.min_eq_left (by omega)] at h1
  have h2 := numS_b (p.take (j + 1))
  rw [List.length_take, Nat.min_eq_left (by omega), num_snoc p j hj] at h2
  have h3 : (2 : Int) ^ (8 * (j + 1)) ≤ 2 ^ 64 := by exact_mod_cast Nat.pow_le_pow_right (by decide) (by omega : 8 * (j + 1) ≤ 64)
  obtain ⟨a, ha⟩ := Int.eq_ofNat_of_zero_le h1.1
  rw [ha] at h1 h2 ⊢
  have e : (2 : Int) ^ (8 * j) * (p[j].toNat : Int) = ((2 ^ (8 * j) * p[j].toNat : Nat) : Int) := by push_cast; rfl
  rw [e] at h2 ⊢
  have ha' : a < 2 ^ (8 * j) := by exact_mod_cast h1.2
  rw [bits_or_u64_nat _ _ (by omega) (by omega), Nat.or_comm, ← Nat.two_pow_add_eq_or_of_lt ha']
  push_cast; omega
theorem ends_Get (lA : Option Addr) (lc : Nat) (l : List UInt8) (i : Int) (k : Int) (w0 : World) (hl : Slr w0 RB (.slice lA l.length lc) l) (hp : l.length ≤ 140737488351232) :
    Ct Tryd.prog 40 [.slice lA l.length lc, .int .i64 i, .int .i64 k] w0 no (fun ((e0, e1) : Int × Int) => .tuple #[.int .u64 e0, .int .i64 e1]) (fun (e0, e1) => []) (fun (e0, e1) => e0 = getN l i k ∧ e1 = getE l i k) := by
  have hst := St.start w0
  have i_l := Rw.old hl
  refine genter _ hst Tryd.func40 rfl rfl rfl rfl ?_
  repeat' (first
   | (refine kO ?_; first | refine gv rfl rfl ?_ | refine gnil ?_ | refine gl rfl (lvb rfl rfl) rfl (fun _ => ?_) | refine gl rfl (lvB rfl rfl rfl) rfl (fun _ => ?_) | refine gl rfl (lve rfl rfl) rfl (fun _ => ?_) | refine gl rfl (lvE rfl rfl rfl) rfl (fun _ => ?_) | refine gl rfl (lva rfl rfl rfl rfl rfl) rfl (fun _ => ?_) | refine gp rfl (by (try simp only [InR]); omega) rfl ?_ | refine gsh rfl (by (try simp only [InR]); omega) rfl ?_ | refine gsv rfl (by (try simp only [InR, InSh]); omega) rfl ?_ | refine gix rfl rfl rfl rfl (by omega) rfl (fun _ => ?_) | refine gixa rfl rfl rfl rfl (by omega) rfl (fun _ => ?_) | (refine kK ?_; first | refine gcall rfl ?_ rfl (fun _ _ => ?_) (fun _ _ => ?_) | refine gcv rfl rfl ?_ rfl (fun _ _ => ?_) (fun _ _ => ?_) | refine gcc1 rfl rfl ?_ rfl (fun _ _ => ?_) (fun _ _ => ?_)) | refine gneq rfl rfl (by kernel_rfl) ?_ rfl ?_ | refine gb rfl rfl rfl rfl ?_ | refine gss rfl (by (try simp only [InR, InSh]); omega) rfl ?_ | refine gw rfl rfl ?_)
   | (refine kC ?_; first | refine gseq ?_ | refine greg ?_ | refine gret ?_ | refine gskip ?_ | (refine gcond rfl (fun h => ?_) (fun h => ?_) <;> (first | exact h.elim | (exfalso; omega) | exact absurd h (by assumption) | exact absurd (by assumption) h | skip)) | refine gblk ?_ | refine gexit ?_)
   | (refine kN ?_; first | refine gthen ?_ | refine gnblk ?_)
   | (refine kR ?_; first | refine grs ?_ | refine grb ?_ | refine grl ?_ | refine grc ?_)
   | (refine kX ?_; first | refine gxs ?_ | refine gxb ?_ | refine gxn rfl ?_ | refine gxl ?_ | refine gxc ?_)
   | (refine kR ?_; refine gr rfl (rvT rfl (rvT rfl rv0)) (_, _) rfl Ent.nil ?_)
   | (refine Pre.mk ?_; first | exact True.intro | omega | ((repeat' (first | refine And.intro ?_ ?_ | exact True.intro | assumption | omega)); done) | (simp only [and_true, true_and, or_true, true_or]; first | done | omega))
   | (refine kD ?_; first | exact dm_none))
  · grind [getN, getE]
  · grind [getN, getE]
  · rename_i hk s _
    have hlen := partL_len h
    refine gloop [26, 27] (fun (j : Nat) K => (28, .int .i64 j) :: (10, .int .u64 (numS ((partL l i k).take j))) :: K) (fun j => [rw_ 5 RB s (partL l i k).length (partL l i k)]) (fun j => j ≤ (partL l i k).length) (fun j => (partL l i k).length - j) 0 rfl (by repeat (first | exact trivial | refine ⟨rfl, ?_⟩)) (er Ent.nil) (Nat.zero_le _) (fun j hj => ?_)
    repeat' (first
     | (refine kO ?_; first | refine gy (y_shl rfl rfl (by omega) (shlb _ _ (by omega))) rfl rfl ?_ | refine gy (y_or rfl rfl (orn _ _ (by omega) (by omega))) rfl rfl ?_ | refine gv rfl rfl ?_ | refine gnil ?_ | refine gl rfl (lvb rfl rfl) rfl (fun _ => ?_) | refine gl rfl (lvB rfl rfl rfl) rfl (fun _ => ?_) | refine gl rfl (lve rfl rfl) rfl (fun _ => ?_) | refine gl rfl (lvE rfl rfl rfl) rfl (fun _ => ?_) | refine gl rfl (lva rfl rfl rfl rfl rfl) rfl (fun _ => ?_) | refine gp rfl (by (try simp only [InR]); omega) rfl ?_ | refine gsh rfl (by (try simp only [InR]); omega) rfl ?_ | refine gsv rfl (by (try simp only [InR, InSh]); omega) rfl ?_ | refine gix rfl rfl rfl rfl (by omega) rfl (fun _ => ?_) | refine gixa rfl rfl rfl rfl (by omega) rfl (fun _ => ?_) | (refine kK ?_; first | refine gcall rfl ?_ rfl (fun _ _ => ?_) (fun _ _ => ?_) | refine gcv rfl rfl ?_ rfl (fun _ _ => ?_) (fun _ _ => ?_) | refine gcc1 rfl rfl ?_ rfl (fun _ _ => ?_) (fun _ _ => ?_)) | refine gneq rfl rfl (by kernel_rfl) ?_ rfl ?_ | refine gb rfl rfl rfl rfl ?_ | refine gss rfl (by (try simp only [InR, InSh]); omega) rfl ?_ | refine gw rfl rfl ?_)
     | (refine kC ?_; first | refine gseq ?_ | refine greg ?_ | refine gret ?_ | refine gskip ?_ | (refine gcond rfl (fun h => ?_) (fun h => ?_) <;> (first | exact h.elim | (exfalso; omega) | exact absurd h (by assumption) | exact absurd (by assumption) h | skip)) | refine gblk ?_ | refine gexit ?_)
     | (refine kN ?_; first | refine gthen ?_ | refine gnblk ?_)
     | (refine kR ?_; first | refine grs ?_ | refine grb ?_ | refine grl ?_ | refine grc ?_)
     | (refine kX ?_; first | refine gxs ?_ | refine gxb ?_ | refine gxn rfl ?_ | refine gxl ?_ | refine gxc ?_)
     | (refine kR ?_; refine gr rfl (rvT rfl (rvT rfl rv0)) (_, _) rfl Ent.nil ?_)
     | (refine Pre.mk ?_; first | exact True.intro | omega | ((repeat' (first | refine And.intro ?_ ?_ | exact True.intro | assumption | omega)); done) | (simp only [and_true, true_and, or_true, true_or]; first | done | omega))
     | (refine kD ?_; first | exact dm_none))
    · exact gnl (j + 1) (by repeat (first | exact trivial | refine ⟨rfl, ?_⟩)) (er Ent.nil) (by omega) (by omega)
    · obtain rfl : j = (partL l i k).length := by omega
      rw [List.take_length]; grind [getN, getE]
instance c_ends_Get {lA : Option Addr} {lc ln : Nat} {l : List UInt8} {i : Int} {k : Int} {w0 : World} {X : Nat → Prop} {L : List Assn} [hl : Rw w0 X L (.slice lA ln lc) RB l] : Ctr Tryd.prog 40 [.slice lA ln lc, .int .i64 i, .int .i64 k] w0 X L (l.length ≤ 140737488351232) (fun _ : Unit => .tuple #[.int .u64 (getN l i k), .int .i64 (getE l i k)]) (fun _ : Unit => L) (fun _ : Unit => 0 ≤ getN l i k ∧ getN l i k ≤ 18446744073709551615) :=
  ctr' (M' := (fun _ : Unit => [])) (by kernel_rfl) (fun hp w hw => by have el := hl.len hw; subst el; exact ends_Get _ _ _ _ _ w (hl.get w hw) hp) (by rintro hp ⟨e0, e1⟩ ⟨rfl, rfl⟩ ok; exact ⟨(), rfl, rfl, getN_b _ _ _⟩)
theorem shlm (f : Int) (h1 : 253 ≤ f) (h2 : f ≤ 255) : IntKind.i64.wrap (2 * 2 ^ min (f - 253).toNat IntKind.i64.bits) = manyOf f := by
  obtain rfl | rfl | rfl : f = 253 ∨ f = 254 ∨ f = 255 := by omega
  all_goals decide
end Go.Proofs.YtkjpemkankefnaaDoor
