/-
  sha.Sum, Twice: contracts.
-/
import Derived.Test.YtalainpmlonahaaDoorVsha
set_option linter.all false
set_option maxRecDepth 100000
set_option maxHeartbeats 4000000
namespace Go.Proofs.YtalainpmlonahaaDoor
open Go.RowKit

theorem blk_cut (p : List UInt8) (i : Nat) {k : Nat} (h : k = 64) (hi : 64 * i + 64 ≤ p.length) : padT 64 ((((p.drop (64 * i)).take k).drop 0).take 64) = blkW p i := by
  subst h; simp only [blkW, List.drop_zero, List.take_take, Nat.min_self]
/-- the first so many bytes, zeros behind them -/
def outF (s : List UInt32) (i : Nat) : List UInt8 := outW (s.take i) ++ List.replicate (32 - 4 * i) 0
theorem outW_take {s : List UInt32} {i : Nat} (hs : s.length = 8) (hi : i ≤ 8) : (outW (s.take i)).length = 4 * i := by rw [outW_len]; simp; omega
theorem outF_len {s : List UInt32} {i : Nat} (hs : s.length = 8) (hi : i ≤ 8) : (outF s i).length = 32 := by rw [outF, List.length_append, outW_take hs hi]; simp; omega
theorem outF_step {s : List UInt32} {i : Nat} (hs : s.length = 8) (hi : i < 8) : layL (outF s i) (4 * i) (highL ((ixd s (i : Int)).toNat : Int) 4) = outF s (i + 1) := by
  have h1 := outW_take (i := i) hs (by omega)
  have h2 : outW (s.take (i + 1)) = outW (s.take i) ++ highL ((ixd s (i : Int)).toNat : Int) 4 := by
    have e : ixd s (i : Int) = s[i] := by rw [ixd_eq (by simp; omega)]; simp
    unfold outW
    rw [List.take_succ_eq_append_getElem (by omega), e, List.flatMap_append]; simp
  unfold layL
  rw [highL_len, outF, List.take_append_of_le_length (by omega), List.take_of_length_le (by omega), List.drop_append, List.drop_eq_nil_of_le (by omega), h1, List.nil_append, outF, h2]
  congr 1
  rw [List.drop_replicate]; congr 1; omega
theorem sha_Sum (lA : Option Addr) (lc : Nat) (l : List UInt8) (w0 : World) (hK : KOk w0) (hl : Slr w0 RB (.slice lA l.length lc) l) (hp : l.length ≤ 140737488351232) :
    Ct Tryd.prog 100 [.slice lA l.length lc] w0 no (fun ((e0) : List UInt8) => Ag [.blk 32 (RB.all e0)]) (fun (e0) => []) (fun (e0) => e0 = (shaH l).l) := by
  have hst := St.start w0
  have j_hK := KR.old hK
  have i_l := Rw.old hl
  refine genter _ hst Tryd.func100 rfl rfl rfl rfl ?_
  repeat' (first
   | refine gdraw (id := 6) [0,1,2,3,4,5,6,7,8,9] (by kernel_rfl) (by kernel_rfl) rfl ?_
   | refine gdraw (id := 11) [0,1,2,3,4,5,6] (by kernel_rfl) (by kernel_rfl) rfl ?_
   | (refine zw ?_; intros)
   | (refine z2 ?_ ?_ <;> first | exact zi | intro h | skip)
   | (refine kR ?_; refine zr (_) ?_)
   | (refine kO ?_; refine zc ?_ ?_ <;> intros))
  rename_i g1 _ _ g2 s _
  have hpl := padL_64 l
  have hp2 := padL_len l
  have hp3 : padN l.length ≤ 63 := by unfold padN; omega
  refine gloop [2, 3, 4] (fun (i : Nat) K => (5, .int .i64 ((64 * i : Nat) : Int)) :: K) (fun i => [rw_ 5 RB s (padL l).length (padL l), boxA g2 181 [.blk 8 (RW.all (sumW (padL l) i))], boxA g1 30 [.blk 32 (RB.all (List.replicate 32 0))]]) (fun i => 64 * i ≤ (padL l).length) (fun i => (padL l).length - 64 * i) 0 rfl (by repeat (first | exact trivial | refine ⟨rfl, ?_⟩)) (by rw [sumW]; exact (er (eb (eb Ent.nil)))) (by omega) (fun i hi => ?_)
  by_cases hlt : 64 * i < (padL l).length
  · have h64 : 64 * i + 64 ≤ (padL l).length := by clear hp hp2; omega
    clear hpl
    repeat' (first
     | refine gdraw (id := 6) [0,1,2,3,4,5,6,7,8,9] (by kernel_rfl) (by kernel_rfl) rfl ?_
     | refine gdraw (id := 11) [0,1,2,3,4,5,6] (by kernel_rfl) (by kernel_rfl) rfl ?_
     | refine gap0 rfl rfl rfl rfl (by omega) rfl (fun _ => ?_)
     | (refine zw ?_; intros)
     | (refine z2 ?_ ?_ <;> first | exact zi | intro h | skip)
     | (refine kR ?_; refine zr (_) ?_)
     | (refine kO ?_; refine zc ?_ ?_ <;> intros)
     | (refine kD ?_; exact dz))
    refine gnl (i + 1) ?_ ?_ (by omega) (by omega)
    · rw [show ((64 * (i + 1) : Nat) : Int) = ((64 * i : Nat) : Int) + 64 by omega]; exact (by repeat (first | exact trivial | refine ⟨rfl, ?_⟩))
    · rw [sumW, ← blk_cut (k := ((((64 * i : Nat) : Int) + 64) - ((64 * i : Nat) : Int)).toNat) (padL l) i (by omega) h64, Int.toNat_natCast, show Int.toNat 0 = 0 from rfl]
      exact (er (eb (eb Ent.nil)))
  · have hdone : i = (padL l).length / 64 := by omega
    repeat' (first
     | refine gdraw (id := 6) [0,1,2,3,4,5,6,7,8,9] (by kernel_rfl) (by kernel_rfl) rfl ?_
     | refine gdraw (id := 11) [0,1,2,3,4,5,6] (by kernel_rfl) (by kernel_rfl) rfl ?_
     | (refine zw ?_; intros)
     | (refine z2 ?_ ?_ <;> first | exact zi | intro h | skip)
     | (refine kR ?_; refine zr (_) ?_)
     | (refine kO ?_; refine zc ?_ ?_ <;> intros))
    rename_i g3 _
    have hsl := sumW_len (padL l) i
    refine gloop [2, 6, 27] (fun (j : Nat) K => (28, .int .i64 j) :: K) (fun j => [boxA g3 30 [.blk 32 (RB.all (outF (sumW (padL l) i) j))], boxA g1 30 [.blk 32 (RB.all (List.replicate 32 0))]]) (fun j => j ≤ 8) (fun j => 8 - j) 0 rfl (by repeat (first | exact trivial | refine ⟨rfl, ?_⟩)) (by rw [show outF (sumW (padL l) i) 0 = List.replicate 32 0 by simp [outF, outW]]; exact (eb (eb Ent.nil))) (by omega) (fun j hj => ?_)
    have hv : LenIs (outF (sumW (padL l) i) j) 32 := ⟨outF_len hsl hj⟩
    by_cases hlj : j < 8
    · skip
      repeat' (first
       | refine gdraw (id := 6) [0,1,2,3,4,5,6,7,8,9] (by kernel_rfl) (by kernel_rfl) rfl ?_
       | refine gdraw (id := 11) [0,1,2,3,4,5,6] (by kernel_rfl) (by kernel_rfl) rfl ?_
       | (refine zw ?_; intros)
       | (refine z2 ?_ ?_ <;> first | exact zi | intro h | skip)
       | (refine kR ?_; refine zr (_) ?_)
       | (refine kO ?_; refine zc ?_ ?_ <;> intros))
      refine gnl (j + 1) (by repeat (first | exact trivial | refine ⟨rfl, ?_⟩)) ?_ (by omega) (by omega)
      rw [← outF_step hsl hlj, show (4 * (j : Int)).toNat = 4 * j by omega, show Int.toNat 4 = 4 from rfl]
      exact (eb (eb Ent.nil))
    · obtain rfl : j = 8 := by omega
      repeat' (first
       | refine gdraw (id := 6) [0,1,2,3,4,5,6,7,8,9] (by kernel_rfl) (by kernel_rfl) rfl ?_
       | refine gdraw (id := 11) [0,1,2,3,4,5,6] (by kernel_rfl) (by kernel_rfl) rfl ?_
       | (refine zw ?_; intros)
       | (refine z2 ?_ ?_ <;> first | exact zi | intro h | skip)
       | (refine kR ?_; refine zr (_) ?_)
       | (refine kO ?_; refine zc ?_ ?_ <;> intros))
      show outF (sumW (padL l) i) 8 = shaL l
      rw [outF, List.take_of_length_le (by omega), List.replicate_zero, List.append_nil, hdone]; rfl
instance c_sha_Sum {lA : Option Addr} {lc ln : Nat} {l : List UInt8} {w0 : World} {X : Nat → Prop} {L : List Assn} [hK : KR w0 X L] [hl : Rw w0 X L (.slice lA ln lc) RB l] : Ctr Tryd.prog 100 [.slice lA ln lc] w0 X L (l.length ≤ 140737488351232) (fun _ : Unit => Ag [.blk 32 (RB.all (shaH l).l)]) (fun _ : Unit => L) (fun _ : Unit => True) :=
  ctr' (M' := (fun _ : Unit => [])) (by kernel_rfl) (fun hp w hw => by have el := hl.len hw; subst el; exact sha_Sum _ _ _ w (hK.get w hw) (hl.get w hw) hp) (by rintro hp e0 rfl ok; exact ⟨(), rfl, rfl, trivial⟩)
theorem sha_Twice (lA : Option Addr) (lc : Nat) (l : List UInt8) (w0 : World) (hK : KOk w0) (hl : Slr w0 RB (.slice lA l.length lc) l) (hp : l.length ≤ 140737488351232) :
    Ct Tryd.prog 83 [.slice lA l.length lc] w0 no (fun ((e0) : List UInt8) => Ag [.blk 32 (RB.all e0)]) (fun (e0) => []) (fun (e0) => e0 = (sha2 l).l) := by
  have hst := St.start w0
  have j_hK := KR.old hK
  have i_l := Rw.old hl
  refine genter _ hst Tryd.func83 rfl rfl rfl rfl ?_
  have h32 := shaL_len l
  have h33 : (shaH l).l.length ≤ 140737488351232 := by show (shaL l).length ≤ _; omega
  repeat' (first
   | (refine zw ?_; intros)
   | (refine z2 ?_ ?_ <;> first | exact zi | intro h | skip)
   | (refine kR ?_; refine zr (_) ?_)
   | (refine kO ?_; refine zc ?_ ?_ <;> intros))
  rfl
instance c_sha_Twice {lA : Option Addr} {lc ln : Nat} {l : List UInt8} {w0 : World} {X : Nat → Prop} {L : List Assn} [hK : KR w0 X L] [hl : Rw w0 X L (.slice lA ln lc) RB l] : Ctr Tryd.prog 83 [.slice lA ln lc] w0 X L (l.length ≤ 140737488351232) (fun _ : Unit => Ag [.blk 32 (RB.all (sha2 l).l)]) (fun _ : Unit => L) (fun _ : Unit => True) :=
  ctr' (M' := (fun _ : Unit => [])) (by kernel_rfl) (fun hp w hw => by have el := hl.len hw; subst el; exact sha_Twice _ _ _ w (hK.get w hw) (hl.get w hw) hp) (by rintro hp e0 rfl ok; exact ⟨(), rfl, rfl, trivial⟩)
end Go.Proofs.YtalainpmlonahaaDoor
