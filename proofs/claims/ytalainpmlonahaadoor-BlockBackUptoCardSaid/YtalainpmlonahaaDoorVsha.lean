/-
  sha: contracts.
-/
import Derived.Test.YtalainpmlonahaaDoorVshaP
import Derived.Test.YtalainpmlonahaaDoorVlib
set_option linter.all false
set_option maxRecDepth 100000
set_option maxHeartbeats 4000000
namespace Go.Proofs.YtalainpmlonahaaDoor
open Go.RowKit

instance : ZS Tryd.prog 181 [.blk 8 (RW.all (List.replicate 8 (u32 0)))] := ⟨by kernel_rfl, by kernel_rfl, trivial⟩
instance : ZS Tryd.prog 188 [.blk 64 (RW.all (List.replicate 64 (u32 0)))] := ⟨by kernel_rfl, by kernel_rfl, trivial⟩
/-- the constants lie where they are declared -/
def KOk (w : World) : Prop := ∀ (j : Nat) u, (RW.all shaK)[j]? = some u → w.cell? ⟨1, j, none⟩ = some u
class KR (w0 : World) (X : Nat → Prop) (L : List Assn) : Prop where
  get : ∀ w, St w0 X L w → KOk w
theorem KR.old {w0 : World} (h : KOk w0) (L : List Assn) : KR w0 no L := ⟨fun w hst j u hj => hst.cell (h j u hj)⟩
theorem lvK {P : Program} {w0 : World} {X : Nat → Prop} {L : List Assn} {i : Int} {t : TypeId} [hK : KR w0 X L] [hI : Ix i 64] (ha : aggB P t = some false) : Lv P w0 X L t (ela 1 0 64 1 i) (.int .u32 ((ixd shaK i).toNat : Int)) := .mk fun w hw => by
  have hI := hI.h
  have hl : shaK.length = 64 := rfl
  have hi : i.toNat < shaK.length := by omega
  rw [ela_eq]
  refine run_loadVar_one ha ?_
  rw [ixd_eq hi]
  have h1 : at1 (RW.sg shaK[i.toNat]) 0 = some (.int .u32 ((shaK[i.toNat]).toNat : Int)) := rfl
  have h2 := Rep.at_ (R := RW) hi (at1_ok (RW.ok _).1 h1)
  have es : RW.sz = 1 := rfl
  rw [es, Nat.mul_one, Nat.add_zero] at h2
  have := hK.get w hw _ _ h2
  simpa using this
theorem band31 {k : Int} (h : -31 ≤ k ∧ k ≤ -1) : bits .and .u64 (IntKind.u64.wrap k) 31 = 32 + k := by
  have e : IntKind.u64.wrap k = 18446744073709551616 + k := by rw [IntKind.wrap_u64]; omega
  rw [e]
  obtain ⟨m, hm⟩ := Int.eq_ofNat_of_zero_le (show 0 ≤ 18446744073709551616 + k by omega)
  rw [hm]
  unfold bits
  have h1 : (BitVec.ofInt IntKind.u64.bits (m : Int) &&& BitVec.ofInt IntKind.u64.bits 31).toNat = m % 32 := by
    show (BitVec.ofInt 64 (m : Int) &&& BitVec.ofInt 64 31).toNat = m % 32
    rw [BitVec.toNat_and]
    have a1 : (BitVec.ofInt 64 (m : Int)).toNat = m := by rw [BitVec.toNat_ofInt]; omega
    have a2 : (BitVec.ofInt 64 31).toNat = 2 ^ 5 - 1 := by decide
    rw [a1, a2, Nat.and_two_pow_sub_one_eq_mod]
  simp only [h1]
  rw [IntKind.wrap_u64]; omega
def rotW (x : UInt32) (k : Int) : UInt32 := shlW x (32 + k).toNat ||| shrW x (32 - (32 + k)).toNat
theorem sha_RotL (x : UInt32) (k : Int) (w0 : World)  (hp : -31 ≤ k ∧ k ≤ -1) :
    Ct Tryd.prog 117 [.int .u32 (x.toNat : Int), .int .i64 k] w0 no (fun ((e0) : UInt32) => .int .u32 (e0.toNat : Int)) (fun (e0) => []) (fun (e0) => e0 = rotW x k) := by
  have hst := St.start w0
  refine genter _ hst Tryd.func117 rfl rfl rfl rfl ?_
  repeat' (first
   | refine gy (y_and rfl rfl (band31 ⟨by omega, by omega⟩)) rfl rfl ?_
   | (refine zw ?_; intros)
   | (refine z2 ?_ ?_ <;> first | exact zi | intro h | skip)
   | (refine kR ?_; refine zr (_) ?_)
   | (refine kO ?_; refine zc ?_ ?_ <;> intros)
   | (refine kD ?_; exact dz))
  rfl
instance c_sha_RotL {x : UInt32} {k : Int} {w0 : World} {X : Nat → Prop} {L : List Assn}  : Ctr Tryd.prog 117 [.int .u32 (x.toNat : Int), .int .i64 k] w0 X L (-31 ≤ k ∧ k ≤ -1) (fun _ : Unit => .int .u32 ((rotW x k).toNat : Int)) (fun _ : Unit => L) (fun _ : Unit => True) :=
  ctr' (M' := (fun _ : Unit => [])) (by kernel_rfl) (fun hp w hw => by exact sha_RotL _ _ w hp) (by rintro hp e0 rfl ok; exact ⟨(), rfl, rfl, trivial⟩)
theorem sha_turn (x : UInt32) (n : Int) (w0 : World)  (hp : 1 ≤ n ∧ n ≤ 31) :
    Ct Tryd.prog 116 [.int .u32 (x.toNat : Int), .int .i64 n] w0 no (fun ((e0) : UInt32) => .int .u32 (e0.toNat : Int)) (fun (e0) => []) (fun (e0) => e0 = turnW x n) := by
  have hst := St.start w0
  refine genter _ hst Tryd.func116 rfl rfl rfl rfl ?_
  repeat' (first
   | (refine zw ?_; intros)
   | (refine z2 ?_ ?_ <;> first | exact zi | intro h | skip)
   | (refine kR ?_; refine zr (_) ?_)
   | (refine kO ?_; refine zc ?_ ?_ <;> intros))
  unfold turnW rotW
  rw [UInt32.or_comm, show (32 - (32 + -n)).toNat = n.toNat by omega, show (32 + -n).toNat = (32 - n).toNat by omega]
instance c_sha_turn {x : UInt32} {n : Int} {w0 : World} {X : Nat → Prop} {L : List Assn}  : Ctr Tryd.prog 116 [.int .u32 (x.toNat : Int), .int .i64 n] w0 X L (1 ≤ n ∧ n ≤ 31) (fun _ : Unit => .int .u32 ((turnW x n).toNat : Int)) (fun _ : Unit => L) (fun _ : Unit => True) :=
  ctr' (M' := (fun _ : Unit => [])) (by kernel_rfl) (fun hp w hw => by exact sha_turn _ _ w hp) (by rintro hp e0 rfl ok; exact ⟨(), rfl, rfl, trivial⟩)
theorem sha_Begin  (w0 : World)   :
    Ct Tryd.prog 110 [] w0 no (fun ((e0) : List UInt32) => Ag [.blk 8 (RW.all e0)]) (fun (e0) => []) (fun (e0) => e0 = shaB) := by
  have hst := St.start w0
  refine genter _ hst Tryd.func110 rfl rfl rfl rfl ?_
  repeat' (first
   | refine gbarr RW shaB rfl rfl rfl rfl (wordsE_ok rfl) rfl rfl ?_
   | (refine z1 ?_; intros)
   | (refine z2 ?_ ?_ <;> first | exact zi | intro h | skip)
   | (refine kR ?_; refine zr (_) ?_)
   | (refine kO ?_; refine zc ?_ ?_ <;> intros)
   | (refine kD ?_; exact dz))
  all_goals rfl
instance c_sha_Begin  {w0 : World} {X : Nat → Prop} {L : List Assn}  : Ctr Tryd.prog 110 [] w0 X L (True) (fun _ : Unit => Ag [.blk 8 (RW.all (shaB))]) (fun _ : Unit => L) (fun _ : Unit => True) :=
  ctr' (M' := (fun _ : Unit => [])) (by kernel_rfl) (fun hp w hw => by exact sha_Begin  w) (by rintro hp e0 rfl ok; exact ⟨(), rfl, rfl, trivial⟩)
def highF (n : Int) (m i : Nat) : List UInt8 := (List.range m).map fun j => if j < m - i then 0 else u8 (n / 2 ^ (8 * (m - 1 - j)))
theorem highF_0 (n : Int) (m : Nat) : highF n m 0 = List.replicate m 0 := by
  apply List.ext_getElem
  · simp [highF]
  · intro i h1 h2
    simp [highF] at h1
    simp [highF, h1]
theorem highF_m (n : Int) (m : Nat) : highF n m m = highL n m := by
  apply List.ext_getElem
  · simp [highF, highL]
  · intro i h1 h2
    simp [highF, highL]
theorem highF_step {n : Int} {m i k : Nat} (h : i < m) (hk : k = m - 1 - i) : (highF n m i).set k (u8 (n / 2 ^ (8 * i))) = highF n m (i + 1) := by
  subst hk
  apply List.ext_getElem
  · simp [highF]
  · intro j h1 h2
    simp only [List.length_set, highF, List.length_map, List.length_range] at h1
    simp only [highF, List.getElem_set, List.getElem_map, List.getElem_range]
    by_cases e : m - 1 - i = j
    · rw [if_pos e, if_neg (by omega)]
      congr 4; omega
    · rw [if_neg e]
      by_cases e2 : j < m - i
      · rw [if_pos e2, if_pos (by omega)]
      · rw [if_neg e2, if_neg (by omega)]
instance {n : Int} {m i : Nat} : LenIs (highF n m i) m := ⟨by simp [highF]⟩
theorem sha_high (n : Int) (many : Int) (w0 : World)  (hp : (0 ≤ n ∧ n ≤ 18446744073709551615) ∧ (many = 8 ∨ many = 4)) :
    Ct Tryd.prog 113 [.int .u64 n, .int .i64 many] w0 no (fun ((⟨s0, n0, x0⟩) : Br UInt8) => .slice s0.A n0 s0.c) (fun (⟨s0, n0, x0⟩) => [rw_ 5 RB s0 n0 x0]) (fun (⟨s0, n0, x0⟩) => x0 = (highL n many.toNat)) := by
  have hst := St.start w0
  refine genter _ hst Tryd.func113 rfl rfl rfl rfl ?_
  obtain ⟨hn, rfl | rfl⟩ := hp
  · skip
    repeat' (first
     | refine gm (m := 8) rfl rfl rfl (by omega) rfl (fun _ => ?_) (fun _ => ?_)
     | (refine z1 ?_; intros)
     | (refine z2 ?_ ?_ <;> first | exact zi | intro h | skip)
     | (refine kR ?_; refine zr (⟨⟨_, _⟩, _, _⟩) ?_)
     | (refine kO ?_; refine zc ?_ ?_ <;> intros)
     | (refine kD ?_; exact dz))
    rename_i s
    refine gloop [0, 1, 5, 10] (fun (i : Nat) K => (11, .int .i64 i) :: K) (fun i => [rw_ 5 RB s 8 (highF n 8 i)]) (fun i => i ≤ 8) (fun i => 8 - i) 0 rfl (by repeat (first | exact trivial | refine ⟨rfl, ?_⟩)) (by rw [highF_0]; exact er Ent.nil) (by omega) (fun i hi => ?_)
    by_cases hlt : i < 8
    · skip
      repeat' (first
       | refine ge rfl rfl rfl rfl ?_ ?_
       | (refine z1 ?_; intros)
       | (refine z2 ?_ ?_ <;> first | exact zi | intro h | skip)
       | (refine kR ?_; refine zr (⟨⟨_, _⟩, _, _⟩) ?_)
       | (refine kO ?_; refine zc ?_ ?_ <;> intros)
       | (refine kD ?_; exact dz))
      refine gnl (i + 1) (by repeat (first | exact trivial | refine ⟨rfl, ?_⟩)) ?_ (by omega) (by omega)
      rw [← highF_step (k := (8 - 1 - (i : Int)).toNat) hlt (by omega)]
      rw [show ((8 : Int) * (i : Int)).toNat = 8 * i by omega]
      exact er Ent.nil
    · obtain rfl : i = 8 := by omega
      repeat' (first
       | (refine z1 ?_; intros)
       | (refine z2 ?_ ?_ <;> first | exact zi | intro h | skip)
       | (refine kR ?_; refine zr (⟨⟨_, _⟩, _, _⟩) ?_)
       | (refine kO ?_; refine zc ?_ ?_ <;> intros))
      exact highF_m _ _
  · skip
    repeat' (first
     | refine gm (m := 4) rfl rfl rfl (by omega) rfl (fun _ => ?_) (fun _ => ?_)
     | (refine z1 ?_; intros)
     | (refine z2 ?_ ?_ <;> first | exact zi | intro h | skip)
     | (refine kR ?_; refine zr (⟨⟨_, _⟩, _, _⟩) ?_)
     | (refine kO ?_; refine zc ?_ ?_ <;> intros)
     | (refine kD ?_; exact dz))
    rename_i s
    refine gloop [0, 1, 5, 10] (fun (i : Nat) K => (11, .int .i64 i) :: K) (fun i => [rw_ 5 RB s 4 (highF n 4 i)]) (fun i => i ≤ 4) (fun i => 4 - i) 0 rfl (by repeat (first | exact trivial | refine ⟨rfl, ?_⟩)) (by rw [highF_0]; exact er Ent.nil) (by omega) (fun i hi => ?_)
    by_cases hlt : i < 4
    · skip
      repeat' (first
       | refine ge rfl rfl rfl rfl ?_ ?_
       | (refine z1 ?_; intros)
       | (refine z2 ?_ ?_ <;> first | exact zi | intro h | skip)
       | (refine kR ?_; refine zr (⟨⟨_, _⟩, _, _⟩) ?_)
       | (refine kO ?_; refine zc ?_ ?_ <;> intros)
       | (refine kD ?_; exact dz))
      refine gnl (i + 1) (by repeat (first | exact trivial | refine ⟨rfl, ?_⟩)) ?_ (by omega) (by omega)
      rw [← highF_step (k := (4 - 1 - (i : Int)).toNat) hlt (by omega)]
      rw [show ((8 : Int) * (i : Int)).toNat = 8 * i by omega]
      exact er Ent.nil
    · obtain rfl : i = 4 := by omega
      repeat' (first
       | (refine z1 ?_; intros)
       | (refine z2 ?_ ?_ <;> first | exact zi | intro h | skip)
       | (refine kR ?_; refine zr (⟨⟨_, _⟩, _, _⟩) ?_)
       | (refine kO ?_; refine zc ?_ ?_ <;> intros))
      exact highF_m _ _
instance c_sha_high {n : Int} {many : Int} {w0 : World} {X : Nat → Prop} {L : List Assn}  : Ctr Tryd.prog 113 [.int .u64 n, .int .i64 many] w0 X L ((0 ≤ n ∧ n ≤ 18446744073709551615) ∧ (many = 8 ∨ many = 4)) (fun s0 : Sv => .slice s0.A (highL n many.toNat).length s0.c) (fun s0 : Sv => rw_ 5 RB s0 (highL n many.toNat).length (highL n many.toNat) :: L) (fun s0 : Sv => (highL n many.toNat).length = many.toNat) :=
  ctr' (M' := (fun s0 : Sv => [rw_ 5 RB s0 (highL n many.toNat).length (highL n many.toNat)])) (by kernel_rfl) (fun hp w hw => by exact sha_high _ _ w hp) (by rintro hp ⟨s0, n0, x0⟩ rfl ok; cases ok.row; exact ⟨s0, rfl, rfl, highL_len _ _⟩)
theorem padN_eq (n : Nat) : ((56 - ((n : Int) + 1) % 64 + 64) % 64).toNat = padN n := by unfold padN; omega
theorem sha_Padded (lA : Option Addr) (lc : Nat) (l : List UInt8) (w0 : World) (hl : Slr w0 RB (.slice lA l.length lc) l) (hp : l.length ≤ 140737488351232) :
    Ct Tryd.prog 111 [.slice lA l.length lc] w0 no (fun ((⟨s0, n0, x0⟩) : Br UInt8) => .slice s0.A n0 s0.c) (fun (⟨s0, n0, x0⟩) => [rw_ 5 RB s0 n0 x0]) (fun (⟨s0, n0, x0⟩) => x0 = (padL l)) := by
  have hst := St.start w0
  have i_l := Rw.old hl
  refine genter _ hst Tryd.func111 rfl rfl rfl rfl ?_
  repeat' (first
   | (refine z1 ?_; intros)
   | (refine z2 ?_ ?_ <;> first | exact zi | intro h | skip)
   | (refine kR ?_; refine zr (⟨⟨_, _⟩, _, _⟩) ?_)
   | (refine kO ?_; refine zc ?_ ?_ <;> intros))
  show [] ++ l ++ [u8 128] ++ List.replicate ((56 - ((l.length : Int) + 1) % 64 + 64) % 64).toNat 0 ++ highL ((l.length : Int) * 2 ^ 3) 8 = padL l
  rw [padN_eq, show (l.length : Int) * 2 ^ 3 = 8 * (l.length : Int) by simp; omega, List.nil_append]
  rfl
instance c_sha_Padded {lA : Option Addr} {lc ln : Nat} {l : List UInt8} {w0 : World} {X : Nat → Prop} {L : List Assn} [hl : Rw w0 X L (.slice lA ln lc) RB l] : Ctr Tryd.prog 111 [.slice lA ln lc] w0 X L (l.length ≤ 140737488351232) (fun s0 : Sv => .slice s0.A (padL l).length s0.c) (fun s0 : Sv => rw_ 5 RB s0 (padL l).length (padL l) :: L) (fun s0 : Sv => True) :=
  ctr' (M' := (fun s0 : Sv => [rw_ 5 RB s0 (padL l).length (padL l)])) (by kernel_rfl) (fun hp w hw => by have el := hl.len hw; subst el; exact sha_Padded _ _ _ w (hl.get w hw) hp) (by rintro hp ⟨s0, n0, x0⟩ rfl ok; cases ok.row; exact ⟨s0, rfl, rfl, trivial⟩)
theorem accW_succ (b : List UInt8) (i : Nat) (x : UInt32) (j : Nat) : accW b i x (j + 1) = shlW (accW b i x j) (Int.toNat 8) ||| (ixd b (4 * (i : Int) + (j : Int))).toUInt32 := rfl
theorem schW_lo {b : List UInt8} {i : Nat} (h : i < 16) : schW b (i + 1) = (schW b i).set i (accW b i (ixd (schW b i) i) 4) := by rw [schW, wStep, if_pos h]
theorem schW_hi {b : List UInt8} {i : Nat} (h : ¬ i < 16) : schW b (i + 1) = (schW b i).set i (ixd (schW b i) ((i : Int) - 16) + ixd (schW b i) ((i : Int) - 7) + sg0 (ixd (schW b i) ((i : Int) - 15)) + sg1 (ixd (schW b i) ((i : Int) - 2))) := by rw [schW, wStep, if_neg h]
theorem sha_Round (s : List UInt32) [hs : LenIs s 8] (b : List UInt8) [hb : LenIs b 64] (w0 : World) (hK : KOk w0)  :
    Ct Tryd.prog 112 [Ag [.blk 8 (RW.all s)], Ag [.blk 64 (RB.all b)]] w0 no (fun ((e0) : List UInt32) => Ag [.blk 8 (RW.all e0)]) (fun (e0) => []) (fun (e0) => e0 = rndW s b) := by
  have hst := St.start w0
  have j_hK := KR.old hK
  refine genter _ hst Tryd.func112 rfl rfl rfl rfl ?_
  repeat' (first
   | refine gdraw (id := 11) [0,1,2,3,4,5,6,7,8,9] (by kernel_rfl) (by kernel_rfl) rfl ?_
   | refine gdraw (id := 12) [0,1,2,3,4,5,6,7,8,9,10,12,15,16,19,21,24,25,11,13,14,17,18,20,22,23,26,27,28,29] (by kernel_rfl) (by kernel_rfl) rfl ?_
   | refine gdraw (id := 14) [0,1,2,3,4,5,6,7,8,9,10,11,12,13,14,15,16,17,18,19,20,21,22,23] (by kernel_rfl) (by kernel_rfl) rfl ?_
   | refine gdraw (id := 18) [0,1,3,6,10,11,12,13,14,15,16,17,19,20,21,23,24,25,2,4,5,7,8,9,18,22,26,27] (by kernel_rfl) (by kernel_rfl) rfl ?_
   | (refine zw ?_; intros)
   | (refine z2 ?_ ?_ <;> first | exact zi | intro h | skip)
   | (refine kR ?_; refine zr (_) ?_)
   | (refine kO ?_; refine zc ?_ ?_ <;> intros))
  rename_i g1 g2 g3 g4
  have hbl := hb.h
  refine gloop [2, 3, 4, 5] (fun (i : Nat) K => (24, .int .i64 i) :: K) (fun i => [boxA g4 188 [.blk 64 (RW.all (schW b i))], boxA g3 181 [.blk 8 (RW.all (List.replicate 8 (u32 0)))], boxA g2 184 [.blk 64 (RB.all b)], boxA g1 181 [.blk 8 (RW.all s)]]) (fun i => i ≤ 64) (fun i => 64 - i) 0 rfl (by repeat (first | exact trivial | refine ⟨rfl, ?_⟩)) (by rw [schW]; exact eb (eb (eb (eb Ent.nil)))) (by omega) (fun i hi => ?_)
  have hwl := schW_len b i
  by_cases hlt : i < 64
  · by_cases h16 : i < 16
    · skip
      repeat' (first
       | refine gdraw (id := 11) [0,1,2,3,4,5,6,7,8,9] (by kernel_rfl) (by kernel_rfl) rfl ?_
       | refine gdraw (id := 12) [0,1,2,3,4,5,6,7,8,9,10,12,15,16,19,21,24,25,11,13,14,17,18,20,22,23,26,27,28,29] (by kernel_rfl) (by kernel_rfl) rfl ?_
       | refine gdraw (id := 14) [0,1,2,3,4,5,6,7,8,9,10,11,12,13,14,15,16,17,18,19,20,21,22,23] (by kernel_rfl) (by kernel_rfl) rfl ?_
       | refine gdraw (id := 18) [0,1,3,6,10,11,12,13,14,15,16,17,19,20,21,23,24,25,2,4,5,7,8,9,18,22,26,27] (by kernel_rfl) (by kernel_rfl) rfl ?_
       | (refine zw ?_; intros)
       | (refine z2 ?_ ?_ <;> first | exact zi | intro h | skip)
       | (refine kR ?_; refine zr (_) ?_)
       | (refine kO ?_; refine zc ?_ ?_ <;> intros))
      refine gloop [2, 3, 4, 5, 6, 24, 34, 35] (fun (j : Nat) K => (36, .int .i64 j) :: K) (fun j => [boxA g4 188 [.blk 64 (RW.all ((schW b i).set i (accW b i (ixd (schW b i) i) j)))], boxA g3 181 [.blk 8 (RW.all (List.replicate 8 (u32 0)))], boxA g2 184 [.blk 64 (RB.all b)], boxA g1 181 [.blk 8 (RW.all s)]]) (fun j => j ≤ 4) (fun j => 4 - j) 0 rfl (by repeat (first | exact trivial | refine ⟨rfl, ?_⟩)) (by rw [accW, set_ixd (by omega)]; exact (eb (eb (eb (eb Ent.nil))))) (by omega) (fun j hj => ?_)
      by_cases hlj : j < 4
      · skip
        repeat' (first
         | refine gdraw (id := 11) [0,1,2,3,4,5,6,7,8,9] (by kernel_rfl) (by kernel_rfl) rfl ?_
         | refine gdraw (id := 12) [0,1,2,3,4,5,6,7,8,9,10,12,15,16,19,21,24,25,11,13,14,17,18,20,22,23,26,27,28,29] (by kernel_rfl) (by kernel_rfl) rfl ?_
         | refine gdraw (id := 14) [0,1,2,3,4,5,6,7,8,9,10,11,12,13,14,15,16,17,18,19,20,21,22,23] (by kernel_rfl) (by kernel_rfl) rfl ?_
         | refine gdraw (id := 18) [0,1,3,6,10,11,12,13,14,15,16,17,19,20,21,23,24,25,2,4,5,7,8,9,18,22,26,27] (by kernel_rfl) (by kernel_rfl) rfl ?_
         | (refine zw ?_; intros)
         | (refine z2 ?_ ?_ <;> first | exact zi | intro h | skip)
         | (refine kR ?_; refine zr (_) ?_)
         | (refine kO ?_; refine zc ?_ ?_ <;> intros))
        refine gnl (j + 1) (by repeat (first | exact trivial | refine ⟨rfl, ?_⟩)) ?_ (by omega) (by omega)
        rw [ixd_set_self (by omega) (by omega), ixd_cut (by omega) (by omega), Int.toNat_natCast, List.set_set, show ((4 * (i : Int)).toNat : Int) = 4 * (i : Int) by omega, ← accW_succ]
        exact (eb (eb (eb (eb Ent.nil))))
      · obtain rfl : j = 4 := by omega
        repeat' (first
         | refine gdraw (id := 11) [0,1,2,3,4,5,6,7,8,9] (by kernel_rfl) (by kernel_rfl) rfl ?_
         | refine gdraw (id := 12) [0,1,2,3,4,5,6,7,8,9,10,12,15,16,19,21,24,25,11,13,14,17,18,20,22,23,26,27,28,29] (by kernel_rfl) (by kernel_rfl) rfl ?_
         | refine gdraw (id := 14) [0,1,2,3,4,5,6,7,8,9,10,11,12,13,14,15,16,17,18,19,20,21,22,23] (by kernel_rfl) (by kernel_rfl) rfl ?_
         | refine gdraw (id := 18) [0,1,3,6,10,11,12,13,14,15,16,17,19,20,21,23,24,25,2,4,5,7,8,9,18,22,26,27] (by kernel_rfl) (by kernel_rfl) rfl ?_
         | (refine zw ?_; intros)
         | (refine z2 ?_ ?_ <;> first | exact zi | intro h | skip)
         | (refine kR ?_; refine zr (_) ?_)
         | (refine kO ?_; refine zc ?_ ?_ <;> intros))
        refine gnl (i + 1) (by repeat (first | exact trivial | refine ⟨rfl, ?_⟩)) ?_ (by omega) (by omega)
        rw [schW_lo h16]; exact (eb (eb (eb (eb Ent.nil))))
    · skip
      repeat' (first
       | refine gdraw (id := 11) [0,1,2,3,4,5,6,7,8,9] (by kernel_rfl) (by kernel_rfl) rfl ?_
       | refine gdraw (id := 12) [0,1,2,3,4,5,6,7,8,9,10,12,15,16,19,21,24,25,11,13,14,17,18,20,22,23,26,27,28,29] (by kernel_rfl) (by kernel_rfl) rfl ?_
       | refine gdraw (id := 14) [0,1,2,3,4,5,6,7,8,9,10,11,12,13,14,15,16,17,18,19,20,21,22,23] (by kernel_rfl) (by kernel_rfl) rfl ?_
       | refine gdraw (id := 18) [0,1,3,6,10,11,12,13,14,15,16,17,19,20,21,23,24,25,2,4,5,7,8,9,18,22,26,27] (by kernel_rfl) (by kernel_rfl) rfl ?_
       | (refine zw ?_; intros)
       | (refine z2 ?_ ?_ <;> first | exact zi | intro h | skip)
       | (refine kR ?_; refine zr (_) ?_)
       | (refine kO ?_; refine zc ?_ ?_ <;> intros))
      refine gnl (i + 1) (by repeat (first | exact trivial | refine ⟨rfl, ?_⟩)) ?_ (by omega) (by omega)
      rw [schW_hi h16, Int.toNat_natCast]
      simp only [sg0, sg1]
      exact (eb (eb (eb (eb Ent.nil))))
  · obtain rfl : i = 64 := by omega
    repeat' (first
     | refine gdraw (id := 11) [0,1,2,3,4,5,6,7,8,9] (by kernel_rfl) (by kernel_rfl) rfl ?_
     | refine gdraw (id := 12) [0,1,2,3,4,5,6,7,8,9,10,12,15,16,19,21,24,25,11,13,14,17,18,20,22,23,26,27,28,29] (by kernel_rfl) (by kernel_rfl) rfl ?_
     | refine gdraw (id := 14) [0,1,2,3,4,5,6,7,8,9,10,11,12,13,14,15,16,17,18,19,20,21,22,23] (by kernel_rfl) (by kernel_rfl) rfl ?_
     | refine gdraw (id := 18) [0,1,3,6,10,11,12,13,14,15,16,17,19,20,21,23,24,25,2,4,5,7,8,9,18,22,26,27] (by kernel_rfl) (by kernel_rfl) rfl ?_
     | (refine zw ?_; intros)
     | (refine z2 ?_ ?_ <;> first | exact zi | intro h | skip)
     | (refine kR ?_; refine zr (_) ?_)
     | (refine kO ?_; refine zc ?_ ?_ <;> intros))
    refine gloop [2, 4, 5] (fun (i : Nat) K => (11, wd_ (rds (schW b 64) (V8.of s) i).a) :: (12, wd_ (rds (schW b 64) (V8.of s) i).b) :: (13, wd_ (rds (schW b 64) (V8.of s) i).c) :: (14, wd_ (rds (schW b 64) (V8.of s) i).d) :: (15, wd_ (rds (schW b 64) (V8.of s) i).e) :: (16, wd_ (rds (schW b 64) (V8.of s) i).f) :: (17, wd_ (rds (schW b 64) (V8.of s) i).g) :: (18, wd_ (rds (schW b 64) (V8.of s) i).h) :: (104, .int .i64 i) :: K) (fun i => [boxA g4 188 [.blk 64 (RW.all (schW b 64))], boxA g3 181 [.blk 8 (RW.all (List.replicate 8 (u32 0)))], boxA g2 184 [.blk 64 (RB.all b)], boxA g1 181 [.blk 8 (RW.all s)]]) (fun i => i ≤ 64) (fun i => 64 - i) 0 rfl (by simp only [rds, V8.of]; exact (by repeat (first | exact trivial | refine ⟨rfl, ?_⟩))) (eb (eb (eb (eb Ent.nil)))) (by omega) (fun i hi => ?_)
    by_cases hlt : i < 64
    · skip
      repeat' (first
       | refine gdraw (id := 11) [0,1,2,3,4,5,6,7,8,9] (by kernel_rfl) (by kernel_rfl) rfl ?_
       | refine gdraw (id := 12) [0,1,2,3,4,5,6,7,8,9,10,12,15,16,19,21,24,25,11,13,14,17,18,20,22,23,26,27,28,29] (by kernel_rfl) (by kernel_rfl) rfl ?_
       | refine gdraw (id := 14) [0,1,2,3,4,5,6,7,8,9,10,11,12,13,14,15,16,17,18,19,20,21,22,23] (by kernel_rfl) (by kernel_rfl) rfl ?_
       | refine gdraw (id := 18) [0,1,3,6,10,11,12,13,14,15,16,17,19,20,21,23,24,25,2,4,5,7,8,9,18,22,26,27] (by kernel_rfl) (by kernel_rfl) rfl ?_
       | (refine zw ?_; intros)
       | (refine z2 ?_ ?_ <;> first | exact zi | intro h | skip)
       | (refine kR ?_; refine zr (_) ?_)
       | (refine kO ?_; refine zc ?_ ?_ <;> intros))
      refine gnl (i + 1) (by simp only [rds, rdV, rT, rU, su0, su1, chW, majW]; exact (by repeat (first | exact trivial | refine ⟨rfl, ?_⟩))) (eb (eb (eb (eb Ent.nil)))) (by omega) (by omega)
    · obtain rfl : i = 64 := by omega
      have hsl := hs.h
      repeat' (first
       | refine gdraw (id := 11) [0,1,2,3,4,5,6,7,8,9] (by kernel_rfl) (by kernel_rfl) rfl ?_
       | refine gdraw (id := 12) [0,1,2,3,4,5,6,7,8,9,10,12,15,16,19,21,24,25,11,13,14,17,18,20,22,23,26,27,28,29] (by kernel_rfl) (by kernel_rfl) rfl ?_
       | refine gdraw (id := 14) [0,1,2,3,4,5,6,7,8,9,10,11,12,13,14,15,16,17,18,19,20,21,22,23] (by kernel_rfl) (by kernel_rfl) rfl ?_
       | refine gdraw (id := 18) [0,1,3,6,10,11,12,13,14,15,16,17,19,20,21,23,24,25,2,4,5,7,8,9,18,22,26,27] (by kernel_rfl) (by kernel_rfl) rfl ?_
       | refine gbarr RW _ rfl rfl rfl rfl inferInstance rfl rfl ?_
       | (refine zw ?_; intros)
       | (refine z2 ?_ ?_ <;> first | exact zi | intro h | skip)
       | (refine kR ?_; refine zr (_) ?_)
       | (refine kO ?_; refine zc ?_ ?_ <;> intros)
       | (refine kD ?_; exact dz))
      refine gloop [2, 4, 175] (fun (i : Nat) K => (176, .int .i64 i) :: K) (fun i => [boxA g3 181 [.blk 8 (RW.all (List.replicate 8 (u32 0)))], boxA g1 181 [.blk 8 (RW.all (addF s (rds (schW b 64) (V8.of s) 64).l i))]]) (fun i => i ≤ 8) (fun i => 8 - i) 0 rfl (by repeat (first | exact trivial | refine ⟨rfl, ?_⟩)) (by rw [show addF s (rds (schW b 64) (V8.of s) 64).l 0 = s by simp [addF]]; exact (eb (eb Ent.nil))) (by omega) (fun i hi => ?_)
      have hv : LenIs (addF s (rds (schW b 64) (V8.of s) 64).l i) 8 := ⟨addF_len hsl rfl hi⟩
      have hv2 : LenIs [(rds (schW b 64) (V8.of s) 64).a, (rds (schW b 64) (V8.of s) 64).b, (rds (schW b 64) (V8.of s) 64).c, (rds (schW b 64) (V8.of s) 64).d, (rds (schW b 64) (V8.of s) 64).e, (rds (schW b 64) (V8.of s) 64).f, (rds (schW b 64) (V8.of s) 64).g, (rds (schW b 64) (V8.of s) 64).h] 8 := ⟨rfl⟩
      by_cases hlt : i < 8
      · skip
        repeat' (first
         | refine gdraw (id := 11) [0,1,2,3,4,5,6,7,8,9] (by kernel_rfl) (by kernel_rfl) rfl ?_
         | refine gdraw (id := 12) [0,1,2,3,4,5,6,7,8,9,10,12,15,16,19,21,24,25,11,13,14,17,18,20,22,23,26,27,28,29] (by kernel_rfl) (by kernel_rfl) rfl ?_
         | refine gdraw (id := 14) [0,1,2,3,4,5,6,7,8,9,10,11,12,13,14,15,16,17,18,19,20,21,22,23] (by kernel_rfl) (by kernel_rfl) rfl ?_
         | refine gdraw (id := 18) [0,1,3,6,10,11,12,13,14,15,16,17,19,20,21,23,24,25,2,4,5,7,8,9,18,22,26,27] (by kernel_rfl) (by kernel_rfl) rfl ?_
         | (refine zw ?_; intros)
         | (refine z2 ?_ ?_ <;> first | exact zi | intro h | skip)
         | (refine kR ?_; refine zr (_) ?_)
         | (refine kO ?_; refine zc ?_ ?_ <;> intros))
        refine gnl (i + 1) (by repeat (first | exact trivial | refine ⟨rfl, ?_⟩)) ?_ (by omega) (by omega)
        rw [← addF_step hsl rfl hlt, Int.toNat_natCast]
        simp only [V8.l]
        exact (eb (eb Ent.nil))
      · obtain rfl : i = 8 := by omega
        repeat' (first
         | refine gdraw (id := 11) [0,1,2,3,4,5,6,7,8,9] (by kernel_rfl) (by kernel_rfl) rfl ?_
         | refine gdraw (id := 12) [0,1,2,3,4,5,6,7,8,9,10,12,15,16,19,21,24,25,11,13,14,17,18,20,22,23,26,27,28,29] (by kernel_rfl) (by kernel_rfl) rfl ?_
         | refine gdraw (id := 14) [0,1,2,3,4,5,6,7,8,9,10,11,12,13,14,15,16,17,18,19,20,21,22,23] (by kernel_rfl) (by kernel_rfl) rfl ?_
         | refine gdraw (id := 18) [0,1,3,6,10,11,12,13,14,15,16,17,19,20,21,23,24,25,2,4,5,7,8,9,18,22,26,27] (by kernel_rfl) (by kernel_rfl) rfl ?_
         | (refine zw ?_; intros)
         | (refine z2 ?_ ?_ <;> first | exact zi | intro h | skip)
         | (refine kR ?_; refine zr (_) ?_)
         | (refine kO ?_; refine zc ?_ ?_ <;> intros))
        exact addF_all (v := (rds (schW b 64) (V8.of s) 64).l) hsl rfl
instance c_sha_Round {s : List UInt32} {b : List UInt8} {w0 : World} {X : Nat → Prop} {L : List Assn} [hK : KR w0 X L] [hs : LenIs s 8] [hb : LenIs b 64] : Ctr Tryd.prog 112 [Ag [.blk 8 (RW.all s)], Ag [.blk 64 (RB.all b)]] w0 X L (True) (fun _ : Unit => Ag [.blk 8 (RW.all (rndW s b))]) (fun _ : Unit => L) (fun _ : Unit => True) :=
  ctr' (M' := (fun _ : Unit => [])) (by kernel_rfl) (fun hp w hw => by exact sha_Round _ _ w (hK.get w hw)) (by rintro hp e0 rfl ok; exact ⟨(), rfl, rfl, trivial⟩)
end Go.Proofs.YtalainpmlonahaaDoor
