/-
  slices.Concat of bytes: contracts.
-/
import Derived.Test.YtalainpmlonahaaDoorVlib
import Derived.Test.YtalainpmlonahaaDoorVtypes
import Derived.Test.YtalainpmlonahaaDoorMc
set_option linter.all false
set_option maxRecDepth 100000
set_option maxHeartbeats 4000000
namespace Go.Proofs.YtalainpmlonahaaDoor
open Go.RowKit

instance : EL Tryd.prog 28 1 24 := ⟨by
  obtain ⟨i, h1, h2, h3, h4⟩ := info_parts (show (Tryd.prog.info? 28).map (fun i => (i.zero, i.size, i.bytes)) = some (some (.slice none 0 0), 1, 24) by kernel_rfl)
  exact ⟨i, _, h1, h2, h3, h4, rfl, by decide⟩⟩
instance : ZE Tryd.prog 28 RBs (⟨none, 0⟩, []) := ⟨by kernel_rfl, by kernel_rfl⟩
instance : Inhabited BsG := ⟨(⟨none, 0⟩, [])⟩
instance Rw.bs {w0 : World} {X : Nat → Prop} {L : List Assn} {gs : List BsG} {i : Int} [h : BsR w0 X L gs] [hi : Ix i gs.length] : Rw w0 X L (.slice (ixd gs i).1.A (ixd gs i).2.length (ixd gs i).1.c) RB (ixd gs i).2 := ⟨fun w hw => (h.get w hw _ (ixd_mem hi rfl))⟩
theorem grow_nil (k : Int) (w0 : World)  (hp : 0 ≤ k ∧ k ≤ 140737488351232) :
    Ct Tryd.prog 60 [(.slice none 0 0), .int .i64 k] w0 no (fun ((⟨s0, n0, x0⟩) : Br UInt8) => .slice s0.A n0 s0.c) (fun (⟨s0, n0, x0⟩) => [rw_ 5 RB s0 n0 x0]) (fun (⟨s0, n0, x0⟩) => x0 = (([] : List UInt8))) := by
  have hst := St.start w0
  refine genter _ hst Tryd.func60 rfl rfl rfl rfl ?_
  repeat' (first
   | (refine kO ?_; first | refine gcr rfl rfl rfl rfl (by omega) rfl ?_ | refine gcn rfl rfl rfl rfl rfl ?_)
   | (refine z1 ?_; intros)
   | (refine z2 ?_ ?_ <;> first | exact zi | intro h | skip)
   | (refine kR ?_; refine zr (⟨⟨_, _⟩, _, _⟩) ?_)
   | (refine kO ?_; refine zc ?_ ?_ <;> intros)
   | (refine kD ?_; exact dz))
  all_goals rfl
instance c_grow_nil {k : Int} {w0 : World} {X : Nat → Prop} {L : List Assn}  : Ctr Tryd.prog 60 [(.slice none 0 0), .int .i64 k] w0 X L (0 ≤ k ∧ k ≤ 140737488351232) (fun s0 : Sv => .slice s0.A (([] : List UInt8)).length s0.c) (fun s0 : Sv => rw_ 5 RB s0 (([] : List UInt8)).length (([] : List UInt8)) :: L) (fun s0 : Sv => True) :=
  ctr' (M' := (fun s0 : Sv => [rw_ 5 RB s0 (([] : List UInt8)).length (([] : List UInt8))])) (by kernel_rfl) (fun hp w hw => by exact grow_nil _ w hp) (by rintro hp ⟨s0, n0, x0⟩ rfl ok; cases ok.row; exact ⟨s0, rfl, rfl, trivial⟩)
def catL (xs : List BsG) : List UInt8 := xs.flatMap (·.2)
theorem catL_step {xs : List BsG} {i : Nat} (h : i < xs.length) : catL (xs.take (i + 1)) = catL (xs.take i) ++ (ixd xs (i : Int)).2 := by
  have e : ixd xs (i : Int) = xs[i] := by rw [ixd_eq (by simpa using h)]; simp
  unfold catL
  rw [List.take_succ_eq_append_getElem h, e, List.flatMap_append]; simp
theorem catL_le (xs : List BsG) (i : Nat) : (catL (xs.take i)).length ≤ (catL xs).length := by
  have h : catL xs = catL (xs.take i) ++ catL (xs.drop i) := by unfold catL; rw [← List.flatMap_append, List.take_append_drop]
  rw [h, List.length_append]; omega
theorem concat (xsA : Option Addr) (xsc : Nat) (xs : List BsG) (w0 : World) (hxs : Slr w0 RBs (.slice xsA xs.length xsc) xs) (q_xs : BsP w0 xs) (hp : (catL xs).length ≤ 140737488351232) :
    Ct Tryd.prog 34 [.slice xsA xs.length xsc] w0 no (fun ((⟨s0, n0, x0⟩) : Br UInt8) => .slice s0.A n0 s0.c) (fun (⟨s0, n0, x0⟩) => [rw_ 5 RB s0 n0 x0]) (fun (⟨s0, n0, x0⟩) => x0 = (catL xs)) := by
  have hst := St.start w0
  have i_xs := Rw.old hxs
  have j_xs := BsR.old q_xs
  refine genter _ hst Tryd.func34 rfl rfl rfl rfl ?_
  have hcap := hxs.cap
  repeat' (first
   | (refine z1 ?_; intros)
   | (refine z2 ?_ ?_ <;> first | exact zi | intro h | skip)
   | (refine kR ?_; refine zr (⟨⟨_, _⟩, _, _⟩) ?_)
   | (refine kO ?_; refine zc ?_ ?_ <;> intros))
  refine gloop [0, 9, 10] (fun (i : Nat) K => (3, .int .i64 ((catL (xs.take i)).length : Int)) :: (11, .int .i64 i) :: K) (fun i => []) (fun i => i ≤ xs.length) (fun i => xs.length - i) 0 rfl (by repeat (first | exact trivial | refine ⟨rfl, ?_⟩)) Ent.nil (by omega) (fun i hi => ?_)
  have hle := catL_le xs i
  by_cases hlt : i < xs.length
  · have hs := congrArg List.length (catL_step hlt)
    have hle2 := catL_le xs (i + 1)
    rw [List.length_append] at hs
    repeat' (first
     | (refine z1 ?_; intros)
     | (refine z2 ?_ ?_ <;> first | exact zi | intro h | skip)
     | (refine kR ?_; refine zr (⟨⟨_, _⟩, _, _⟩) ?_)
     | (refine kO ?_; refine zc ?_ ?_ <;> intros))
    refine gnl (i + 1) (by rw [hs, Int.natCast_add]; exact (by repeat (first | exact trivial | refine ⟨rfl, ?_⟩))) Ent.nil (by omega) (by omega)
  · obtain rfl : i = xs.length := by omega
    repeat' (first
     | (refine z1 ?_; intros)
     | (refine z2 ?_ ?_ <;> first | exact zi | intro h | skip)
     | (refine kR ?_; refine zr (⟨⟨_, _⟩, _, _⟩) ?_)
     | (refine kO ?_; refine zc ?_ ?_ <;> intros))
    rename_i s0 _
    refine gloop2 [25, 26] (fun (i : Nat) (s : Sv) K => (6, .slice s.A (catL (xs.take i)).length s.c) :: (27, .int .i64 i) :: K) (fun i s => [rw_ 5 RB s (catL (xs.take i)).length (catL (xs.take i))]) (fun i s => i ≤ xs.length) (fun i s => xs.length - i) 0 s0 rfl (by repeat (first | exact trivial | refine ⟨rfl, ?_⟩)) (by rw [show catL (xs.take 0) = [] from rfl]; exact er Ent.nil) (by omega) (fun i s hi => ?_)
    have hle := catL_le xs i
    by_cases hlt : i < xs.length
    · have hs := congrArg List.length (catL_step hlt)
      have hle2 := catL_le xs (i + 1)
      rw [List.length_append] at hs
      repeat' (first
       | (refine z1 ?_; intros)
       | (refine z2 ?_ ?_ <;> first | exact zi | intro h | skip)
       | (refine kR ?_; refine zr (⟨⟨_, _⟩, _, _⟩) ?_)
       | (refine kO ?_; refine zc ?_ ?_ <;> intros))
      rename_i s'
      refine gnl2 (i + 1) s' (by rw [hs]; exact (by repeat (first | exact trivial | refine ⟨rfl, ?_⟩))) ?_ (by omega) (by omega)
      rw [hs, catL_step hlt]; exact er Ent.nil
    · obtain rfl : i = xs.length := by omega
      repeat' (first
       | (refine z1 ?_; intros)
       | (refine z2 ?_ ?_ <;> first | exact zi | intro h | skip)
       | (refine kR ?_; refine zr (⟨⟨_, _⟩, _, _⟩) ?_)
       | (refine kO ?_; refine zc ?_ ?_ <;> intros))
      rw [List.take_length]
instance c_concat {xsA : Option Addr} {xsc xsn : Nat} {xs : List BsG} {w0 : World} {X : Nat → Prop} {L : List Assn} [hxs : Rw w0 X L (.slice xsA xsn xsc) RBs xs] [q_xs : BsR w0 X L xs] : Ctr Tryd.prog 34 [.slice xsA xsn xsc] w0 X L ((catL xs).length ≤ 140737488351232) (fun s0 : Sv => .slice s0.A (catL xs).length s0.c) (fun s0 : Sv => rw_ 5 RB s0 (catL xs).length (catL xs) :: L) (fun s0 : Sv => True) :=
  ctr' (M' := (fun s0 : Sv => [rw_ 5 RB s0 (catL xs).length (catL xs)])) (by kernel_rfl) (fun hp w hw => by have exs := hxs.len hw; subst exs; exact concat _ _ _ w (hxs.get w hw) (q_xs.get w hw) hp) (by rintro hp ⟨s0, n0, x0⟩ rfl ok; cases ok.row; exact ⟨s0, rfl, rfl, trivial⟩)
end Go.Proofs.YtalainpmlonahaaDoor
