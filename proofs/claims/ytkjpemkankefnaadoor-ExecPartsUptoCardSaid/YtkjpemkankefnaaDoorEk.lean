/-
  Signatures: lamp.Check, moneyerref13.Check; hashes of cells.
-/
import Derived.Test.YtkjpemkankefnaaDoorEi
set_option linter.all false
set_option maxRecDepth 100000
set_option maxHeartbeats 4000000
namespace Go.Proofs.YtkjpemkankefnaaDoor
open Go.RowKit

section
variable {P : Program} {n : Nat} {w0 : World} {X : Nat → Prop} {Q : Cont} {E : Env} {L L' : List Assn} {s : Ms} {ops : Array Oper} {rest : List Oper} {v : Value}
variable {d : Nat} {ty : TypeId} {pos : String} {aft : Array Edge} {op : Op} {G : Type} {R : Rep G} {gs : List G}
/-- all of an array: as long as what it holds -/
theorem gcal {x : Operand} {t e : TypeId} {g o k sz : Nat} {l : List UInt8} (hx : eev E x = some (.pointer (some ⟨g, o, none⟩))) (ht : P.underlying t = some (.array k e)) (hz : szB P e = some sz) [hR : Rw w0 X L (.slice (some ⟨g, o, none⟩) k k) RB l] (hd : Nat.blt d n = true)
    (kk : GO P n w0 X (nextM s) ops rest Q ((d, .slice (some ⟨g, o, none⟩) l.length k) :: E) L) : GO P n w0 X s ops (⟨some d, .slice t x none none none, ty, pos, aft, none⟩ :: rest) Q E L :=
  go_with fun w hw => by
    have e := hR.len hw
    exact go_yld rfl (fun _ _ => by rw [e]; exact y_arr_all hx ht hz) hd kk
instance Rw.boxl {g o k : Nat} {l : List UInt8} [hR : Rw w0 X L (.slice (some ⟨g, o, none⟩) k k) RB l] : Rw w0 X L (.slice (some ⟨g, o, none⟩) l.length k) RB l := ⟨fun w hw => by
  have e := hR.len hw
  rw [e]; exact hR.get w hw⟩
instance (priority := low) elmA {A : Option Addr} {c : Nat} {l : List UInt8} : Elm RBs (.slice A l.length c) (⟨A, c⟩, l) := ⟨rfl⟩
/-- an array of two -/
theorem gbar2 {t e : TypeId} {x y : Operand} {u v : Value} {zs : List Cs} (hs : P.underlying t = some (.array 2 e)) [hz : ZS P t zs] (hz2 : szB P e = some 1) (hl : lenS zs = 2) (hx : eev E x = some u) (hy : eev E y = some v) [hu : Sg u [.one u]] [hv : Sg v [.one v]] (hd : Nat.blt d n = true)
    (kk : GO P n w0 X (nextM s) ops rest Q ((d, Ag [.one u, .one v]) :: E) L) : GO P n w0 X s ops (⟨some d, .build t #[(0, x), (1, y)], ty, pos, aft, none⟩ :: rest) Q E L := by
  refine go_yld rfl (fun _ _ => ⟨fun a w ha => ?_⟩) hd kk
  obtain ⟨zv, hzv, hzc⟩ := Option.map_eq_some_iff.1 hz.h
  have hzl : zv.cells.toList.length = 2 := by rw [hzc, flat_len hz.ok, hl]
  have hu1 := hu.h.1
  have hv1 := hv.h.1
  simp only [flat, Cs.cells, List.append_nil] at hu1 hv1
  have hu2 : u.cells = #[u] := by apply Array.ext'; simpa using hu1
  have hv2 : v.cells = #[v] := by apply Array.ext'; simpa using hv1
  obtain ⟨p, q, hpq⟩ : ∃ p q, zv.cells = #[p, q] := by
    match h : zv.cells.toList, hzl with
    | [p, q], _ => exact ⟨p, q, by apply Array.ext'; simpa using h⟩
  simp [execOp, Instr.build, Sem.run_bind, run_zeroValue hzv, run_underlying hs, run_sizeOf hz2, ha.ev hx, ha.ev hy, hu2, hv2, hpq, Instr.fill, flat, Cs.cells]
/-- an element of an array, at a place that is known -/
theorem lvx {g o m sz : Nat} {i : Int} {t tt : TypeId} {cs : List Cs} {u : Value} [h : FBox L g tt cs] (ha : aggB P t = some false) (hu : at1 cs (o + i.toNat * sz) = some u) : Lv P w0 X L t (ela g o m sz i) u := fun w hw => by
  obtain ⟨ok, hc⟩ := box_cells h hw
  rw [ela_eq]
  exact run_loadVar_one ha ((hc _).trans (at1_ok ok hu))
end
/-! bits -/
def bitZ (d : List UInt8) (k : Int) : Int := ((ixd d (k % 32 / 8)).toNat : Int) / 2 ^ (k % 8).toNat % 2
theorem bitZ_01 (d : List UInt8) (k : Int) : bitZ d k = 0 ∨ bitZ d k = 1 := by unfold bitZ; omega
theorem and1F : ∀ z : Fin 256, bits BinOp.and .u8 (z.val : Int) 1 = (z.val : Int) % 2 := by decide +kernel
theorem and1 {z : Int} (h : 0 ≤ z ∧ z ≤ 255) : bits BinOp.and .u8 z 1 = z % 2 := by
  obtain ⟨k, rfl⟩ := Int.eq_ofNat_of_zero_le h.1
  exact and1F ⟨k, by omega⟩
theorem shB (c : Int) (j : Nat) (h : 0 ≤ c ∧ c ≤ 255) : 0 ≤ c / 2 ^ j ∧ c / 2 ^ j ≤ 255 :=
  ⟨Int.ediv_nonneg h.1 (Int.pow_nonneg (by omega)), Int.le_trans (Int.ediv_le_self _ h.1) h.2⟩
theorem sh_succ (c : Int) (j : Nat) : c / 2 ^ j / 2 = c / 2 ^ (j + 1) := by
  rw [Int.pow_succ, Int.ediv_ediv_of_nonneg (Int.pow_nonneg (by omega))]
theorem lamp_Bit (d : List UInt8) [hd : LenIs d 32] (k : Int) (w0 : World)  (hp : 0 ≤ k ∧ k ≤ 255) :
    Ct Tryd.prog 86 [Ag [.blk 32 (RB.all d)], .int .u8 k] w0 no (fun ((e0) : Int) => .int .u8 e0) (fun (e0) => []) (fun (e0) => e0 = bitZ d k) := by
  have hst := St.start w0
  refine genter _ hst Tryd.func86 rfl rfl rfl rfl ?_
  repeat' (first
   | (refine kO ?_; first | refine gwd rfl rfl rfl ?_ rfl ?_ | refine gwn rfl ?_ rfl ?_ | refine gws rfl rfl ?_ (by omega) rfl ?_ | refine gwr rfl rfl ?_ (by omega) rfl ?_ | refine gwc rfl rfl rfl ?_ rfl ?_ | refine gneg rfl (by (try simp only [InR]); omega) rfl ?_ | refine gindex rfl rfl rfl rfl rfl (by omega) rfl rfl (fun _ => ?_) | refine gcb2 rfl rfl rfl rfl rfl (by omega) rfl (fun _ => ?_) | refine gcb rfl rfl rfl rfl (by omega) rfl (fun _ => ?_) | refine gcopyb rfl rfl rfl rfl rfl rfl (by omega) rfl (fun _ => ?_) (fun _ => ?_) | refine gv rfl rfl ?_ | refine gnil ?_ | refine gl rfl (lvb rfl rfl) rfl (fun _ => ?_) | refine gl rfl (lvB rfl rfl rfl) rfl (fun _ => ?_) | refine gl rfl (lve rfl rfl) rfl (fun _ => ?_) | refine gl rfl (lvE rfl rfl rfl) rfl (fun _ => ?_) | refine gl rfl (lva rfl rfl rfl rfl rfl) rfl (fun _ => ?_) | refine gl rfl (lvn rfl rfl rfl (by omega)) rfl (fun _ => ?_) | refine gl rfl (lvK rfl) rfl (fun _ => ?_) | refine gp rfl (by (try simp only [InR]); omega) rfl ?_ | refine gsh rfl (by (try simp only [InR]); omega) rfl ?_ | refine gsv rfl (by (try simp only [InR, InSh]); omega) rfl ?_ | refine gix rfl rfl rfl rfl (by omega) rfl (fun _ => ?_) | refine gixa rfl rfl rfl rfl (by omega) rfl (fun _ => ?_) | refine gx rfl rfl (fun _ => ?_) (fun _ => ?_) | refine gss rfl (by (try simp only [InR, InSh]); omega) rfl ?_)
   | (refine kC ?_; first | refine gseq ?_ | refine greg ?_ | refine gret ?_ | refine gskip ?_)
   | (refine kN ?_; first | refine gthen ?_)
   | (refine kR ?_; first | refine grs ?_ | refine grc ?_)
   | (refine kR ?_; refine gr rfl (rvT rfl rv0) (_) rfl Ent.nil ?_)
   | (refine Pre.mk ?_; first | exact True.intro | omega | ((repeat' (first | refine And.intro ?_ ?_ | exact True.intro | assumption | omega)); done) | (simp only [and_true, true_and, or_true, true_or]; first | done | omega))
   | (refine kD ?_; first | exact dm_none))
  rename_i h1
  rw [and1 (shB _ _ h1), show k % 32 % 8 = k % 8 by omega]; rfl
instance c_lamp_Bit {d : List UInt8} {k : Int} {w0 : World} {X : Nat → Prop} {L : List Assn} [hd : LenIs d 32] : Ctr Tryd.prog 86 [Ag [.blk 32 (RB.all d)], .int .u8 k] w0 X L (0 ≤ k ∧ k ≤ 255) (fun _ : Unit => .int .u8 (bitZ d k)) (fun _ : Unit => L) (fun _ : Unit => (bitZ d k = 0 ∨ bitZ d k = 1)) :=
  ctr' (M' := (fun _ : Unit => [])) (by kernel_rfl) (fun hp w hw => by exact lamp_Bit _ _ w hp) (by rintro hp e0 rfl ok; exact ⟨(), rfl, rfl, bitZ_01 d k⟩)
theorem ref13_Bit (d : List UInt8) [hd : LenIs d 32] (k : Int) (w0 : World)  (hp : 0 ≤ k ∧ k ≤ 255) :
    Ct Tryd.prog 97 [Ag [.blk 32 (RB.all d)], .int .u8 k] w0 no (fun ((e0) : Int) => .int .u8 e0) (fun (e0) => []) (fun (e0) => e0 = bitZ d k) := by
  have hst := St.start w0
  refine genter _ hst Tryd.func97 rfl rfl rfl rfl ?_
  repeat' (first
   | (refine kO ?_; first | refine gwd rfl rfl rfl ?_ rfl ?_ | refine gwn rfl ?_ rfl ?_ | refine gws rfl rfl ?_ (by omega) rfl ?_ | refine gwr rfl rfl ?_ (by omega) rfl ?_ | refine gwc rfl rfl rfl ?_ rfl ?_ | refine gneg rfl (by (try simp only [InR]); omega) rfl ?_ | refine gindex rfl rfl rfl rfl rfl (by omega) rfl rfl (fun _ => ?_) | refine gcb2 rfl rfl rfl rfl rfl (by omega) rfl (fun _ => ?_) | refine gcb rfl rfl rfl rfl (by omega) rfl (fun _ => ?_) | refine gcopyb rfl rfl rfl rfl rfl rfl (by omega) rfl (fun _ => ?_) (fun _ => ?_) | refine gv rfl rfl ?_ | refine gnil ?_ | refine gl rfl (lvb rfl rfl) rfl (fun _ => ?_) | refine gl rfl (lvB rfl rfl rfl) rfl (fun _ => ?_) | refine gl rfl (lve rfl rfl) rfl (fun _ => ?_) | refine gl rfl (lvE rfl rfl rfl) rfl (fun _ => ?_) | refine gl rfl (lva rfl rfl rfl rfl rfl) rfl (fun _ => ?_) | refine gl rfl (lvn rfl rfl rfl (by omega)) rfl (fun _ => ?_) | refine gl rfl (lvK rfl) rfl (fun _ => ?_) | refine gp rfl (by (try simp only [InR]); omega) rfl ?_ | refine gix rfl rfl rfl rfl (by omega) rfl (fun _ => ?_) | refine gixa rfl rfl rfl rfl (by omega) rfl (fun _ => ?_) | refine gx rfl rfl (fun _ => ?_) (fun _ => ?_) | refine gw rfl rfl ?_)
   | (refine kC ?_; first | refine gseq ?_ | refine greg ?_ | refine gret ?_ | refine gskip ?_ | (refine gcond rfl (fun h => ?_) (fun h => ?_) <;> (first | exact h.elim | (exfalso; omega) | exact absurd h (by assumption) | exact absurd (by assumption) h | skip)) | refine gblk ?_ | refine gexit ?_)
   | (refine kN ?_; first | refine gthen ?_ | refine gnblk ?_)
   | (refine kR ?_; first | refine grs ?_ | refine grb ?_ | refine grl ?_ | refine grc ?_)
   | (refine kX ?_; first | refine gxs ?_ | refine gxb ?_ | refine gxn rfl ?_ | refine gxl ?_ | refine gxc ?_)
   | (refine kR ?_; refine gr rfl (rvT rfl rv0) (_) rfl Ent.nil ?_)
   | (refine Pre.mk ?_; first | exact True.intro | omega | ((repeat' (first | refine And.intro ?_ ?_ | exact True.intro | assumption | omega)); done) | (simp only [and_true, true_and, or_true, true_or]; first | done | omega))
   | (refine kD ?_; first | exact dm_none))
  rename_i hc
  refine gloop2 [1] (fun (i : Nat) (z : Int) K => (5, .int .u8 z) :: (6, .int .u8 i) :: K) (fun i z => []) (fun i z => (i : Int) ≤ k % 8 ∧ z = ((ixd d (k % 32 / 8)).toNat : Int) / 2 ^ i) (fun i z => 8 - i) 0 _ rfl (by repeat (first | exact trivial | refine ⟨rfl, ?_⟩)) Ent.nil ⟨by omega, by simp⟩ (fun i z hi => ?_)
  obtain ⟨hi, hz⟩ := hi
  have hs := shB _ i hc
  have hss := sh_succ ((ixd d (k % 32 / 8)).toNat : Int) i
  rw [← hz] at hs hss
  repeat' (first
   | (refine kO ?_; first | refine gwd rfl rfl rfl ?_ rfl ?_ | refine gwn rfl ?_ rfl ?_ | refine gws rfl rfl ?_ (by omega) rfl ?_ | refine gwr rfl rfl ?_ (by omega) rfl ?_ | refine gwc rfl rfl rfl ?_ rfl ?_ | refine gneg rfl (by (try simp only [InR]); omega) rfl ?_ | refine gindex rfl rfl rfl rfl rfl (by omega) rfl rfl (fun _ => ?_) | refine gcb2 rfl rfl rfl rfl rfl (by omega) rfl (fun _ => ?_) | refine gcb rfl rfl rfl rfl (by omega) rfl (fun _ => ?_) | refine gcopyb rfl rfl rfl rfl rfl rfl (by omega) rfl (fun _ => ?_) (fun _ => ?_) | refine gv rfl rfl ?_ | refine gnil ?_ | refine gl rfl (lvb rfl rfl) rfl (fun _ => ?_) | refine gl rfl (lvB rfl rfl rfl) rfl (fun _ => ?_) | refine gl rfl (lve rfl rfl) rfl (fun _ => ?_) | refine gl rfl (lvE rfl rfl rfl) rfl (fun _ => ?_) | refine gl rfl (lva rfl rfl rfl rfl rfl) rfl (fun _ => ?_) | refine gl rfl (lvn rfl rfl rfl (by omega)) rfl (fun _ => ?_) | refine gl rfl (lvK rfl) rfl (fun _ => ?_) | refine gp rfl (by (try simp only [InR]); omega) rfl ?_ | refine gix rfl rfl rfl rfl (by omega) rfl (fun _ => ?_) | refine gixa rfl rfl rfl rfl (by omega) rfl (fun _ => ?_) | refine gx rfl rfl (fun _ => ?_) (fun _ => ?_) | refine gw rfl rfl ?_)
   | (refine kC ?_; first | refine gseq ?_ | refine greg ?_ | refine gret ?_ | refine gskip ?_ | (refine gcond rfl (fun h => ?_) (fun h => ?_) <;> (first | exact h.elim | (exfalso; omega) | exact absurd h (by assumption) | exact absurd (by assumption) h | skip)) | refine gblk ?_ | refine gexit ?_)
   | (refine kN ?_; first | refine gthen ?_ | refine gnblk ?_)
   | (refine kR ?_; first | refine grs ?_ | refine grb ?_ | refine grl ?_ | refine grc ?_)
   | (refine kX ?_; first | refine gxs ?_ | refine gxb ?_ | refine gxn rfl ?_ | refine gxl ?_ | refine gxc ?_)
   | (refine kR ?_; refine gr rfl (rvT rfl rv0) (_) rfl Ent.nil ?_)
   | (refine Pre.mk ?_; first | exact True.intro | omega | ((repeat' (first | refine And.intro ?_ ?_ | exact True.intro | assumption | omega)); done) | (simp only [and_true, true_and, or_true, true_or]; first | done | omega))
   | (refine kD ?_; first | exact dm_none))
  · exact gnl2 (i + 1) (z / 2) (by repeat (first | exact trivial | refine ⟨rfl, ?_⟩)) Ent.nil ⟨by omega, hss⟩ (by omega)
  · have e : (k % 8).toNat = i := by omega
    show z % 2 = _
    unfold bitZ; rw [hz, e]
instance c_ref13_Bit {d : List UInt8} {k : Int} {w0 : World} {X : Nat → Prop} {L : List Assn} [hd : LenIs d 32] : Ctr Tryd.prog 97 [Ag [.blk 32 (RB.all d)], .int .u8 k] w0 X L (0 ≤ k ∧ k ≤ 255) (fun _ : Unit => .int .u8 (bitZ d k)) (fun _ : Unit => L) (fun _ : Unit => (bitZ d k = 0 ∨ bitZ d k = 1)) :=
  ctr' (M' := (fun _ : Unit => [])) (by kernel_rfl) (fun hp w hw => by exact ref13_Bit _ _ w hp) (by rintro hp e0 rfl ok; exact ⟨(), rfl, rfl, bitZ_01 d k⟩)
/-! signatures -/
def lampP (d sig : List UInt8) (k : Nat) : List UInt8 :=
  if bitZ d k = 1 then ((sig.drop (64 * k + 32)).take 32) ++ (shaH ((sig.drop (64 * k)).take 32)).l else (shaH ((sig.drop (64 * k)).take 32)).l ++ ((sig.drop (64 * k + 32)).take 32)
def lampA (d sig : List UInt8) (k : Nat) : List UInt8 := (List.range k).flatMap (lampP d sig)
def lampE (key d sig : List UInt8) : Int := if sig.length ≠ 2048 then 5 else if (shaH (lampA d sig 32)).l = key then 0 else 5
theorem lampP_len {d sig : List UInt8} {k : Nat} (h : sig.length = 2048) (hk : k < 32) : (lampP d sig k).length = 64 := by
  have := (shaH ((sig.drop (64 * k)).take 32)).len
  unfold lampP
  split <;> simp [this] <;> omega
theorem lampA_succ {d sig : List UInt8} {k : Nat} : lampA d sig (k + 1) = lampA d sig k ++ lampP d sig k := by
  unfold lampA; rw [List.range_succ, List.flatMap_append]; simp
theorem lampA_len {d sig : List UInt8} (h : sig.length = 2048) : ∀ {k : Nat}, k ≤ 32 → (lampA d sig k).length = 64 * k
  | 0, _ => rfl
  | k + 1, hk => by rw [lampA_succ, List.length_append, lampA_len h (by omega), lampP_len h (by omega)]; omega
theorem lamp_Bit_z {w0 : World} {X : Nat → Prop} {L : List Assn} {d : List UInt8} {k z : Int} [hd : LenIs d 32] (hz : bitZ d k = z) : Ctr Tryd.prog 86 [Ag [.blk 32 (RB.all d)], .int .u8 k] w0 X L (0 ≤ k ∧ k ≤ 255) (fun _ : Unit => .int .u8 z) (fun _ => L) (fun _ => True) :=
  ctr' (M' := fun _ : Unit => []) (by kernel_rfl) (fun hp w hw => lamp_Bit _ _ w hp) (by rintro hp _ rfl ok; exact ⟨(), by rw [hz], rfl, trivial⟩)
theorem ref13_Bit_z {w0 : World} {X : Nat → Prop} {L : List Assn} {d : List UInt8} {k z : Int} [hd : LenIs d 32] (hz : bitZ d k = z) : Ctr Tryd.prog 97 [Ag [.blk 32 (RB.all d)], .int .u8 k] w0 X L (0 ≤ k ∧ k ≤ 255) (fun _ : Unit => .int .u8 z) (fun _ => L) (fun _ => True) :=
  ctr' (M' := fun _ : Unit => []) (by kernel_rfl) (fun hp w hw => ref13_Bit _ _ w hp) (by rintro hp _ rfl ok; exact ⟨(), by rw [hz], rfl, trivial⟩)
instance : ZS Tryd.prog 111 [.one (.slice none 0 0), .one (.slice none 0 0)] := ⟨by kernel_rfl, trivial⟩
theorem cutP {sig : List UInt8} {i : Nat} : List.take (Int.toNat 32) (List.drop (Int.toNat 0) (List.take (64 * ((i : Int) + 1) - 64 * i).toNat (List.drop (64 * (i : Int)).toNat sig))) = (sig.drop (64 * i)).take 32 := by
  have e1 : (64 * ((i : Int) + 1) - 64 * i).toNat = 64 := by omega
  have e2 : (64 * (i : Int)).toNat = 64 * i := by omega
  rw [e1, e2]
  simp [List.take_take]
theorem cutQ {sig : List UInt8} {i : Nat} : List.take ((64 * ((i : Int) + 1) - 64 * i).toNat - Int.toNat 32) (List.drop (Int.toNat 32) (List.take (64 * ((i : Int) + 1) - 64 * i).toNat (List.drop (64 * (i : Int)).toNat sig))) = (sig.drop (64 * i + 32)).take 32 := by
  have e1 : (64 * ((i : Int) + 1) - 64 * i).toNat = 64 := by omega
  have e2 : (64 * (i : Int)).toNat = 64 * i := by omega
  rw [e1, e2]
  simp [List.take_take, List.drop_take, List.drop_drop]
theorem lamp_Check (key : List UInt8) [hkey : LenIs key 32] (d : List UInt8) [hd : LenIs d 32] (sigA : Option Addr) (sigc : Nat) (sig : List UInt8) (w0 : World) (hK : KOk w0) (hsig : Slr w0 RB (.slice sigA sig.length sigc) sig)  :
    Ct Tryd.prog 69 [Ag [.blk 32 (RB.all key)], Ag [.blk 32 (RB.all d)], .slice sigA sig.length sigc] w0 no (fun ((e0) : Int) => .int .i64 e0) (fun (e0) => []) (fun (e0) => e0 = lampE key d sig) := by
  have hst := St.start w0
  have j_hK := KR.old hK
  have i_sig := Rw.old hsig
  refine genter _ hst Tryd.func69 rfl rfl rfl rfl ?_
  repeat' (first
   | (refine kO ?_; first | refine gwd rfl rfl rfl ?_ rfl ?_ | refine gwn rfl ?_ rfl ?_ | refine gws rfl rfl ?_ (by omega) rfl ?_ | refine gwr rfl rfl ?_ (by omega) rfl ?_ | refine gwc rfl rfl rfl ?_ rfl ?_ | refine gneg rfl (by (try simp only [InR]); omega) rfl ?_ | refine gindex rfl rfl rfl rfl rfl (by omega) rfl rfl (fun _ => ?_) | refine gcb2 rfl rfl rfl rfl rfl (by omega) rfl (fun _ => ?_) | refine gcb rfl rfl rfl rfl (by omega) rfl (fun _ => ?_) | refine gcopyb rfl rfl rfl rfl rfl rfl (by omega) rfl (fun _ => ?_) (fun _ => ?_) | refine gv rfl rfl ?_ | refine gnil ?_ | refine gnilD ?_ | refine gl rfl (lvb rfl rfl) rfl (fun _ => ?_) | refine gl rfl (lvB rfl rfl rfl) rfl (fun _ => ?_) | refine gl rfl (lve rfl rfl) rfl (fun _ => ?_) | refine gl rfl (lvE rfl rfl rfl) rfl (fun _ => ?_) | refine gl rfl (lva rfl rfl rfl rfl rfl) rfl (fun _ => ?_) | refine gl rfl (lvn rfl rfl rfl (by omega)) rfl (fun _ => ?_) | refine gl rfl (lvK rfl) rfl (fun _ => ?_) | refine gp rfl (by (try simp only [InR]); omega) rfl ?_ | refine gix rfl rfl rfl rfl (by omega) rfl (fun _ => ?_) | refine gixa rfl rfl rfl rfl (by omega) rfl (fun _ => ?_) | refine gc3 rfl rfl rfl rfl rfl rfl (by omega) rfl (fun _ => ?_) | refine gc2 rfl rfl rfl rfl rfl (by omega) rfl (fun _ => ?_) | refine gch rfl rfl rfl rfl (by omega) rfl (fun _ => ?_) | refine gcl rfl rfl rfl rfl (by omega) rfl (fun _ => ?_) | refine gca rfl rfl rfl rfl ?_ | refine gchm rfl rfl rfl rfl rfl (by omega) rfl (fun _ => ?_) | (refine kK ?_; first | refine gcall rfl ?_ rfl (fun _ _ => ?_) (fun _ _ => ?_) | refine gcv rfl rfl ?_ rfl (fun _ _ => ?_) (fun _ _ => ?_) | refine gcc1 rfl rfl ?_ rfl (fun _ _ => ?_) (fun _ _ => ?_)) | refine gneq rfl rfl (by kernel_rfl) ?_ rfl ?_ | refine gbu rfl rfl rfl rfl rfl ?_ | refine gx rfl rfl (fun _ => ?_) (fun _ => ?_) | refine ga rfl (fun _ => ?_) (fun _ => ?_) | refine gst rfl rfl rfl rfl ?_ ?_ | refine ge rfl rfl rfl rfl ?_ ?_ | refine gea rfl rfl rfl rfl rfl rfl rfl ?_ ?_ | refine gap rfl rfl rfl (by omega) rfl (fun _ => ?_) (fun _ => ?_) | refine gan rfl rfl rfl (by omega) rfl (fun _ => ?_) (fun _ => ?_) | refine gapz rfl rfl rfl rfl (by omega) rfl (fun _ => ?_) (fun _ => ?_) | refine ganz rfl rfl rfl rfl (by omega) rfl (fun _ => ?_) (fun _ => ?_) | refine gb rfl rfl rfl rfl ?_ | refine gw rfl rfl ?_)
   | (refine kC ?_; first | refine gseq ?_ | refine greg ?_ | refine gret ?_ | refine gskip ?_ | refine gdraw (id := 9) [0,1,2,3,4,5] (by kernel_rfl) (by kernel_rfl) rfl ?_ | refine gdraw (id := 11) [0,1,2,3,5,6,7,8,4,9,10] (by kernel_rfl) (by kernel_rfl) rfl ?_ | refine gdraw (id := 13) [0,2,1,3] (by kernel_rfl) (by kernel_rfl) rfl ?_ | (refine gcond rfl (fun h => ?_) (fun h => ?_) <;> (first | exact h.elim | (exfalso; omega) | exact absurd h (by assumption) | exact absurd (by assumption) h | skip)) | refine gblk ?_ | refine gexit ?_)
   | (refine kN ?_; first | refine gthen ?_ | refine gnblk ?_)
   | (refine kR ?_; first | refine grs ?_ | refine grb ?_ | refine grl ?_ | refine grc ?_)
   | (refine kX ?_; first | refine gxs ?_ | refine gxb ?_ | refine gxn rfl ?_ | refine gxl ?_ | refine gxc ?_)
   | (refine kR ?_; refine gr rfl (rvT rfl rv0) (_) rfl Ent.nil ?_)
   | (refine Pre.mk ?_; first | exact True.intro | omega | ((repeat' (first | refine And.intro ?_ ?_ | exact True.intro | assumption | omega)); done) | (simp only [and_true, true_and, or_true, true_or]; first | done | omega))
   | (refine kD ?_; first | exact dm_none | exact dm0 | refine dmOff rfl ?_ | refine dmOn (lvb rfl rfl) ?_ | refine dmOn (lvB rfl rfl rfl) ?_ | refine dmOn (lve rfl rfl) ?_ | refine dmOn (lvE rfl rfl rfl) ?_ | refine dmOn (lva rfl rfl rfl rfl rfl) ?_ | refine dmOn (lvn rfl rfl rfl (by omega)) ?_ | refine dmOn (lvK rfl) ?_))
  · unfold lampE; rw [if_pos (by omega)]
  rename_i gk gd
  refine gloop2 [2, 3, 4] (fun (i : Nat) (s : Sv) K => (7, .slice s.A (64 * i) s.c) :: (16, .int .i64 i) :: K) (fun i s => [rw_ 5 RB s (64 * i) (lampA d sig i), boxA gd 25 [.blk 32 (RB.all d)], boxA gk 25 [.blk 32 (RB.all key)]]) (fun i s => i ≤ 32) (fun i s => 32 - i) 0 ⟨none, 0⟩ rfl (by repeat (first | exact trivial | refine ⟨rfl, ?_⟩)) (er0 (eb (eb Ent.nil))) (by omega) (fun i s hi => ?_)
  have hl : sig.length = 2048 := by omega
  have hla := lampA_len (d := d) hl hi
  have hs1 := lampA_succ (d := d) (sig := sig) (k := i)
  rcases bitZ_01 d i with hb | hb
  · have i_bit : ∀ {w0 : World} {X : Nat → Prop} {L : List Assn}, Ctr Tryd.prog 86 [Ag [.blk 32 (RB.all d)], .int .u8 (i : Int)] w0 X L _ _ _ _ := lamp_Bit_z hb
    repeat' (first
     | (refine kO ?_; first | refine gbar2 rfl rfl rfl rfl rfl rfl ?_ | refine gwd rfl rfl rfl ?_ rfl ?_ | refine gwn rfl ?_ rfl ?_ | refine gws rfl rfl ?_ (by omega) rfl ?_ | refine gwr rfl rfl ?_ (by omega) rfl ?_ | refine gwc rfl rfl rfl ?_ rfl ?_ | refine gneg rfl (by (try simp only [InR]); omega) rfl ?_ | refine gindex rfl rfl rfl rfl rfl (by omega) rfl rfl (fun _ => ?_) | refine gcb2 rfl rfl rfl rfl rfl (by omega) rfl (fun _ => ?_) | refine gcb rfl rfl rfl rfl (by omega) rfl (fun _ => ?_) | refine gcopyb rfl rfl rfl rfl rfl rfl (by omega) rfl (fun _ => ?_) (fun _ => ?_) | refine gv rfl rfl ?_ | refine gnil ?_ | refine gnilD ?_ | refine gl rfl (lvb rfl rfl) rfl (fun _ => ?_) | refine gl rfl (lvB rfl rfl rfl) rfl (fun _ => ?_) | refine gl rfl (lve rfl rfl) rfl (fun _ => ?_) | refine gl rfl (lvE rfl rfl rfl) rfl (fun _ => ?_) | refine gl rfl (lva rfl rfl rfl rfl rfl) rfl (fun _ => ?_) | refine gl rfl (lvx rfl rfl) rfl (fun _ => ?_) | refine gl rfl (lvn rfl rfl rfl (by omega)) rfl (fun _ => ?_) | refine gl rfl (lvK rfl) rfl (fun _ => ?_) | refine gp rfl (by (try simp only [InR]); omega) rfl ?_ | refine gix rfl rfl rfl rfl (by omega) rfl (fun _ => ?_) | refine gixa rfl rfl rfl rfl (by omega) rfl (fun _ => ?_) | refine gc3 rfl rfl rfl rfl rfl rfl (by omega) rfl (fun _ => ?_) | refine gc2 rfl rfl rfl rfl rfl (by omega) rfl (fun _ => ?_) | refine gch rfl rfl rfl rfl (by omega) rfl (fun _ => ?_) | refine gcl rfl rfl rfl rfl (by omega) rfl (fun _ => ?_) | refine gca rfl rfl rfl rfl ?_ | refine gchm rfl rfl rfl rfl rfl (by omega) rfl (fun _ => ?_) | (refine kK ?_; first | refine gcall rfl ?_ rfl (fun _ _ => ?_) (fun _ _ => ?_) | refine gcv rfl rfl ?_ rfl (fun _ _ => ?_) (fun _ _ => ?_) | refine gcc1 rfl rfl ?_ rfl (fun _ _ => ?_) (fun _ _ => ?_)) | refine gneq rfl rfl (by kernel_rfl) ?_ rfl ?_ | refine gbu rfl rfl rfl rfl rfl ?_ | refine gx rfl rfl (fun _ => ?_) (fun _ => ?_) | refine ga rfl (fun _ => ?_) (fun _ => ?_) | refine gst rfl rfl rfl rfl ?_ ?_ | refine ge rfl rfl rfl rfl ?_ ?_ | refine gea rfl rfl rfl rfl rfl rfl rfl ?_ ?_ | refine gap rfl rfl rfl (by omega) rfl (fun _ => ?_) (fun _ => ?_) | refine gan rfl rfl rfl (by omega) rfl (fun _ => ?_) (fun _ => ?_) | refine gapz rfl rfl rfl rfl (by omega) rfl (fun _ => ?_) (fun _ => ?_) | refine ganz rfl rfl rfl rfl (by omega) rfl (fun _ => ?_) (fun _ => ?_) | refine gb rfl rfl rfl rfl ?_ | refine gw rfl rfl ?_)
     | (refine kC ?_; first | refine gseq ?_ | refine greg ?_ | refine gret ?_ | refine gskip ?_ | refine gdraw (id := 9) [0,1,2,3,4,5] (by kernel_rfl) (by kernel_rfl) rfl ?_ | refine gdraw (id := 11) [0,1,2,3,5,6,7,8,4,9,10] (by kernel_rfl) (by kernel_rfl) rfl ?_ | refine gdraw (id := 13) [0,2,1,3] (by kernel_rfl) (by kernel_rfl) rfl ?_ | (refine gcond rfl (fun h => ?_) (fun h => ?_) <;> (first | exact h.elim | (exfalso; omega) | exact absurd h (by assumption) | exact absurd (by assumption) h | skip)) | refine gblk ?_ | refine gexit ?_)
     | (refine kN ?_; first | refine gthen ?_ | refine gnblk ?_)
     | (refine kR ?_; first | refine grs ?_ | refine grb ?_ | refine grl ?_ | refine grc ?_)
     | (refine kX ?_; first | refine gxs ?_ | refine gxb ?_ | refine gxn rfl ?_ | refine gxl ?_ | refine gxc ?_)
     | (refine kR ?_; refine gr rfl (rvT rfl rv0) (_) rfl Ent.nil ?_)
     | exact Pre.mk (by rw [cutP]; simp only [List.length_take, List.length_drop]; omega)
     | exact Pre.mk (by rw [hla]; omega)
     | (refine Pre.mk ?_; first | exact True.intro | omega | ((repeat' (first | refine And.intro ?_ ?_ | exact True.intro | assumption | omega)); done) | (simp only [and_true, true_and, or_true, true_or]; first | done | omega))
     | (refine kD ?_; first | exact dm_none | exact dm0 | refine dmOff rfl ?_ | refine dmOn (lvb rfl rfl) ?_ | refine dmOn (lvB rfl rfl rfl) ?_ | refine dmOn (lve rfl rfl) ?_ | refine dmOn (lvE rfl rfl rfl) ?_ | refine dmOn (lva rfl rfl rfl rfl rfl) ?_ | refine dmOn (lvx rfl rfl) ?_ | refine dmOn (lvn rfl rfl rfl (by omega)) ?_ | refine dmOn (lvK rfl) ?_))
    · rename_i s'
      have e1 : 64 * i + 32 + ((64 * ((i : Int) + 1) - 64 * i).toNat - Int.toNat 32) = 64 * (i + 1) := by omega
      have e2 : lampA d sig i ++ (shaH ((sig.drop (64 * i)).take 32)).l ++ (sig.drop (64 * i + 32)).take 32 = lampA d sig (i + 1) := by
        rw [hs1, lampP, if_neg (by omega), List.append_assoc]
      rw [cutP, cutQ, e1, e2]
      exact gnl2 (i + 1) s' (by repeat (first | exact trivial | refine ⟨rfl, ?_⟩)) (er (eb (eb Ent.nil))) (by omega) (by omega)
    · obtain rfl : i = 32 := by omega
      unfold lampE; rw [if_neg (by omega), if_neg (fun e => h ⟨e, trivial⟩)]
    · obtain rfl : i = 32 := by omega
      unfold lampE; rw [if_neg (by omega), if_pos h.1]
  · have i_bit : ∀ {w0 : World} {X : Nat → Prop} {L : List Assn}, Ctr Tryd.prog 86 [Ag [.blk 32 (RB.all d)], .int .u8 (i : Int)] w0 X L _ _ _ _ := lamp_Bit_z hb
    repeat' (first
     | (refine kO ?_; first | refine gbar2 rfl rfl rfl rfl rfl rfl ?_ | refine gwd rfl rfl rfl ?_ rfl ?_ | refine gwn rfl ?_ rfl ?_ | refine gws rfl rfl ?_ (by omega) rfl ?_ | refine gwr rfl rfl ?_ (by omega) rfl ?_ | refine gwc rfl rfl rfl ?_ rfl ?_ | refine gneg rfl (by (try simp only [InR]); omega) rfl ?_ | refine gindex rfl rfl rfl rfl rfl (by omega) rfl rfl (fun _ => ?_) | refine gcb2 rfl rfl rfl rfl rfl (by omega) rfl (fun _ => ?_) | refine gcb rfl rfl rfl rfl (by omega) rfl (fun _ => ?_) | refine gcopyb rfl rfl rfl rfl rfl rfl (by omega) rfl (fun _ => ?_) (fun _ => ?_) | refine gv rfl rfl ?_ | refine gnil ?_ | refine gnilD ?_ | refine gl rfl (lvb rfl rfl) rfl (fun _ => ?_) | refine gl rfl (lvB rfl rfl rfl) rfl (fun _ => ?_) | refine gl rfl (lve rfl rfl) rfl (fun _ => ?_) | refine gl rfl (lvE rfl rfl rfl) rfl (fun _ => ?_) | refine gl rfl (lva rfl rfl rfl rfl rfl) rfl (fun _ => ?_) | refine gl rfl (lvx rfl rfl) rfl (fun _ => ?_) | refine gl rfl (lvn rfl rfl rfl (by omega)) rfl (fun _ => ?_) | refine gl rfl (lvK rfl) rfl (fun _ => ?_) | refine gp rfl (by (try simp only [InR]); omega) rfl ?_ | refine gix rfl rfl rfl rfl (by omega) rfl (fun _ => ?_) | refine gixa rfl rfl rfl rfl (by omega) rfl (fun _ => ?_) | refine gc3 rfl rfl rfl rfl rfl rfl (by omega) rfl (fun _ => ?_) | refine gc2 rfl rfl rfl rfl rfl (by omega) rfl (fun _ => ?_) | refine gch rfl rfl rfl rfl (by omega) rfl (fun _ => ?_) | refine gcl rfl rfl rfl rfl (by omega) rfl (fun _ => ?_) | refine gca rfl rfl rfl rfl ?_ | refine gchm rfl rfl rfl rfl rfl (by omega) rfl (fun _ => ?_) | (refine kK ?_; first | refine gcall rfl ?_ rfl (fun _ _ => ?_) (fun _ _ => ?_) | refine gcv rfl rfl ?_ rfl (fun _ _ => ?_) (fun _ _ => ?_) | refine gcc1 rfl rfl ?_ rfl (fun _ _ => ?_) (fun _ _ => ?_)) | refine gneq rfl rfl (by kernel_rfl) ?_ rfl ?_ | refine gbu rfl rfl rfl rfl rfl ?_ | refine gx rfl rfl (fun _ => ?_) (fun _ => ?_) | refine ga rfl (fun _ => ?_) (fun _ => ?_) | refine gst rfl rfl rfl rfl ?_ ?_ | refine ge rfl rfl rfl rfl ?_ ?_ | refine gea rfl rfl rfl rfl rfl rfl rfl ?_ ?_ | refine gap rfl rfl rfl (by omega) rfl (fun _ => ?_) (fun _ => ?_) | refine gan rfl rfl rfl (by omega) rfl (fun _ => ?_) (fun _ => ?_) | refine gapz rfl rfl rfl rfl (by omega) rfl (fun _ => ?_) (fun _ => ?_) | refine ganz rfl rfl rfl rfl (by omega) rfl (fun _ => ?_) (fun _ => ?_) | refine gb rfl rfl rfl rfl ?_ | refine gw rfl rfl ?_)
     | (refine kC ?_; first | refine gseq ?_ | refine greg ?_ | refine gret ?_ | refine gskip ?_ | refine gdraw (id := 9) [0,1,2,3,4,5] (by kernel_rfl) (by kernel_rfl) rfl ?_ | refine gdraw (id := 11) [0,1,2,3,5,6,7,8,4,9,10] (by kernel_rfl) (by kernel_rfl) rfl ?_ | refine gdraw (id := 13) [0,2,1,3] (by kernel_rfl) (by kernel_rfl) rfl ?_ | (refine gcond rfl (fun h => ?_) (fun h => ?_) <;> (first | exact h.elim | (exfalso; omega) | exact absurd h (by assumption) | exact absurd (by assumption) h | skip)) | refine gblk ?_ | refine gexit ?_)
     | (refine kN ?_; first | refine gthen ?_ | refine gnblk ?_)
     | (refine kR ?_; first | refine grs ?_ | refine grb ?_ | refine grl ?_ | refine grc ?_)
     | (refine kX ?_; first | refine gxs ?_ | refine gxb ?_ | refine gxn rfl ?_ | refine gxl ?_ | refine gxc ?_)
     | (refine kR ?_; refine gr rfl (rvT rfl rv0) (_) rfl Ent.nil ?_)
     | exact Pre.mk (by rw [cutP]; simp only [List.length_take, List.length_drop]; omega)
     | exact Pre.mk (by rw [hla]; omega)
     | (refine Pre.mk ?_; first | exact True.intro | omega | ((repeat' (first | refine And.intro ?_ ?_ | exact True.intro | assumption | omega)); done) | (simp only [and_true, true_and, or_true, true_or]; first | done | omega))
     | (refine kD ?_; first | exact dm_none | exact dm0 | refine dmOff rfl ?_ | refine dmOn (lvb rfl rfl) ?_ | refine dmOn (lvB rfl rfl rfl) ?_ | refine dmOn (lve rfl rfl) ?_ | refine dmOn (lvE rfl rfl rfl) ?_ | refine dmOn (lva rfl rfl rfl rfl rfl) ?_ | refine dmOn (lvx rfl rfl) ?_ | refine dmOn (lvn rfl rfl rfl (by omega)) ?_ | refine dmOn (lvK rfl) ?_))
    · rename_i s'
      have e1 : 64 * i + ((64 * ((i : Int) + 1) - 64 * i).toNat - Int.toNat 32) + 32 = 64 * (i + 1) := by omega
      have e2 : lampA d sig i ++ (sig.drop (64 * i + 32)).take 32 ++ (shaH ((sig.drop (64 * i)).take 32)).l = lampA d sig (i + 1) := by
        rw [hs1, lampP, if_pos hb, List.append_assoc]
      rw [cutP, cutQ, e1, e2]
      exact gnl2 (i + 1) s' (by repeat (first | exact trivial | refine ⟨rfl, ?_⟩)) (er (eb (eb Ent.nil))) (by omega) (by omega)
    · obtain rfl : i = 32 := by omega
      unfold lampE; rw [if_neg (by omega), if_neg (fun e => h ⟨e, trivial⟩)]
    · obtain rfl : i = 32 := by omega
      unfold lampE; rw [if_neg (by omega), if_pos h.1]
instance c_lamp_Check {key : List UInt8} {d : List UInt8} {sigA : Option Addr} {sigc sign : Nat} {sig : List UInt8} {w0 : World} {X : Nat → Prop} {L : List Assn} [hK : KR w0 X L] [hkey : LenIs key 32] [hd : LenIs d 32] [hsig : Rw w0 X L (.slice sigA sign sigc) RB sig] : Ctr Tryd.prog 69 [Ag [.blk 32 (RB.all key)], Ag [.blk 32 (RB.all d)], .slice sigA sign sigc] w0 X L (True) (fun _ : Unit => .int .i64 (lampE key d sig)) (fun _ : Unit => L) (fun _ : Unit => True) :=
  ctr' (M' := (fun _ : Unit => [])) (by kernel_rfl) (fun hp w hw => by have esig := hsig.len hw; subst esig; exact lamp_Check _ _ _ _ _ w (hK.get w hw) (hsig.get w hw)) (by rintro hp e0 rfl ok; exact ⟨(), rfl, rfl, trivial⟩)
theorem ref02_Sum (lA : Option Addr) (lc : Nat) (l : List UInt8) (w0 : World) (hl : Slr w0 RB (.slice lA l.length lc) l) (hp : l.length ≤ 140737488351232) :
    Ct Tryd.prog 74 [.slice lA l.length lc] w0 no (fun ((e0) : List UInt8) => Ag [.blk 32 (RB.all e0)]) (fun (e0) => []) (fun (e0) => e0 = (shaH l).l) := by
  have hst := St.start w0
  have i_l := Rw.old hl
  refine genter _ hst Tryd.func74 rfl rfl rfl rfl ?_
  repeat' (first
   | (refine kO ?_; first | refine gv rfl rfl ?_ | refine gnil ?_ | (refine kK ?_; first | refine gcall rfl ?_ rfl (fun _ _ => ?_) (fun _ _ => ?_) | refine gcv rfl rfl ?_ rfl (fun _ _ => ?_) (fun _ _ => ?_) | refine gcc1 rfl rfl ?_ rfl (fun _ _ => ?_) (fun _ _ => ?_)) | refine ga rfl (fun _ => ?_) (fun _ => ?_) | refine gst rfl rfl rfl rfl ?_ ?_ | refine ge rfl rfl rfl rfl ?_ ?_ | refine gea rfl rfl rfl rfl rfl rfl rfl ?_ ?_)
   | (refine kC ?_; first | refine gseq ?_ | refine greg ?_ | refine gret ?_ | refine gskip ?_)
   | (refine kN ?_; first | refine gthen ?_)
   | (refine kR ?_; first | refine grs ?_ | refine grc ?_)
   | (refine kR ?_; refine gr rfl (rvC rfl (lvb rfl rfl) rv0) (_) rfl Ent.nil ?_)
   | (refine kR ?_; refine gr rfl (rvC rfl (lvB rfl rfl rfl) rv0) (_) rfl Ent.nil ?_)
   | (refine Pre.mk ?_; first | exact True.intro | omega | ((repeat' (first | refine And.intro ?_ ?_ | exact True.intro | assumption | omega)); done) | (simp only [and_true, true_and, or_true, true_or]; first | done | omega))
   | (refine kD ?_; first | exact dm_none))
  all_goals rfl
instance c_ref02_Sum {lA : Option Addr} {lc ln : Nat} {l : List UInt8} {w0 : World} {X : Nat → Prop} {L : List Assn} [hl : Rw w0 X L (.slice lA ln lc) RB l] : Ctr Tryd.prog 74 [.slice lA ln lc] w0 X L (l.length ≤ 140737488351232) (fun _ : Unit => Ag [.blk 32 (RB.all (shaH l).l)]) (fun _ : Unit => L) (fun _ : Unit => True) :=
  ctr' (M' := (fun _ : Unit => [])) (by kernel_rfl) (fun hp w hw => by have el := hl.len hw; subst el; exact ref02_Sum _ _ _ w (hl.get w hw) hp) (by rintro hp e0 rfl ok; exact ⟨(), rfl, rfl, trivial⟩)
theorem cutP' {sig : List UInt8} {i : Nat} : List.take (64 * (i : Int) + 32 - 64 * i).toNat (List.drop (64 * (i : Int)).toNat sig) = (sig.drop (64 * i)).take 32 := by
  have e1 : (64 * (i : Int) + 32 - 64 * i).toNat = 32 := by omega
  have e2 : (64 * (i : Int)).toNat = 64 * i := by omega
  rw [e1, e2]
theorem cutQ' {sig : List UInt8} {i : Nat} : List.take (64 * (i : Int) + 64 - (64 * i + 32)).toNat (List.drop (64 * (i : Int) + 32).toNat sig) = (sig.drop (64 * i + 32)).take 32 := by
  have e1 : (64 * (i : Int) + 64 - (64 * i + 32)).toNat = 32 := by omega
  have e2 : (64 * (i : Int) + 32).toNat = 64 * i + 32 := by omega
  rw [e1, e2]
theorem ref13_Check (key : List UInt8) [hkey : LenIs key 32] (d : List UInt8) [hd : LenIs d 32] (sigA : Option Addr) (sigc : Nat) (sig : List UInt8) (w0 : World) (hsig : Slr w0 RB (.slice sigA sig.length sigc) sig)  :
    Ct Tryd.prog 90 [Ag [.blk 32 (RB.all key)], Ag [.blk 32 (RB.all d)], .slice sigA sig.length sigc] w0 no (fun ((e0) : Int) => .int .i64 e0) (fun (e0) => []) (fun (e0) => e0 = lampE key d sig) := by
  have hst := St.start w0
  have i_sig := Rw.old hsig
  refine genter _ hst Tryd.func90 rfl rfl rfl rfl ?_
  repeat' (first
   | (refine kO ?_; first | refine gwd rfl rfl rfl ?_ rfl ?_ | refine gwn rfl ?_ rfl ?_ | refine gws rfl rfl ?_ (by omega) rfl ?_ | refine gwr rfl rfl ?_ (by omega) rfl ?_ | refine gwc rfl rfl rfl ?_ rfl ?_ | refine gneg rfl (by (try simp only [InR]); omega) rfl ?_ | refine gindex rfl rfl rfl rfl rfl (by omega) rfl rfl (fun _ => ?_) | refine gcb2 rfl rfl rfl rfl rfl (by omega) rfl (fun _ => ?_) | refine gcb rfl rfl rfl rfl (by omega) rfl (fun _ => ?_) | refine gcopyb rfl rfl rfl rfl rfl rfl (by omega) rfl (fun _ => ?_) (fun _ => ?_) | refine gv rfl rfl ?_ | refine gnil ?_ | refine gnilD ?_ | refine gl rfl (lvb rfl rfl) rfl (fun _ => ?_) | refine gl rfl (lvB rfl rfl rfl) rfl (fun _ => ?_) | refine gl rfl (lve rfl rfl) rfl (fun _ => ?_) | refine gl rfl (lvE rfl rfl rfl) rfl (fun _ => ?_) | refine gl rfl (lva rfl rfl rfl rfl rfl) rfl (fun _ => ?_) | refine gl rfl (lvn rfl rfl rfl (by omega)) rfl (fun _ => ?_) | refine gl rfl (lvK rfl) rfl (fun _ => ?_) | refine gp rfl (by (try simp only [InR]); omega) rfl ?_ | refine gc3 rfl rfl rfl rfl rfl rfl (by omega) rfl (fun _ => ?_) | refine gc2 rfl rfl rfl rfl rfl (by omega) rfl (fun _ => ?_) | refine gch rfl rfl rfl rfl (by omega) rfl (fun _ => ?_) | refine gcl rfl rfl rfl rfl (by omega) rfl (fun _ => ?_) | refine gca rfl rfl rfl rfl ?_ | refine gchm rfl rfl rfl rfl rfl (by omega) rfl (fun _ => ?_) | (refine kK ?_; first | refine gcall rfl ?_ rfl (fun _ _ => ?_) (fun _ _ => ?_) | refine gcv rfl rfl ?_ rfl (fun _ _ => ?_) (fun _ _ => ?_) | refine gcc1 rfl rfl ?_ rfl (fun _ _ => ?_) (fun _ _ => ?_)) | refine geql rfl rfl (by kernel_rfl) ?_ rfl ?_ | refine gneq rfl rfl (by kernel_rfl) ?_ rfl ?_ | refine gx rfl rfl (fun _ => ?_) (fun _ => ?_) | refine gap rfl rfl rfl (by omega) rfl (fun _ => ?_) (fun _ => ?_) | refine gan rfl rfl rfl (by omega) rfl (fun _ => ?_) (fun _ => ?_) | refine gapz rfl rfl rfl rfl (by omega) rfl (fun _ => ?_) (fun _ => ?_) | refine ganz rfl rfl rfl rfl (by omega) rfl (fun _ => ?_) (fun _ => ?_) | refine gb rfl rfl rfl rfl ?_ | refine gw rfl rfl ?_)
   | (refine kC ?_; first | refine gseq ?_ | refine greg ?_ | refine gret ?_ | refine gskip ?_ | refine gdraw (id := 7) [0,1,2,3,4,5,6,9,10,11,12,13,14,15,16,7,8,17,18,19] (by kernel_rfl) (by kernel_rfl) rfl ?_ | refine gdraw (id := 12) [0,2,1,3] (by kernel_rfl) (by kernel_rfl) rfl ?_ | (refine gcond rfl (fun h => ?_) (fun h => ?_) <;> (first | exact h.elim | (exfalso; omega) | exact absurd h (by assumption) | exact absurd (by assumption) h | skip)) | refine gblk ?_ | refine gexit ?_)
   | (refine kN ?_; first | refine gthen ?_ | refine gnblk ?_)
   | (refine kR ?_; first | refine grs ?_ | refine grb ?_ | refine grl ?_ | refine grc ?_)
   | (refine kX ?_; first | refine gxs ?_ | refine gxb ?_ | refine gxn rfl ?_ | refine gxl ?_ | refine gxc ?_)
   | (refine kR ?_; refine gr rfl (rvT rfl rv0) (_) rfl Ent.nil ?_)
   | (refine Pre.mk ?_; first | exact True.intro | omega | ((repeat' (first | refine And.intro ?_ ?_ | exact True.intro | assumption | omega)); done) | (simp only [and_true, true_and, or_true, true_or]; first | done | omega))
   | (refine kD ?_; first | exact dm_none | exact dm0 | refine dmOff rfl ?_ | refine dmOn (lvb rfl rfl) ?_ | refine dmOn (lvB rfl rfl rfl) ?_ | refine dmOn (lve rfl rfl) ?_ | refine dmOn (lvE rfl rfl rfl) ?_ | refine dmOn (lva rfl rfl rfl rfl rfl) ?_ | refine dmOn (lvn rfl rfl rfl (by omega)) ?_ | refine dmOn (lvK rfl) ?_))
  · unfold lampE; rw [if_pos (by omega)]
  rename_i gk gd
  refine gloop2 [2, 3, 4] (fun (i : Nat) (s : Sv) K => (7, .slice s.A (64 * i) s.c) :: (8, .int .i64 i) :: K) (fun i s => [rw_ 5 RB s (64 * i) (lampA d sig i), boxA gd 25 [.blk 32 (RB.all d)], boxA gk 25 [.blk 32 (RB.all key)]]) (fun i s => i ≤ 32) (fun i s => 32 - i) 0 ⟨none, 0⟩ rfl (by repeat (first | exact trivial | refine ⟨rfl, ?_⟩)) (er0 (eb (eb Ent.nil))) (by omega) (fun i s hi => ?_)
  have hl : sig.length = 2048 := by omega
  have hla := lampA_len (d := d) hl hi
  have hs1 := lampA_succ (d := d) (sig := sig) (k := i)
  by_cases hlt : i < 32
  · have hc1 : (List.take (64 * (i : Int) + 64 - (64 * i + 32)).toNat (List.drop (64 * (i : Int) + 32).toNat sig)).length = 32 := by
      rw [cutQ', List.length_take, List.length_drop]; omega
    have hc2 : (List.take (64 * (i : Int) + 32 - 64 * i).toNat (List.drop (64 * (i : Int)).toNat sig)).length = 32 := by
      rw [cutP', List.length_take, List.length_drop]; omega
    have hc3 : (shaH (List.take (64 * (i : Int) + 32 - 64 * i).toNat (List.drop (64 * (i : Int)).toNat sig))).l.length = 32 := (shaH _).len
    repeat' (first
     | (refine kO ?_; first | refine gwd rfl rfl rfl ?_ rfl ?_ | refine gwn rfl ?_ rfl ?_ | refine gws rfl rfl ?_ (by omega) rfl ?_ | refine gwr rfl rfl ?_ (by omega) rfl ?_ | refine gwc rfl rfl rfl ?_ rfl ?_ | refine gneg rfl (by (try simp only [InR]); omega) rfl ?_ | refine gindex rfl rfl rfl rfl rfl (by omega) rfl rfl (fun _ => ?_) | refine gcb2 rfl rfl rfl rfl rfl (by omega) rfl (fun _ => ?_) | refine gcb rfl rfl rfl rfl (by omega) rfl (fun _ => ?_) | refine gcopyb rfl rfl rfl rfl rfl rfl (by omega) rfl (fun _ => ?_) (fun _ => ?_) | refine gv rfl rfl ?_ | refine gnil ?_ | refine gnilD ?_ | refine gl rfl (lvb rfl rfl) rfl (fun _ => ?_) | refine gl rfl (lvB rfl rfl rfl) rfl (fun _ => ?_) | refine gl rfl (lve rfl rfl) rfl (fun _ => ?_) | refine gl rfl (lvE rfl rfl rfl) rfl (fun _ => ?_) | refine gl rfl (lva rfl rfl rfl rfl rfl) rfl (fun _ => ?_) | refine gl rfl (lvn rfl rfl rfl (by omega)) rfl (fun _ => ?_) | refine gl rfl (lvK rfl) rfl (fun _ => ?_) | refine gp rfl (by (try simp only [InR]); omega) rfl ?_ | refine gc3 rfl rfl rfl rfl rfl rfl (by omega) rfl (fun _ => ?_) | refine gc2 rfl rfl rfl rfl rfl (by omega) rfl (fun _ => ?_) | refine gch rfl rfl rfl rfl (by omega) rfl (fun _ => ?_) | refine gcl rfl rfl rfl rfl (by omega) rfl (fun _ => ?_) | refine gca rfl rfl rfl rfl ?_ | refine gchm rfl rfl rfl rfl rfl (by omega) rfl (fun _ => ?_) | (refine kK ?_; first | refine gcall rfl ?_ rfl (fun _ _ => ?_) (fun _ _ => ?_) | refine gcv rfl rfl ?_ rfl (fun _ _ => ?_) (fun _ _ => ?_) | refine gcc1 rfl rfl ?_ rfl (fun _ _ => ?_) (fun _ _ => ?_)) | refine geql rfl rfl (by kernel_rfl) ?_ rfl ?_ | refine gneq rfl rfl (by kernel_rfl) ?_ rfl ?_ | refine gx rfl rfl (fun _ => ?_) (fun _ => ?_) | refine gap rfl rfl rfl (by omega) rfl (fun _ => ?_) (fun _ => ?_) | refine gan rfl rfl rfl (by omega) rfl (fun _ => ?_) (fun _ => ?_) | refine gapz rfl rfl rfl rfl (by omega) rfl (fun _ => ?_) (fun _ => ?_) | refine ganz rfl rfl rfl rfl (by omega) rfl (fun _ => ?_) (fun _ => ?_) | refine gb rfl rfl rfl rfl ?_ | refine gw rfl rfl ?_)
     | (refine kC ?_; first | refine gseq ?_ | refine greg ?_ | refine gret ?_ | refine gskip ?_ | refine gdraw (id := 7) [0,1,2,3,4,5,6,9,10,11,12,13,14,15,16,7,8,17,18,19] (by kernel_rfl) (by kernel_rfl) rfl ?_ | refine gdraw (id := 12) [0,2,1,3] (by kernel_rfl) (by kernel_rfl) rfl ?_ | (refine gcond rfl (fun h => ?_) (fun h => ?_) <;> (first | exact h.elim | (exfalso; omega) | exact absurd h (by assumption) | exact absurd (by assumption) h | skip)) | refine gblk ?_ | refine gexit ?_)
     | (refine kN ?_; first | refine gthen ?_ | refine gnblk ?_)
     | (refine kR ?_; first | refine grs ?_ | refine grb ?_ | refine grl ?_ | refine grc ?_)
     | (refine kX ?_; first | refine gxs ?_ | refine gxb ?_ | refine gxn rfl ?_ | refine gxl ?_ | refine gxc ?_)
     | (refine kR ?_; refine gr rfl (rvT rfl rv0) (_) rfl Ent.nil ?_)
     | (refine Pre.mk ?_; first | exact True.intro | omega | ((repeat' (first | refine And.intro ?_ ?_ | exact True.intro | assumption | omega)); done) | (simp only [and_true, true_and, or_true, true_or]; first | done | omega))
     | (refine kD ?_; first | exact dm_none | exact dm0 | refine dmOff rfl ?_ | refine dmOn (lvb rfl rfl) ?_ | refine dmOn (lvB rfl rfl rfl) ?_ | refine dmOn (lve rfl rfl) ?_ | refine dmOn (lvE rfl rfl rfl) ?_ | refine dmOn (lva rfl rfl rfl rfl rfl) ?_ | refine dmOn (lvn rfl rfl rfl (by omega)) ?_ | refine dmOn (lvK rfl) ?_))
    · rename_i s'
      have e1 : ∀ a b : Nat, a = 32 → b = 32 → 64 * i + a + b = 64 * (i + 1) := by omega
      have e2 : lampA d sig i ++ (sig.drop (64 * i + 32)).take 32 ++ (shaH ((sig.drop (64 * i)).take 32)).l = lampA d sig (i + 1) := by
        rw [hs1, lampP, if_pos h, List.append_assoc]
      rw [e1 _ _ hc1 hc3, cutP', cutQ', e2]
      exact gnl2 (i + 1) s' (by repeat (first | exact trivial | refine ⟨rfl, ?_⟩)) (er (eb (eb Ent.nil))) (by omega) (by omega)
    · rename_i s'
      have e1 : ∀ a b : Nat, a = 32 → b = 32 → 64 * i + a + b = 64 * (i + 1) := by omega
      have e2 : lampA d sig i ++ (shaH ((sig.drop (64 * i)).take 32)).l ++ (sig.drop (64 * i + 32)).take 32 = lampA d sig (i + 1) := by
        rw [hs1, lampP, if_neg h, List.append_assoc]
      rw [e1 _ _ hc3 hc1, cutP', cutQ', e2]
      exact gnl2 (i + 1) s' (by repeat (first | exact trivial | refine ⟨rfl, ?_⟩)) (er (eb (eb Ent.nil))) (by omega) (by omega)
  · obtain rfl : i = 32 := by omega
    repeat' (first
     | (refine kO ?_; first | refine gwd rfl rfl rfl ?_ rfl ?_ | refine gwn rfl ?_ rfl ?_ | refine gws rfl rfl ?_ (by omega) rfl ?_ | refine gwr rfl rfl ?_ (by omega) rfl ?_ | refine gwc rfl rfl rfl ?_ rfl ?_ | refine gneg rfl (by (try simp only [InR]); omega) rfl ?_ | refine gindex rfl rfl rfl rfl rfl (by omega) rfl rfl (fun _ => ?_) | refine gcb2 rfl rfl rfl rfl rfl (by omega) rfl (fun _ => ?_) | refine gcb rfl rfl rfl rfl (by omega) rfl (fun _ => ?_) | refine gcopyb rfl rfl rfl rfl rfl rfl (by omega) rfl (fun _ => ?_) (fun _ => ?_) | refine gv rfl rfl ?_ | refine gnil ?_ | refine gnilD ?_ | refine gl rfl (lvb rfl rfl) rfl (fun _ => ?_) | refine gl rfl (lvB rfl rfl rfl) rfl (fun _ => ?_) | refine gl rfl (lve rfl rfl) rfl (fun _ => ?_) | refine gl rfl (lvE rfl rfl rfl) rfl (fun _ => ?_) | refine gl rfl (lva rfl rfl rfl rfl rfl) rfl (fun _ => ?_) | refine gl rfl (lvn rfl rfl rfl (by omega)) rfl (fun _ => ?_) | refine gl rfl (lvK rfl) rfl (fun _ => ?_) | refine gp rfl (by (try simp only [InR]); omega) rfl ?_ | refine gc3 rfl rfl rfl rfl rfl rfl (by omega) rfl (fun _ => ?_) | refine gc2 rfl rfl rfl rfl rfl (by omega) rfl (fun _ => ?_) | refine gch rfl rfl rfl rfl (by omega) rfl (fun _ => ?_) | refine gcl rfl rfl rfl rfl (by omega) rfl (fun _ => ?_) | refine gca rfl rfl rfl rfl ?_ | refine gchm rfl rfl rfl rfl rfl (by omega) rfl (fun _ => ?_) | (refine kK ?_; first | refine gcall rfl ?_ rfl (fun _ _ => ?_) (fun _ _ => ?_) | refine gcv rfl rfl ?_ rfl (fun _ _ => ?_) (fun _ _ => ?_) | refine gcc1 rfl rfl ?_ rfl (fun _ _ => ?_) (fun _ _ => ?_)) | refine geql rfl rfl (by kernel_rfl) ?_ rfl ?_ | refine gneq rfl rfl (by kernel_rfl) ?_ rfl ?_ | refine gx rfl rfl (fun _ => ?_) (fun _ => ?_) | refine gap rfl rfl rfl (by omega) rfl (fun _ => ?_) (fun _ => ?_) | refine gan rfl rfl rfl (by omega) rfl (fun _ => ?_) (fun _ => ?_) | refine gapz rfl rfl rfl rfl (by omega) rfl (fun _ => ?_) (fun _ => ?_) | refine ganz rfl rfl rfl rfl (by omega) rfl (fun _ => ?_) (fun _ => ?_) | refine gb rfl rfl rfl rfl ?_ | refine gw rfl rfl ?_)
     | (refine kC ?_; first | refine gseq ?_ | refine greg ?_ | refine gret ?_ | refine gskip ?_ | refine gdraw (id := 7) [0,1,2,3,4,5,6,9,10,11,12,13,14,15,16,7,8,17,18,19] (by kernel_rfl) (by kernel_rfl) rfl ?_ | refine gdraw (id := 12) [0,2,1,3] (by kernel_rfl) (by kernel_rfl) rfl ?_ | (refine gcond rfl (fun h => ?_) (fun h => ?_) <;> (first | exact h.elim | (exfalso; omega) | exact absurd h (by assumption) | exact absurd (by assumption) h | skip)) | refine gblk ?_ | refine gexit ?_)
     | (refine kN ?_; first | refine gthen ?_ | refine gnblk ?_)
     | (refine kR ?_; first | refine grs ?_ | refine grb ?_ | refine grl ?_ | refine grc ?_)
     | (refine kX ?_; first | refine gxs ?_ | refine gxb ?_ | refine gxn rfl ?_ | refine gxl ?_ | refine gxc ?_)
     | (refine kR ?_; refine gr rfl (rvT rfl rv0) (_) rfl Ent.nil ?_)
     | exact Pre.mk (by rw [hla]; omega)
     | (refine Pre.mk ?_; first | exact True.intro | omega | ((repeat' (first | refine And.intro ?_ ?_ | exact True.intro | assumption | omega)); done) | (simp only [and_true, true_and, or_true, true_or]; first | done | omega))
     | (refine kD ?_; first | exact dm_none | exact dm0 | refine dmOff rfl ?_ | refine dmOn (lvb rfl rfl) ?_ | refine dmOn (lvB rfl rfl rfl) ?_ | refine dmOn (lve rfl rfl) ?_ | refine dmOn (lvE rfl rfl rfl) ?_ | refine dmOn (lva rfl rfl rfl rfl rfl) ?_ | refine dmOn (lvn rfl rfl rfl (by omega)) ?_ | refine dmOn (lvK rfl) ?_))
    · unfold lampE; rw [if_neg (by omega), if_neg (fun e => h ⟨e, trivial⟩)]
    · unfold lampE; rw [if_neg (by omega), if_pos h.1]
instance c_ref13_Check {key : List UInt8} {d : List UInt8} {sigA : Option Addr} {sigc sign : Nat} {sig : List UInt8} {w0 : World} {X : Nat → Prop} {L : List Assn} [hkey : LenIs key 32] [hd : LenIs d 32] [hsig : Rw w0 X L (.slice sigA sign sigc) RB sig] : Ctr Tryd.prog 90 [Ag [.blk 32 (RB.all key)], Ag [.blk 32 (RB.all d)], .slice sigA sign sigc] w0 X L (True) (fun _ : Unit => .int .i64 (lampE key d sig)) (fun _ : Unit => L) (fun _ : Unit => True) :=
  ctr' (M' := (fun _ : Unit => [])) (by kernel_rfl) (fun hp w hw => by have esig := hsig.len hw; subst esig; exact ref13_Check _ _ _ _ _ w (hsig.get w hw)) (by rintro hp e0 rfl ok; exact ⟨(), rfl, rfl, trivial⟩)
/-! a cell of 32 bytes as a hash -/
section
variable {P : Program} {n : Nat} {w0 : World} {X : Nat → Prop} {Q : Cont} {E : Env} {L L' : List Assn} {s : Ms} {ops : Array Oper} {rest : List Oper} {v : Value}
variable {d : Nat} {ty : TypeId} {pos : String} {aft : Array Edge} {op : Op} {G : Type} {R : Rep G} {gs gs' : List G}
theorem gcopyw {x y : Operand} {t e tt : TypeId} {g o m k2 c2 : Nat} {B : Option Addr} {cs cs' : List Cs} {F : Assn → List Assn} (hx : eev E x = some (.slice (some ⟨g, o, none⟩) m m)) (hy : eev E y = some (.slice B k2 c2)) (ht : P.underlying t = some (.slice e)) (hz : szB P e = some 1) [hb : FBox L g tt cs] [hr : Rw w0 X L (.slice B k2 c2) R gs'] [hR : SzIs R 1] (hq : subS cs o m = some [.blk m (R.all gs)]) (hp : putS cs o [.blk m (R.all gs')] = some cs') (hk : 0 < k2 ∧ k2 = m) [hF : UpdF L (boxA g tt cs) F] (hd : Nat.blt d n = true) (hD : LenIs gs' m → Dm w0 X ops s (F (boxA g tt cs')))
    (k : LenIs gs' m → GO P n w0 X (nextM s) ops rest Q ((d, .int .i64 (k2 : Int)) :: E) (F (boxA g tt cs'))) : GO P n w0 X s ops (⟨some d, .call { callee := .builtin .copy, args := #[x, y], argTypes := #[t, t] }, ty, pos, aft, none⟩ :: rest) Q E L :=
  go_with fun w hw => by
    have hk2 := hr.len hw
    obtain ⟨ok, hc⟩ := box_cells hb hw
    obtain ⟨q1, q2, q3⟩ := subS_ok ok hq
    have hgl : gs.length = m := by have := q2.1; rw [Rep.len, hR.h, Nat.mul_one] at this; exact this
    have e0 : layL gs (0 : Int).toNat gs' = gs' := by
      simp only [layL, Int.toNat_zero, List.take_zero, List.nil_append, Nat.zero_add]
      rw [List.drop_eq_nil_of_le (by omega), List.append_nil]
    haveI : Ix 0 m := ⟨by omega⟩
    refine gcopyb (g := g) (o := o) (m := m) (l := 0) (gs := gs) (cs' := cs') (F := F) (by rw [ela_eq]; simpa using hx) hy ht hz hq (by rw [e0]; exact hp) ⟨hk.1, by omega, by simp; omega⟩ hd (fun h => hD (by rw [e0] at h; exact h)) (fun h => k (by rw [e0] at h; exact h))
end
theorem exec_hash (bA : Option Addr) (bc : Nat) (b : List UInt8) (w0 : World) (hb : Slr w0 RB (.slice bA b.length bc) b) (hp : b.length = 32) :
    Ct Tryd.prog 70 [.slice bA b.length bc] w0 no (fun ((e0) : List UInt8) => Ag [.blk 32 (RB.all e0)]) (fun (e0) => []) (fun (e0) => e0 = (toH b).l) := by
  have hst := St.start w0
  have i_b := Rw.old hb
  refine genter _ hst Tryd.func70 rfl rfl rfl rfl ?_
  repeat' (first
   | (refine kO ?_; first | refine gcopyw rfl rfl rfl rfl rfl rfl (by omega) rfl (fun _ => ?_) (fun _ => ?_) | refine gwd rfl rfl rfl ?_ rfl ?_ | refine gwn rfl ?_ rfl ?_ | refine gws rfl rfl ?_ (by omega) rfl ?_ | refine gwr rfl rfl ?_ (by omega) rfl ?_ | refine gwc rfl rfl rfl ?_ rfl ?_ | refine gneg rfl (by (try simp only [InR]); omega) rfl ?_ | refine gindex rfl rfl rfl rfl rfl (by omega) rfl rfl (fun _ => ?_) | refine gcb2 rfl rfl rfl rfl rfl (by omega) rfl (fun _ => ?_) | refine gcb rfl rfl rfl rfl (by omega) rfl (fun _ => ?_) | refine gcopyb rfl rfl rfl rfl rfl rfl (by omega) rfl (fun _ => ?_) (fun _ => ?_) | refine gv rfl rfl ?_ | refine gnil ?_ | refine gl rfl (lvb rfl rfl) rfl (fun _ => ?_) | refine gl rfl (lvB rfl rfl rfl) rfl (fun _ => ?_) | refine gl rfl (lve rfl rfl) rfl (fun _ => ?_) | refine gl rfl (lvE rfl rfl rfl) rfl (fun _ => ?_) | refine gl rfl (lva rfl rfl rfl rfl rfl) rfl (fun _ => ?_) | refine gl rfl (lvn rfl rfl rfl (by omega)) rfl (fun _ => ?_) | refine gl rfl (lvK rfl) rfl (fun _ => ?_) | refine gc3 rfl rfl rfl rfl rfl rfl (by omega) rfl (fun _ => ?_) | refine gc2 rfl rfl rfl rfl rfl (by omega) rfl (fun _ => ?_) | refine gch rfl rfl rfl rfl (by omega) rfl (fun _ => ?_) | refine gcl rfl rfl rfl rfl (by omega) rfl (fun _ => ?_) | refine gca rfl rfl rfl rfl ?_ | refine gchm rfl rfl rfl rfl rfl (by omega) rfl (fun _ => ?_) | (refine kK ?_; first | refine gcall rfl ?_ rfl (fun _ _ => ?_) (fun _ _ => ?_) | refine gcv rfl rfl ?_ rfl (fun _ _ => ?_) (fun _ _ => ?_) | refine gcc1 rfl rfl ?_ rfl (fun _ _ => ?_) (fun _ _ => ?_)) | refine ga rfl (fun _ => ?_) (fun _ => ?_) | refine gst rfl rfl rfl rfl ?_ ?_ | refine ge rfl rfl rfl rfl ?_ ?_ | refine gea rfl rfl rfl rfl rfl rfl rfl ?_ ?_)
   | (refine kC ?_; first | refine gseq ?_ | refine greg ?_ | refine gret ?_ | refine gskip ?_)
   | (refine kN ?_; first | refine gthen ?_)
   | (refine kR ?_; first | refine grs ?_ | refine grc ?_)
   | (refine kR ?_; refine gr rfl (rvC rfl (lvb rfl rfl) rv0) (_) rfl Ent.nil ?_)
   | (refine kR ?_; refine gr rfl (rvC rfl (lvB rfl rfl rfl) rv0) (_) rfl Ent.nil ?_)
   | (refine Pre.mk ?_; first | exact True.intro | omega | ((repeat' (first | refine And.intro ?_ ?_ | exact True.intro | assumption | omega)); done) | (simp only [and_true, true_and, or_true, true_or]; first | done | omega))
   | (refine kD ?_; first | exact dm_none))
  exact (toH_l hp).symm
instance c_exec_hash {bA : Option Addr} {bc bn : Nat} {b : List UInt8} {w0 : World} {X : Nat → Prop} {L : List Assn} [hb : Rw w0 X L (.slice bA bn bc) RB b] : Ctr Tryd.prog 70 [.slice bA bn bc] w0 X L (b.length = 32) (fun _ : Unit => Ag [.blk 32 (RB.all (toH b).l)]) (fun _ : Unit => L) (fun _ : Unit => True) :=
  ctr' (M' := (fun _ : Unit => [])) (by kernel_rfl) (fun hp w hw => by have eb := hb.len hw; subst eb; exact exec_hash _ _ _ w (hb.get w hw) hp) (by rintro hp e0 rfl ok; exact ⟨(), rfl, rfl, trivial⟩)
def outB (l : List UInt8) (j : Nat) : List UInt8 := l.take j ++ List.replicate (32 - j) 0
theorem outB_len {l : List UInt8} (h : l.length = 32) {j : Nat} (hj : j ≤ 32) : (outB l j).length = 32 := by unfold outB; simp; omega
theorem outB_step {l : List UInt8} (h : l.length = 32) {j : Nat} (hj : j < 32) : (outB l j).set j (ixd l (j : Int)) = outB l (j + 1) := by
  unfold outB
  rw [List.take_succ_eq_append_getElem (by omega), List.set_append_right _ _ (by simp; omega), ixd_eq (by omega)]
  have e : (List.replicate (32 - j) (0 : UInt8)) = 0 :: List.replicate (32 - (j + 1)) 0 := by
    rw [← List.replicate_succ]; congr 1; omega
  rw [e, List.length_take, Nat.min_eq_left (by omega), Nat.sub_self, List.set_cons_zero, List.append_assoc]; rfl
theorem ref14_signed (keyA : Option Addr) (keyc : Nat) (key : List UInt8) (sigA : Option Addr) (sigc : Nat) (sig : List UInt8) (ht : Int) (dg : List UInt8) [hdg : LenIs dg 32] (w0 : World) (hkey : Slr w0 RB (.slice keyA key.length keyc) key) (hsig : Slr w0 RB (.slice sigA sig.length sigc) sig)  :
    Ct Tryd.prog 77 [.slice keyA key.length keyc, .slice sigA sig.length sigc, Ag [.one (.int .u32 ht), .blk 32 (RB.all dg)]] w0 no (fun ((e0) : Bool) => .bool e0) (fun (e0) => []) (fun (e0) => e0 = decide (key.length = 32 ∧ lampE key dg sig = 0)) := by
  have hst := St.start w0
  have i_key := Rw.old hkey
  have i_sig := Rw.old hsig
  refine genter _ hst Tryd.func77 rfl rfl rfl rfl ?_
  repeat' (first
   | (refine kO ?_; first | refine gwd rfl rfl rfl ?_ rfl ?_ | refine gwn rfl ?_ rfl ?_ | refine gws rfl rfl ?_ (by omega) rfl ?_ | refine gwr rfl rfl ?_ (by omega) rfl ?_ | refine gwc rfl rfl rfl ?_ rfl ?_ | refine gneg rfl (by (try simp only [InR]); omega) rfl ?_ | refine gindex rfl rfl rfl rfl rfl (by omega) rfl rfl (fun _ => ?_) | refine gcb2 rfl rfl rfl rfl rfl (by omega) rfl (fun _ => ?_) | refine gcb rfl rfl rfl rfl (by omega) rfl (fun _ => ?_) | refine gcopyb rfl rfl rfl rfl rfl rfl (by omega) rfl (fun _ => ?_) (fun _ => ?_) | refine gv rfl rfl ?_ | refine gnil ?_ | refine gl rfl (lvb rfl rfl) rfl (fun _ => ?_) | refine gl rfl (lvB rfl rfl rfl) rfl (fun _ => ?_) | refine gl rfl (lve rfl rfl) rfl (fun _ => ?_) | refine gl rfl (lvE rfl rfl rfl) rfl (fun _ => ?_) | refine gl rfl (lva rfl rfl rfl rfl rfl) rfl (fun _ => ?_) | refine gl rfl (lvn rfl rfl rfl (by omega)) rfl (fun _ => ?_) | refine gl rfl (lvK rfl) rfl (fun _ => ?_) | refine gp rfl (by (try simp only [InR]); omega) rfl ?_ | refine gf rfl rfl rfl ?_ | refine gix rfl rfl rfl rfl (by omega) rfl (fun _ => ?_) | refine gixa rfl rfl rfl rfl (by omega) rfl (fun _ => ?_) | (refine kK ?_; first | refine gcall rfl ?_ rfl (fun _ _ => ?_) (fun _ _ => ?_) | refine gcv rfl rfl ?_ rfl (fun _ _ => ?_) (fun _ _ => ?_) | refine gcc1 rfl rfl ?_ rfl (fun _ _ => ?_) (fun _ _ => ?_)) | refine geql rfl rfl (by kernel_rfl) ?_ rfl ?_ | refine gneq rfl rfl (by kernel_rfl) ?_ rfl ?_ | refine gx rfl rfl (fun _ => ?_) (fun _ => ?_) | refine ga rfl (fun _ => ?_) (fun _ => ?_) | refine gst rfl rfl rfl rfl ?_ ?_ | refine ge rfl rfl rfl rfl ?_ ?_ | refine gea rfl rfl rfl rfl rfl rfl rfl ?_ ?_ | refine gw rfl rfl ?_)
   | (refine kC ?_; first | refine gseq ?_ | refine greg ?_ | refine gret ?_ | refine gskip ?_ | (refine gcond rfl (fun h => ?_) (fun h => ?_) <;> (first | exact h.elim | (exfalso; omega) | exact absurd h (by assumption) | exact absurd (by assumption) h | skip)) | refine gblk ?_ | refine gexit ?_)
   | (refine kN ?_; first | refine gthen ?_ | refine gnblk ?_)
   | (refine kR ?_; first | refine grs ?_ | refine grb ?_ | refine grl ?_ | refine grc ?_)
   | (refine kX ?_; first | refine gxs ?_ | refine gxb ?_ | refine gxn rfl ?_ | refine gxl ?_ | refine gxc ?_)
   | (refine kR ?_; refine gr rfl (rvT rfl rv0) (_) rfl Ent.nil ?_)
   | (refine Pre.mk ?_; first | exact True.intro | omega | ((repeat' (first | refine And.intro ?_ ?_ | exact True.intro | assumption | omega)); done) | (simp only [and_true, true_and, or_true, true_or]; first | done | omega))
   | (refine kD ?_; first | exact dm_none))
  · exact (decide_eq_false fun e => h (by omega)).symm
  rename_i ge gh
  have hk : key.length = 32 := by omega
  refine gloop [0, 1, 5, 7] (fun (j : Nat) K => (8, .int .i64 j) :: K) (fun j => [boxA gh 25 [.blk 32 (RB.all (outB key j))], boxA ge 27 [.one (.int .u32 ht), .blk 32 (RB.all dg)]]) (fun j => j ≤ 32) (fun j => 32 - j) 0 rfl (by repeat (first | exact trivial | refine ⟨rfl, ?_⟩)) (by rw [show outB key 0 = List.replicate 32 0 from rfl]; exact eb (eb Ent.nil)) (by omega) (fun j hj => ?_)
  have hv : LenIs (outB key j) 32 := ⟨outB_len hk hj⟩
  by_cases hlj : j < 32
  · skip
    repeat' (first
     | (refine kO ?_; first | refine gwd rfl rfl rfl ?_ rfl ?_ | refine gwn rfl ?_ rfl ?_ | refine gws rfl rfl ?_ (by omega) rfl ?_ | refine gwr rfl rfl ?_ (by omega) rfl ?_ | refine gwc rfl rfl rfl ?_ rfl ?_ | refine gneg rfl (by (try simp only [InR]); omega) rfl ?_ | refine gindex rfl rfl rfl rfl rfl (by omega) rfl rfl (fun _ => ?_) | refine gcb2 rfl rfl rfl rfl rfl (by omega) rfl (fun _ => ?_) | refine gcb rfl rfl rfl rfl (by omega) rfl (fun _ => ?_) | refine gcopyb rfl rfl rfl rfl rfl rfl (by omega) rfl (fun _ => ?_) (fun _ => ?_) | refine gv rfl rfl ?_ | refine gnil ?_ | refine gl rfl (lvb rfl rfl) rfl (fun _ => ?_) | refine gl rfl (lvB rfl rfl rfl) rfl (fun _ => ?_) | refine gl rfl (lve rfl rfl) rfl (fun _ => ?_) | refine gl rfl (lvE rfl rfl rfl) rfl (fun _ => ?_) | refine gl rfl (lva rfl rfl rfl rfl rfl) rfl (fun _ => ?_) | refine gl rfl (lvn rfl rfl rfl (by omega)) rfl (fun _ => ?_) | refine gl rfl (lvK rfl) rfl (fun _ => ?_) | refine gp rfl (by (try simp only [InR]); omega) rfl ?_ | refine gf rfl rfl rfl ?_ | refine gix rfl rfl rfl rfl (by omega) rfl (fun _ => ?_) | refine gixa rfl rfl rfl rfl (by omega) rfl (fun _ => ?_) | (refine kK ?_; first | refine gcall rfl ?_ rfl (fun _ _ => ?_) (fun _ _ => ?_) | refine gcv rfl rfl ?_ rfl (fun _ _ => ?_) (fun _ _ => ?_) | refine gcc1 rfl rfl ?_ rfl (fun _ _ => ?_) (fun _ _ => ?_)) | refine geql rfl rfl (by kernel_rfl) ?_ rfl ?_ | refine gneq rfl rfl (by kernel_rfl) ?_ rfl ?_ | refine gx rfl rfl (fun _ => ?_) (fun _ => ?_) | refine ga rfl (fun _ => ?_) (fun _ => ?_) | refine gst rfl rfl rfl rfl ?_ ?_ | refine ge rfl rfl rfl rfl ?_ ?_ | refine gea rfl rfl rfl rfl rfl rfl rfl ?_ ?_ | refine gw rfl rfl ?_)
     | (refine kC ?_; first | refine gseq ?_ | refine greg ?_ | refine gret ?_ | refine gskip ?_ | (refine gcond rfl (fun h => ?_) (fun h => ?_) <;> (first | exact h.elim | (exfalso; omega) | exact absurd h (by assumption) | exact absurd (by assumption) h | skip)) | refine gblk ?_ | refine gexit ?_)
     | (refine kN ?_; first | refine gthen ?_ | refine gnblk ?_)
     | (refine kR ?_; first | refine grs ?_ | refine grb ?_ | refine grl ?_ | refine grc ?_)
     | (refine kX ?_; first | refine gxs ?_ | refine gxb ?_ | refine gxn rfl ?_ | refine gxl ?_ | refine gxc ?_)
     | (refine kR ?_; refine gr rfl (rvT rfl rv0) (_) rfl Ent.nil ?_)
     | (refine Pre.mk ?_; first | exact True.intro | omega | ((repeat' (first | refine And.intro ?_ ?_ | exact True.intro | assumption | omega)); done) | (simp only [and_true, true_and, or_true, true_or]; first | done | omega))
     | (refine kD ?_; first | exact dm_none))
    refine gnl (j + 1) (by repeat (first | exact trivial | refine ⟨rfl, ?_⟩)) ?_ (by omega) (by omega)
    rw [← outB_step hk hlj, Int.toNat_natCast]
    exact (eb (eb Ent.nil))
  · obtain rfl : j = 32 := by omega
    have e : outB key 32 = key := by unfold outB; rw [List.take_of_length_le (by omega)]; simp
    rw [e] at hv ⊢
    repeat' (first
     | (refine kO ?_; first | refine gwd rfl rfl rfl ?_ rfl ?_ | refine gwn rfl ?_ rfl ?_ | refine gws rfl rfl ?_ (by omega) rfl ?_ | refine gwr rfl rfl ?_ (by omega) rfl ?_ | refine gwc rfl rfl rfl ?_ rfl ?_ | refine gneg rfl (by (try simp only [InR]); omega) rfl ?_ | refine gindex rfl rfl rfl rfl rfl (by omega) rfl rfl (fun _ => ?_) | refine gcb2 rfl rfl rfl rfl rfl (by omega) rfl (fun _ => ?_) | refine gcb rfl rfl rfl rfl (by omega) rfl (fun _ => ?_) | refine gcopyb rfl rfl rfl rfl rfl rfl (by omega) rfl (fun _ => ?_) (fun _ => ?_) | refine gv rfl rfl ?_ | refine gnil ?_ | refine gl rfl (lvb rfl rfl) rfl (fun _ => ?_) | refine gl rfl (lvB rfl rfl rfl) rfl (fun _ => ?_) | refine gl rfl (lve rfl rfl) rfl (fun _ => ?_) | refine gl rfl (lvE rfl rfl rfl) rfl (fun _ => ?_) | refine gl rfl (lva rfl rfl rfl rfl rfl) rfl (fun _ => ?_) | refine gl rfl (lvn rfl rfl rfl (by omega)) rfl (fun _ => ?_) | refine gl rfl (lvK rfl) rfl (fun _ => ?_) | refine gp rfl (by (try simp only [InR]); omega) rfl ?_ | refine gf rfl rfl rfl ?_ | refine gix rfl rfl rfl rfl (by omega) rfl (fun _ => ?_) | refine gixa rfl rfl rfl rfl (by omega) rfl (fun _ => ?_) | (refine kK ?_; first | refine gcall rfl ?_ rfl (fun _ _ => ?_) (fun _ _ => ?_) | refine gcv rfl rfl ?_ rfl (fun _ _ => ?_) (fun _ _ => ?_) | refine gcc1 rfl rfl ?_ rfl (fun _ _ => ?_) (fun _ _ => ?_)) | refine geql rfl rfl (by kernel_rfl) ?_ rfl ?_ | refine gneq rfl rfl (by kernel_rfl) ?_ rfl ?_ | refine gx rfl rfl (fun _ => ?_) (fun _ => ?_) | refine ga rfl (fun _ => ?_) (fun _ => ?_) | refine gst rfl rfl rfl rfl ?_ ?_ | refine ge rfl rfl rfl rfl ?_ ?_ | refine gea rfl rfl rfl rfl rfl rfl rfl ?_ ?_ | refine gw rfl rfl ?_)
     | (refine kC ?_; first | refine gseq ?_ | refine greg ?_ | refine gret ?_ | refine gskip ?_ | (refine gcond rfl (fun h => ?_) (fun h => ?_) <;> (first | exact h.elim | (exfalso; omega) | exact absurd h (by assumption) | exact absurd (by assumption) h | skip)) | refine gblk ?_ | refine gexit ?_)
     | (refine kN ?_; first | refine gthen ?_ | refine gnblk ?_)
     | (refine kR ?_; first | refine grs ?_ | refine grb ?_ | refine grl ?_ | refine grc ?_)
     | (refine kX ?_; first | refine gxs ?_ | refine gxb ?_ | refine gxn rfl ?_ | refine gxl ?_ | refine gxc ?_)
     | (refine kR ?_; refine gr rfl (rvT rfl rv0) (_) rfl Ent.nil ?_)
     | (refine Pre.mk ?_; first | exact True.intro | omega | ((repeat' (first | refine And.intro ?_ ?_ | exact True.intro | assumption | omega)); done) | (simp only [and_true, true_and, or_true, true_or]; first | done | omega))
     | (refine kD ?_; first | exact dm_none))
    exact decide_eq_decide.2 ⟨fun h => ⟨hk, h⟩, And.right⟩
instance c_ref14_signed {keyA : Option Addr} {keyc keyn : Nat} {key : List UInt8} {sigA : Option Addr} {sigc sign : Nat} {sig : List UInt8} {ht : Int} {dg : List UInt8} {w0 : World} {X : Nat → Prop} {L : List Assn} [hkey : Rw w0 X L (.slice keyA keyn keyc) RB key] [hsig : Rw w0 X L (.slice sigA sign sigc) RB sig] [hdg : LenIs dg 32] : Ctr Tryd.prog 77 [.slice keyA keyn keyc, .slice sigA sign sigc, Ag [.one (.int .u32 ht), .blk 32 (RB.all dg)]] w0 X L (True) (fun _ : Unit => .bool (decide (key.length = 32 ∧ lampE key dg sig = 0))) (fun _ : Unit => L) (fun _ : Unit => True) :=
  ctr' (M' := (fun _ : Unit => [])) (by kernel_rfl) (fun hp w hw => by have ekey := hkey.len hw; subst ekey; have esig := hsig.len hw; subst esig; exact ref14_signed _ _ _ _ _ _ _ _ w (hkey.get w hw) (hsig.get w hw)) (by rintro hp e0 rfl ok; exact ⟨(), rfl, rfl, trivial⟩)
end Go.Proofs.YtkjpemkankefnaaDoor
