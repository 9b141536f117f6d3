/-
  PLAIN FUNCTIONS: the hash of layer 2; no Go in sight.
-/
import Derived.Test.YtalainpmlonahaaDoorMc
import Derived.Test.YtalainpmlonahaaDoorVtypes
set_option linter.all false
set_option maxRecDepth 100000
set_option maxHeartbeats 4000000
namespace Go.Proofs.YtalainpmlonahaaDoor

def turnW (x : UInt32) (n : Int) : UInt32 := shrW x n.toNat ||| shlW x (32 - n).toNat
def sg0 (x : UInt32) : UInt32 := turnW x 7 ^^^ turnW x 18 ^^^ shrW x (Int.toNat 3)
def sg1 (x : UInt32) : UInt32 := turnW x 17 ^^^ turnW x 19 ^^^ shrW x (Int.toNat 10)
def su0 (x : UInt32) : UInt32 := turnW x 2 ^^^ turnW x 13 ^^^ turnW x 22
def su1 (x : UInt32) : UInt32 := turnW x 6 ^^^ turnW x 11 ^^^ turnW x 25
def chW (e f g : UInt32) : UInt32 := e &&& f ^^^ ~~~e &&& g
def majW (a b c : UInt32) : UInt32 := a &&& b ^^^ a &&& c ^^^ b &&& c
def shaB : List UInt32 := [u32 1779033703, u32 3144134277, u32 1013904242, u32 2773480762, u32 1359893119, u32 2600822924, u32 528734635, u32 1541459225]
def shaK : List UInt32 := [u32 1116352408, u32 1899447441, u32 3049323471, u32 3921009573, u32 961987163, u32 1508970993, u32 2453635748, u32 2870763221, u32 3624381080, u32 310598401, u32 607225278, u32 1426881987, u32 1925078388, u32 2162078206, u32 2614888103, u32 3248222580, u32 3835390401, u32 4022224774, u32 264347078, u32 604807628, u32 770255983, u32 1249150122, u32 1555081692, u32 1996064986, u32 2554220882, u32 2821834349, u32 2952996808, u32 3210313671, u32 3336571891, u32 3584528711, u32 113926993, u32 338241895, u32 666307205, u32 773529912, u32 1294757372, u32 1396182291, u32 1695183700, u32 1986661051, u32 2177026350, u32 2456956037, u32 2730485921, u32 2820302411, u32 3259730800, u32 3345764771, u32 3516065817, u32 3600352804, u32 4094571909, u32 275423344, u32 430227734, u32 506948616, u32 659060556, u32 883997877, u32 958139571, u32 1322822218, u32 1537002063, u32 1747873779, u32 1955562222, u32 2024104815, u32 2227730452, u32 2361852424, u32 2428436474, u32 2756734187, u32 3204031479, u32 3329325298]
instance : LenIs shaB 8 := ⟨rfl⟩
instance : LenIs shaK 64 := ⟨rfl⟩
/-! the words of a block -/
def accW (b : List UInt8) (i : Nat) (x : UInt32) : Nat → UInt32
  | 0 => x
  | j + 1 => shlW (accW b i x j) (Int.toNat 8) ||| (ixd b (4 * (i : Int) + (j : Int))).toUInt32
theorem or_add (a : UInt32) (y : UInt8) : shlW a (Int.toNat 8) ||| y.toUInt32 = u32 256 * a + y.toUInt32 := by
  apply UInt32.toBitVec_inj.1
  have hy := y.toNat_lt
  have h1 : (shlW a 8).toBitVec = a.toBitVec <<< 8 := rfl
  have h2 : (u32 256).toBitVec = 256#32 := by decide
  have h3 : 256#32 * a.toBitVec = a.toBitVec <<< 8 := by
    rw [BitVec.shiftLeft_eq_mul_twoPow, BitVec.mul_comm]
    congr 1
  show (shlW a 8).toBitVec ||| y.toUInt32.toBitVec = (u32 256).toBitVec * a.toBitVec + y.toUInt32.toBitVec
  rw [h1, h2, h3, BitVec.add_eq_or_of_and_eq_zero]
  apply BitVec.eq_of_getLsbD_eq
  intro i hi
  simp only [BitVec.getLsbD_and, BitVec.getLsbD_shiftLeft, BitVec.getLsbD_zero]
  by_cases h : i < 8
  · simp [h]
  · have : y.toBitVec.getLsbD i = false := BitVec.getLsbD_of_ge _ _ (by omega)
    simp [this]
def wStep (b : List UInt8) (i : Nat) (w : List UInt32) : List UInt32 :=
  if i < 16 then w.set i (accW b i (ixd w i) 4) else w.set i (ixd w ((i : Int) - 16) + ixd w ((i : Int) - 7) + sg0 (ixd w ((i : Int) - 15)) + sg1 (ixd w ((i : Int) - 2)))
def schW (b : List UInt8) : Nat → List UInt32
  | 0 => List.replicate 64 (u32 0)
  | i + 1 => wStep b i (schW b i)
theorem wStep_len {b : List UInt8} {i : Nat} {w : List UInt32} : (wStep b i w).length = w.length := by unfold wStep; split <;> simp
theorem schW_len (b : List UInt8) : ∀ i, (schW b i).length = 64
  | 0 => by simp [schW]
  | i + 1 => by rw [schW, wStep_len, schW_len b i]
instance {b : List UInt8} {i : Nat} : LenIs (schW b i) 64 := ⟨schW_len b i⟩
/-! rounds -/
structure V8 where
  a : UInt32
  b : UInt32
  c : UInt32
  d : UInt32
  e : UInt32
  f : UInt32
  g : UInt32
  h : UInt32
def V8.l (v : V8) : List UInt32 := [v.a, v.b, v.c, v.d, v.e, v.f, v.g, v.h]
instance {v : V8} : LenIs v.l 8 := ⟨rfl⟩
def V8.of (l : List UInt32) : V8 := ⟨ixd l 0, ixd l 1, ixd l 2, ixd l 3, ixd l 4, ixd l 5, ixd l 6, ixd l 7⟩
theorem V8.of_l {l : List UInt32} (h : l.length = 8) : (V8.of l).l = l := by
  match l, h with
  | [a, b, c, d, e, f, g, h], _ => rfl
def rT (k w : UInt32) (v : V8) : UInt32 := v.h + su1 v.e + chW v.e v.f v.g + k + w
def rU (v : V8) : UInt32 := su0 v.a + majW v.a v.b v.c
def rdV (k w : UInt32) (v : V8) : V8 := ⟨rT k w v + rU v, v.a, v.b, v.c, v.d + rT k w v, v.e, v.f, v.g⟩
def rds (w : List UInt32) (v : V8) : Nat → V8
  | 0 => v
  | i + 1 => rdV (ixd shaK i) (ixd w i) (rds w v i)
def addV (s v : List UInt32) : List UInt32 := List.zipWith (· + ·) s v
/-- a block -/
def rndW (s : List UInt32) (b : List UInt8) : List UInt32 := addV s (rds (schW b 64) (V8.of s) 64).l
theorem rndW_len {s : List UInt32} {b : List UInt8} (h : s.length = 8) : (rndW s b).length = 8 := by simp [rndW, addV, h, V8.l]
instance {s : List UInt32} {b : List UInt8} [h : LenIs s 8] : LenIs (rndW s b) 8 := ⟨rndW_len h.h⟩
/-- the first so many of a sum -/
def addF (s v : List UInt32) (i : Nat) : List UInt32 := (addV s v).take i ++ s.drop i
theorem addF_len {s v : List UInt32} {i : Nat} (hs : s.length = 8) (hv : v.length = 8) (hi : i ≤ 8) : (addF s v i).length = 8 := by simp [addF, addV, hs, hv]; omega
theorem addF_step {s v : List UInt32} {i : Nat} (hs : s.length = 8) (hv : v.length = 8) (hi : i < 8) : (addF s v i).set i (ixd (addF s v i) (i : Int) + ixd v (i : Int)) = addF s v (i + 1) := by
  match s, hs with
  | [s0, s1, s2, s3, s4, s5, s6, s7], _ =>
    match v, hv with
    | [v0, v1, v2, v3, v4, v5, v6, v7], _ =>
      match i, hi with
      | 0, _ => rfl
      | 1, _ => rfl
      | 2, _ => rfl
      | 3, _ => rfl
      | 4, _ => rfl
      | 5, _ => rfl
      | 6, _ => rfl
      | 7, _ => rfl
theorem addF_all {s v : List UInt32} (hs : s.length = 8) (hv : v.length = 8) : addF s v 8 = addV s v := by
  have : (addV s v).length = 8 := by simp [addV, hs, hv]
  rw [addF, List.take_of_length_le (by omega), List.drop_eq_nil_of_le (by omega), List.append_nil]
theorem addV_comm (s v : List UInt32) : addV s v = addV v s := by
  unfold addV
  rw [List.zipWith_comm]
  congr 1
  funext a b
  exact UInt32.add_comm b a
/-! padding -/
def highL (n : Int) (many : Nat) : List UInt8 := (List.range many).map fun i => u8 (n / 2 ^ (8 * (many - 1 - i)))
theorem highL_len (n : Int) (many : Nat) : (highL n many).length = many := by simp [highL]
def padN (n : Nat) : Nat := (119 - n % 64) % 64
def padL (l : List UInt8) : List UInt8 := l ++ [u8 128] ++ List.replicate (padN l.length) (u8 0) ++ highL (8 * (l.length : Int)) 8
theorem padL_len (l : List UInt8) : (padL l).length = l.length + 1 + padN l.length + 8 := by simp only [padL, List.length_append, highL_len, List.length_replicate, List.length_singleton]
theorem padL_64 (l : List UInt8) : (padL l).length % 64 = 0 := by rw [padL_len]; unfold padN; omega
/-! the sum -/
def blkW (p : List UInt8) (i : Nat) : List UInt8 := padT 64 ((p.drop (64 * i)).take 64)
def sumW (p : List UInt8) : Nat → List UInt32
  | 0 => shaB
  | i + 1 => rndW (sumW p i) (blkW p i)
theorem sumW_len (p : List UInt8) : ∀ i, (sumW p i).length = 8
  | 0 => rfl
  | i + 1 => by rw [sumW, rndW_len (sumW_len p i)]
instance {p : List UInt8} {i : Nat} : LenIs (sumW p i) 8 := ⟨sumW_len p i⟩
def outW (s : List UInt32) : List UInt8 := s.flatMap fun x => highL (x.toNat : Int) 4
theorem outW_len (s : List UInt32) : (outW s).length = 4 * s.length := by
  induction s with
  | nil => rfl
  | cons x r ih => simp only [outW, List.flatMap_cons, List.length_append, List.length_cons, highL_len] at ih ⊢; omega
def shaL (l : List UInt8) : List UInt8 := outW (sumW (padL l) ((padL l).length / 64))
theorem shaL_len (l : List UInt8) : (shaL l).length = 32 := by rw [shaL, outW_len, sumW_len]
def shaH (l : List UInt8) : Hsh := ⟨shaL l, shaL_len l⟩
def sha2 (l : List UInt8) : Hsh := shaH (shaH l).l
end Go.Proofs.YtalainpmlonahaaDoor
