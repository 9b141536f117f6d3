/-
  THE SECOND ENGINE, third part: what operations yield, reckoned. No program in sight.
-/
import Derived.Test.YtkjpemkankefnaaDoorNb
import Derived.Laws.Cover3
set_option linter.unusedVariables false
namespace Go.Proofs.YtkjpemkankefnaaDoor
open Go.RowKit

def kbeq : IntKind → IntKind → Bool
  | .i8, .i8 | .i16, .i16 | .i32, .i32 | .i64, .i64 | .u8, .u8 | .u16, .u16 | .u32, .u32 | .u64, .u64 => true
  | _, _ => false
theorem kbeq_eq {a b : IntKind} (h : kbeq a b = true) : a = b := by cases a <;> cases b <;> first | rfl | cases h
def lo : IntKind → Int
  | .i8 => -128 | .i16 => -32768 | .i32 => -2147483648 | .i64 => -9223372036854775808 | _ => 0
/-- in the kind's range -/
@[reducible] def InR : IntKind → Int → Prop
  | .i8, x => -128 ≤ x ∧ x ≤ 127
  | .i16, x => -32768 ≤ x ∧ x ≤ 32767
  | .i32, x => -2147483648 ≤ x ∧ x ≤ 2147483647
  | .i64, x => -9223372036854775808 ≤ x ∧ x ≤ 9223372036854775807
  | .u8, x => 0 ≤ x ∧ x ≤ 255
  | .u16, x => 0 ≤ x ∧ x ≤ 65535
  | .u32, x => 0 ≤ x ∧ x ≤ 4294967295
  | .u64, x => 0 ≤ x ∧ x ≤ 18446744073709551615
theorem InR.wrap {k : IntKind} {x : Int} (h : InR k x) : k.wrap x = x := by
  cases k <;> simp only [InR] at h <;> simp only [IntKind.wrap, IntKind.signed, IntKind.bits] <;> (try simp) <;> omega
def cmpV (op : BinOp) (i j : Int) : Option Value :=
  match op with
  | .lss => some (.bool (decide (i < j)))
  | .leq => some (.bool (decide (i ≤ j)))
  | .gtr => some (.bool (decide (j < i)))
  | .geq => some (.bool (decide (j ≤ i)))
  | .eql => some (.bool (decide (i = j)))
  | .neq => some (.bool (!decide (i = j)))
  | _ => none
def bitV (op : BinOp) (k : IntKind) (i j : Int) : Option Value :=
  match op with
  | .and => some (.int k (bits .and k i j))
  | .or => some (.int k (bits .or k i j))
  | .xor => some (.int k (bits .xor k i j))
  | .andNot => some (.int k (bits .andNot k i j))
  | _ => none
def orV (a b : Option Value) : Option Value := match a with | some v => some v | none => b
def binV (P : Program) (op : BinOp) (t : TypeId) : Value → Value → Option Value
  | .int k i, .int k' j => bif kbeq k k' then orV (cmpV op i j) (bitV op k i j) else none
  | .pointer p, .pointer none => bif ptrB P t then (match op with | .eql => some (.bool p.isNone) | .neq => some (.bool (!p.isNone)) | _ => none) else none
  | .slice A _ _, .slice none 0 0 => match P.underlying t with | some (.slice _) => (match op with | .eql => some (.bool A.isNone) | .neq => some (.bool (!A.isNone)) | _ => none) | _ => none
  | .bool a, .bool b => match P.underlying t with | some .bool => (match op with | .eql => some (.bool (a == b)) | .neq => some (.bool (!(a == b))) | _ => none) | _ => none
  | _, _ => none
def fldB (P : Program) (s i : Nat) : Option Nat :=
  match P.underlying s with
  | some (.struct fs) => (match fs[i]? with | some f => (match szB P f.type with | some (_ + 1) => litO f.offset | _ => none) | none => none)
  | _ => none
def nthV : List Value → Nat → Option Value
  | [], _ => none
  | v :: _, 0 => some v
  | _ :: r, i + 1 => nthV r i
theorem nthV_eq : ∀ (l : List Value) (i : Nat), nthV l i = l[i]?
  | [], i => by simp [nthV]
  | v :: l, 0 => by simp [nthV]
  | v :: l, i + 1 => by simp [nthV, nthV_eq l i]
/-- what only computes: the value -/
def pv (P : Program) (E : Env) : Op → Option Value
  | .move x => eev E x
  | .assign x => eev E x
  | .nilCheck x => match eev E x with | some (.pointer (some p)) => some (.pointer (some p)) | _ => none
  | .extract x i => match eev E x with | some (.tuple vs) => nthV vs.toList i | _ => none
  | .pick c x y => match eev E c with | some (.bool true) => eev E x | some (.bool false) => eev E y | _ => none
  | .fieldAddr s x i => match eev E x with
    | some (.pointer (some ⟨g, o, none⟩)) => (match fldB P s i with | some off => (match litO (o + off) with | some m => some (.pointer (some ⟨g, m, none⟩)) | none => none) | none => none)
    | _ => none
  | .unOp .not _ x => match eev E x with | some (.bool b) => some (.bool (!b)) | _ => none
  | .binOp op t x y _ => match eev E x, eev E y with | some a, some b => binV P op t a b | _, _ => none
  | .call ⟨.builtin .len, args, ats⟩ => match args.toList, ats.toList with
    | [x], [t] => (match eev E x, P.underlying t with | some (.slice _ m _), some (.slice _) => some (.int .i64 m) | _, _ => none)
    | _, _ => none
  | .call ⟨.builtin .cap, args, ats⟩ => match args.toList, ats.toList with
    | [x], [t] => (match eev E x, P.underlying t with | some (.slice _ _ c), some (.slice _) => some (.int .i64 c) | _, _ => none)
    | _, _ => none
  | .sliceToArrayPointer t x => match eev E x, P.underlying t with | some (.slice A n _), some (.array m _) => bif Nat.ble m n then some (.pointer A) else none | _, _ => none
  | _ => none
section
variable {P : Program} {n : Nat} {E : Env} {v : Value} {d : Nat} {ty : TypeId} {pos : String} {aft : Array Edge} {op : Op}
theorem guard_slice (op : BinOp) (t : TypeId) (x y : Operand) (A B : Option Addr) (l c l' c' : Nat) (w : World) : (eqGuard op t x y (.slice A l c) (.slice B l' c')).run P w = .ok () w := by cases op <;> rfl
theorem guard_bool (op : BinOp) (t : TypeId) (x y : Operand) (a b : Bool) (w : World) : (eqGuard op t x y (.bool a) (.bool b)).run P w = .ok () w := by cases op <;> rfl
theorem y_bin2 {o : BinOp} {x y : Operand} {a b : Value} {t yt : TypeId} (hx : eev E x = some a) (hy : eev E y = some b) (hg : ∀ w, (eqGuard o t x y a b).run P w = .ok () w) (hr : ∀ w, (binOp o t a b).run P w = .ok v w) :
    Yld P n ⟨some d, .binOp o t x y yt, ty, pos, aft, none⟩ E v := ⟨fun a' w ha => by
  simp only [execOp, ha.ev hx, ha.ev hy, Sem.run_bind, hg, Result.andThen_ok, hr]; rfl⟩
theorem run_eqS {t : TypeId} {A B : Option Addr} {l c l' c' : Nat} {r : Bool} {w : World} (h : (Op.equal t (.slice A l c) (.slice B l' c')).run P w = .ok r w) : (binOp .eql t (.slice A l c) (.slice B l' c')).run P w = .ok (.bool r) w ∧ (binOp .neq t (.slice A l c) (.slice B l' c')).run P w = .ok (.bool (!r)) w := by
  constructor <;> simp [binOp, h]
theorem run_eqBo {t : TypeId} {a b : Bool} {r : Bool} {w : World} (h : (Op.equal t (.bool a) (.bool b)).run P w = .ok r w) : (binOp .eql t (.bool a) (.bool b)).run P w = .ok (.bool r) w ∧ (binOp .neq t (.bool a) (.bool b)).run P w = .ok (.bool (!r)) w := by
  constructor <;> simp [binOp, h]
theorem run_equalIn_bool {t : TypeId} {a b : Bool} {w : World} (m : Nat) (ht : P.underlying t = some .bool) : (Op.equalIn (m + 1) t (.bool a) (.bool b)).run P w = .ok (a == b) w := by
  simp only [Op.equalIn, Sem.run_bind, run_underlying ht, Result.andThen_ok]; rfl
theorem run_equal_bool {t : TypeId} {a b : Bool} {w : World} (ht : P.underlying t = some .bool) : (Op.equal t (.bool a) (.bool b)).run P w = .ok (a == b) w := run_equalIn_bool 9999 ht
theorem binV_ok {o : BinOp} {x y : Operand} {a b : Value} {t yt : TypeId} (hx : eev E x = some a) (hy : eev E y = some b) (h : binV P o t a b = some v) : Yld P n ⟨some d, .binOp o t x y yt, ty, pos, aft, none⟩ E v := by
  unfold binV at h
  split at h
  · rename_i k i k' j
    cases hk : kbeq k k' <;> rw [hk] at h
    · simp at h
    obtain rfl := kbeq_eq hk
    simp only [cond_true] at h
    unfold orV at h
    split at h
    · rename_i u hu
      cases h
      unfold cmpV at hu
      split at hu <;> cases hu
      · exact y_lss hx hy
      · exact y_leq hx hy
      · exact y_gtr hx hy
      · exact y_geq hx hy
      · exact y_eql hx hy
      · have := y_neq (P := P) (n := n) (d := d) (ty := ty) (pos := pos) (aft := aft) (t := t) (yt := yt) hx hy
        have e : (!decide (i = j)) = decide (i ≠ j) := by by_cases h : i = j <;> simp [h]
        rw [e]; exact this
    · unfold bitV at h
      split at h <;> cases h
      · exact y_and hx hy rfl
      · exact y_or hx hy rfl
      · exact y_xor hx hy rfl
      · exact y_andNot hx hy rfl
  · rename_i p
    cases hp : ptrB P t <;> rw [hp] at h
    · simp at h
    simp only [cond_true] at h
    split at h <;> cases h
    · exact y_eqlP hx hy hp
    · exact y_neqP hx hy hp
  · rename_i A l c
    split at h
    · rename_i e ht
      have hr : ∀ w, (Op.equal t (.slice A l c) (.slice none 0 0)).run P w = .ok A.isNone w := fun w => run_equal_slice_nil w t e A l c ht
      split at h <;> cases h
      · exact y_bin2 hx hy (guard_slice _ _ _ _ _ _ _ _ _ _) fun w => (run_eqS (hr w)).1
      · exact y_bin2 hx hy (guard_slice _ _ _ _ _ _ _ _ _ _) fun w => (run_eqS (hr w)).2
    · cases h
  · rename_i a b
    split at h
    · rename_i ht
      split at h <;> cases h
      · exact y_bin2 hx hy (guard_bool _ _ _ _ _ _) fun w => (run_eqBo (run_equal_bool ht)).1
      · exact y_bin2 hx hy (guard_bool _ _ _ _ _ _) fun w => (run_eqBo (run_equal_bool ht)).2
    · cases h
  · cases h
theorem pv_light {op : Op} (h : pv P E op = some v) : isLight op = true := by
  unfold pv at h
  split at h <;> first | rfl | cases h
theorem fldB_ok {s i off : Nat} (h : fldB P s i = some off) : ∃ fs f sz, P.underlying s = some (.struct fs) ∧ fs[i]? = some f ∧ litO f.offset = some off ∧ szB P f.type = some sz ∧ Nat.beq sz 0 = false := by
  unfold fldB at h
  split at h
  · rename_i fs hs
    split at h
    · rename_i f hf
      split at h
      · rename_i m hm; exact ⟨fs, f, m + 1, hs, hf, h, hm, rfl⟩
      · cases h
    · cases h
  · cases h
theorem y_field {x : Operand} {s i off : Nat} {p : Addr} (hx : eev E x = some (.pointer (some p))) (h : fldB P s i = some off) : Yld P n ⟨some d, .fieldAddr s x i, ty, pos, aft, none⟩ E (.pointer (some (p.add off))) := by
  obtain ⟨fs, f, sz, h1, h2, h3, h4, h5⟩ := fldB_ok h
  exact y_fieldAddr hx h1 h2 h3 h4 h5
theorem pv_ok (h : pv P E op = some v) : Yld P n ⟨some d, op, ty, pos, aft, none⟩ E v := by
  unfold pv at h
  split at h
  · exact y_move h
  · exact y_assign h
  · split at h <;> cases h
    rename_i hx; exact y_nilCheck hx
  · split at h <;> try (cases h; done)
    rename_i vs hx; exact y_extract hx (by rw [← Array.getElem?_toList, ← nthV_eq]; exact h)
  · split at h
    · rename_i hc; exact y_pick_t hc h
    · rename_i hc; exact y_pick_f hc h
    · cases h
  · split at h <;> try (cases h; done)
    rename_i g o hx
    split at h <;> try (cases h; done)
    rename_i off hf
    split at h <;> try (cases h; done)
    rename_i m hm
    cases h
    have := y_field (n := n) (d := d) (ty := ty) (pos := pos) (aft := aft) hx hf
    rwa [Addr.add_lit, litO_eq hm] at this
  · split at h <;> cases h
    rename_i hx; exact y_not hx
  · split at h <;> try (cases h; done)
    rename_i a b hx hy; exact binV_ok hx hy h
  · split at h <;> try (cases h; done)
    rename_i args ats _ _ x t h1 h2
    obtain ⟨al⟩ := args; obtain ⟨tl⟩ := ats
    replace h1 : al = [x] := h1
    replace h2 : tl = [t] := h2
    subst h1 h2
    split at h <;> cases h
    rename_i hx ht; exact y_len hx ht
  · split at h <;> try (cases h; done)
    rename_i args ats _ _ x t h1 h2
    obtain ⟨al⟩ := args; obtain ⟨tl⟩ := ats
    replace h1 : al = [x] := h1
    replace h2 : tl = [t] := h2
    subst h1 h2
    split at h <;> cases h
    rename_i hx ht; exact y_cap hx ht
  · split at h <;> try (cases h; done)
    rename_i A k c m e hx ht
    cases hb : Nat.ble m k <;> rw [hb] at h
    · simp at h
    simp at h; subst h
    exact y_sliceToArray hx ht (bleT hb)
  · cases h
/-- with something to be shown -/
def arV (op : BinOp) (k : IntKind) (i j : Int) : Option (Value × Prop) :=
  match op with
  | .add => some (.int k (i + j), InR k (i + j))
  | .sub => some (.int k (i - j), InR k (i - j))
  | .mul => some (.int k (i * j), InR k (i * j))
  | .quo => some (.int k (i / j), 0 ≤ i ∧ 0 < j ∧ InR k i)
  | .rem => some (.int k (i % j), 0 ≤ i ∧ 0 < j)
  | _ => none
def shV (op : BinOp) (k : IntKind) (i : Int) (m : Nat) : Option (Value × Prop) :=
  match op with
  | .shr => bif Nat.ble m k.bits then some (.int k (i / 2 ^ m), 0 ≤ i) else none
  | .shl => bif Nat.ble m k.bits then some (.int k (i * 2 ^ m), InR k (i * 2 ^ m)) else none
  | _ => none
def psh (E : Env) : Op → Option (Value × Prop)
  | .binOp op _ x y _ => match eev E x, eev E y with
    | some (.int k i), some (.int _ (.ofNat m)) => shV op k i m
    | _, _ => none
  | _ => none
def po (P : Program) (E : Env) : Op → Option (Value × Prop)
  | .binOp op _ x y _ => match eev E x, eev E y with
    | some (.int k i), some (.int k' j) => bif kbeq k k' then arV op k i j else none
    | _, _ => none
  | .convert s t x => match eev E x, P.underlying s, P.underlying t with
    | some (.int _ i), some _, some (.int k) => some (.int k i, InR k i)
    | _, _, _ => none
  | _ => none
theorem quo_ok {k : IntKind} {i j : Int} (h0 : 0 ≤ i) (h1 : 0 < j) (hi : InR k i) : k.wrap (i.tdiv j) = i / j := by
  have e : i.tdiv j = i / j := Int.tdiv_eq_ediv_of_nonneg h0
  rw [e]
  have h2 : 0 ≤ i / j := Int.ediv_nonneg h0 (by omega)
  have h3 : i / j ≤ i := Int.ediv_le_self _ h0
  refine InR.wrap ?_
  cases k <;> simp only [InR] at hi ⊢ <;> omega
theorem arV_ok {o : BinOp} {x y : Operand} {k : IntKind} {i j : Int} {t yt : TypeId} {φ : Prop} (hx : eev E x = some (.int k i)) (hy : eev E y = some (.int k j)) (h : arV o k i j = some (v, φ)) (hφ : φ) : Yld P n ⟨some d, .binOp o t x y yt, ty, pos, aft, none⟩ E v := by
  unfold arV at h
  split at h <;> cases h
  · exact y_add hx hy (InR.wrap hφ)
  · exact y_sub hx hy (InR.wrap hφ)
  · exact y_mul hx hy (InR.wrap hφ)
  · obtain ⟨a, b, c⟩ := hφ
    exact y_bin hx hy (by rw [binOp_quo]; simp only [Op.intDiv]; rw [if_neg (by omega), quo_ok a b c])
  · obtain ⟨a, b⟩ := hφ
    exact y_bin hx hy (by rw [binOp_rem]; simp only [Op.intDiv]; rw [if_neg (by omega), Int.tmod_eq_emod_of_nonneg a])
theorem shV_ok {o : BinOp} {x y : Operand} {k k' : IntKind} {i : Int} {m : Nat} {t yt : TypeId} {φ : Prop} (hx : eev E x = some (.int k i)) (hy : eev E y = some (.int k' (.ofNat m))) (h : shV o k i m = some (v, φ)) (hφ : φ) : Yld P n ⟨some d, .binOp o t x y yt, ty, pos, aft, none⟩ E v := by
  unfold shV at h
  split at h
  · cases hb : Nat.ble m k.bits <;> rw [hb] at h <;> simp only [cond_true, cond_false] at h <;> cases h
    refine y_shr hx hy (Int.natCast_nonneg m) ?_
    have : min (Int.ofNat m).toNat k.bits = m := by have := bleT hb; simp; omega
    rw [this, Int.fdiv_eq_ediv_of_nonneg _ (by exact_mod_cast Nat.zero_le _)]
  · cases hb : Nat.ble m k.bits <;> rw [hb] at h <;> simp only [cond_true, cond_false] at h <;> cases h
    refine y_shl hx hy (Int.natCast_nonneg m) ?_
    have : min (Int.ofNat m).toNat k.bits = m := by have := bleT hb; simp; omega
    rw [this]; exact InR.wrap hφ
  · cases h
theorem po_light {op : Op} {φ : Prop} (h : po P E op = some (v, φ)) : isLight op = true := by
  unfold po at h
  split at h <;> first | rfl | cases h
theorem psh_light {op : Op} {φ : Prop} (h : psh E op = some (v, φ)) : isLight op = true := by
  unfold psh at h
  split at h <;> first | rfl | cases h
theorem psh_ok {φ : Prop} (h : psh E op = some (v, φ)) (hφ : φ) : Yld P n ⟨some d, op, ty, pos, aft, none⟩ E v := by
  unfold psh at h
  split at h
  · split at h
    · rename_i k i k' m hx hy; exact shV_ok hx hy h hφ
    · cases h
  · cases h
theorem po_ok {φ : Prop} (h : po P E op = some (v, φ)) (hφ : φ) : Yld P n ⟨some d, op, ty, pos, aft, none⟩ E v := by
  unfold po at h
  split at h
  · split at h
    · rename_i k i k' j hx hy
      cases hk : kbeq k k' <;> rw [hk] at h
      · simp at h
      obtain rfl := kbeq_eq hk
      exact arV_ok hx hy h hφ
    · cases h
  · split at h <;> cases h
    rename_i hx hs ht; exact y_conv hx (by rw [hs]; rfl) ht (InR.wrap hφ)
  · cases h
@[reducible] def InSh : IntKind → Int → Prop
  | .i8, j | .u8, j => 0 ≤ j ∧ j ≤ 8
  | .i16, j | .u16, j => 0 ≤ j ∧ j ≤ 16
  | .i32, j | .u32, j => 0 ≤ j ∧ j ≤ 32
  | .i64, j | .u64, j => 0 ≤ j ∧ j ≤ 64
theorem InSh.min {k : IntKind} {j : Int} (h : InSh k j) : 0 ≤ j ∧ min j.toNat k.bits = j.toNat := by
  cases k <;> simp only [InSh] at h <;> simp only [IntKind.bits] <;> omega
/-- shifted by what is no numeral -/
def psv (E : Env) : Op → Option (Value × Prop)
  | .binOp .shr _ x y _ => match eev E x, eev E y with
    | some (.int k i), some (.int _ j) => some (.int k (i / 2 ^ j.toNat), 0 ≤ i ∧ InSh k j)
    | _, _ => none
  | .binOp .shl _ x y _ => match eev E x, eev E y with
    | some (.int k i), some (.int _ j) => some (.int k (i * 2 ^ j.toNat), InR k (i * 2 ^ j.toNat) ∧ InSh k j)
    | _, _ => none
  | _ => none
theorem psv_light {op : Op} {φ : Prop} (h : psv E op = some (v, φ)) : isLight op = true := by
  unfold psv at h
  split at h <;> first | rfl | cases h
theorem psv_ok {φ : Prop} (h : psv E op = some (v, φ)) (hφ : φ) : Yld P n ⟨some d, op, ty, pos, aft, none⟩ E v := by
  unfold psv at h
  split at h
  · split at h <;> cases h
    rename_i hx hy
    obtain ⟨h0, h1⟩ := hφ
    refine y_shr hx hy h1.min.1 ?_
    rw [h1.min.2, Int.fdiv_eq_ediv_of_nonneg _ (by exact_mod_cast Nat.zero_le _)]
  · split at h <;> cases h
    rename_i hx hy
    obtain ⟨h0, h1⟩ := hφ
    refine y_shl hx hy h1.min.1 ?_
    rw [h1.min.2]; exact InR.wrap h0
  · cases h
/-- wrapped round -/
def pw (P : Program) (E : Env) : Op → Option Value
  | .binOp op _ x y _ => match eev E x, eev E y with
    | some (.int k i), some (.int k' j) => bif kbeq k k' then (match op with | .add => some (.int k (k.wrap (i + j))) | .sub => some (.int k (k.wrap (i - j))) | .mul => some (.int k (k.wrap (i * j))) | _ => none) else none
    | _, _ => none
  | .convert s t x => match eev E x, P.underlying s, P.underlying t with
    | some (.int _ i), some _, some (.int k) => some (.int k (k.wrap i))
    | _, _, _ => none
  | _ => none
theorem pw_light {op : Op} (h : pw P E op = some v) : isLight op = true := by
  unfold pw at h
  split at h <;> first | rfl | cases h
theorem pw_ok (h : pw P E op = some v) : Yld P n ⟨some d, op, ty, pos, aft, none⟩ E v := by
  unfold pw at h
  split at h
  · split at h <;> try (cases h; done)
    rename_i k i k' j hx hy
    cases hk : kbeq k k' <;> rw [hk] at h
    · simp at h
    obtain rfl := kbeq_eq hk
    simp only [cond_true] at h
    split at h <;> cases h
    · exact y_add hx hy rfl
    · exact y_sub hx hy rfl
    · exact y_mul hx hy rfl
  · split at h <;> cases h
    rename_i hx hs ht; exact y_conv hx (by rw [hs]; rfl) ht rfl
  · cases h
/-- the byte of a number -/
def u8 (z : Int) : UInt8 := UInt8.ofNat (z % 256).toNat
theorem u8_wrap (z : Int) : IntKind.u8.wrap z = ((u8 z).toNat : Int) := by
  rw [IntKind.wrap_u8]
  simp only [u8, UInt8.toNat_ofNat']
  have : 0 ≤ z % 256 ∧ z % 256 < 256 := by omega
  omega
end

section
variable {P : Program} {n : Nat} {w0 : World} {X : Nat → Prop} {Q : Cont} {E : Env} {L L' : List Assn} {s : Ms} {ops : Array Oper} {rest : List Oper} {v : Value}
variable {d : Nat} {ty : TypeId} {pos : String} {aft : Array Edge} {op : Op}
theorem gv (h : pv P E op = some v) (hd : Nat.blt d n = true) (k : GO P n w0 X (nextM s) ops rest Q ((d, v) :: E) L) : GO P n w0 X s ops (⟨some d, op, ty, pos, aft, none⟩ :: rest) Q E L := go_yld (pv_light h) (fun _ _ => pv_ok h) hd k
theorem gp {φ : Prop} (h : po P E op = some (v, φ)) (hφ : φ) (hd : Nat.blt d n = true) (k : GO P n w0 X (nextM s) ops rest Q ((d, v) :: E) L) : GO P n w0 X s ops (⟨some d, op, ty, pos, aft, none⟩ :: rest) Q E L := go_yld (po_light h) (fun _ _ => po_ok h hφ) hd k
theorem gsh {φ : Prop} (h : psh E op = some (v, φ)) (hφ : φ) (hd : Nat.blt d n = true) (k : GO P n w0 X (nextM s) ops rest Q ((d, v) :: E) L) : GO P n w0 X s ops (⟨some d, op, ty, pos, aft, none⟩ :: rest) Q E L := go_yld (psh_light h) (fun _ _ => psh_ok h hφ) hd k
theorem gsv {φ : Prop} (h : psv E op = some (v, φ)) (hφ : φ) (hd : Nat.blt d n = true) (k : GO P n w0 X (nextM s) ops rest Q ((d, v) :: E) L) : GO P n w0 X s ops (⟨some d, op, ty, pos, aft, none⟩ :: rest) Q E L := go_yld (psv_light h) (fun _ _ => psv_ok h hφ) hd k
theorem gw (h : pw P E op = some v) (hd : Nat.blt d n = true) (k : GO P n w0 X (nextM s) ops rest Q ((d, v) :: E) L) : GO P n w0 X s ops (⟨some d, op, ty, pos, aft, none⟩ :: rest) Q E L := go_yld (pw_light h) (fun _ _ => pw_ok h) hd k
/-- to a byte -/
theorem gb {x : Operand} {k' : IntKind} {i : Int} {t t' : TypeId} (hx : eev E x = some (.int k' i)) (hs : (P.underlying t).isSome = true) (ht : P.underlying t' = some (.int .u8)) (hd : Nat.blt d n = true)
    (k : GO P n w0 X (nextM s) ops rest Q ((d, .int .u8 ((u8 i).toNat : Int)) :: E) L) : GO P n w0 X s ops (⟨some d, .convert t t' x, ty, pos, aft, none⟩ :: rest) Q E L := go_yld rfl (fun _ _ => y_conv hx hs ht (u8_wrap i)) hd k
/-- by an own lemma -/
theorem gy (h : Yld P n ⟨some d, op, ty, pos, aft, none⟩ E v) (hl : isLight op = true) (hd : Nat.blt d n = true) (k : GO P n w0 X (nextM s) ops rest Q ((d, v) :: E) L) : GO P n w0 X s ops (⟨some d, op, ty, pos, aft, none⟩ :: rest) Q E L := go_yld hl (fun _ _ => h) hd k
end
end Go.Proofs.YtkjpemkankefnaaDoor
