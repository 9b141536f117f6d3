/-
  tx's reader: contracts that are lent the reader.
-/
import Derived.Test.YtalainpmlonahaaDoorVtx
import Derived.Test.YtalainpmlonahaaDoorVref07
set_option linter.all false
set_option maxRecDepth 100000
set_option maxHeartbeats 4000000
namespace Go.Proofs.YtalainpmlonahaaDoor
open Go.RowKit

instance : ZS Tryd.prog 130 [.one (.slice none 0 0), .one (.int .i64 0), .one (.int .i64 0), .one (.slice none 0 0), .one (.slice none 0 0), .one (.int .u32 0)] := ⟨by kernel_rfl, OkS.one.h.1⟩
abbrev rdB (g : Nat) (lA : Option Addr) (ln lc : Nat) (a e : Int) (iA : Option Addr) (ni ic : Nat) (oA : Option Addr) (no oc : Nat) (af : Int) : Assn := boxA g 130 [.one (.slice lA ln lc), .one (.int .i64 a), .one (.int .i64 e), .one (.slice iA ni ic), .one (.slice oA no oc), .one (.int .u32 af)]
theorem rd_i1 {l : List UInt8} {xs : List InK} {a : Int} (h : ¬ ptE l a = 0) : stepI l ⟨xs, a, 0⟩ = ⟨xs, a, ptE l a⟩ := by simp [stepI, h]
theorem rd_i2 {l : List UInt8} {xs : List InK} {a : Int} (h5 : ptE l a = 0) (h : ¬ rowE l (ptX l a) 3000 = 0) : stepI l ⟨xs, a, 0⟩ = ⟨xs, a, rowE l (ptX l a) 3000⟩ := by
  rw [(pt_ok h5).1] at h ⊢; simp [stepI, h5, h]
theorem rd_i3 {l : List UInt8} {gs : List InG} {s : Sv} {a : Int} (h5 : ptE l a = 0) (h : rowE l (ptX l a) 3000 = 0) : stepI l ⟨gs.map inK, a, 0⟩ = ⟨(gs ++ [(⟨ptH l a, ptN l a, ptT l a, rowL l (ptX l a) 3000, s⟩ : InG)]).map inK, rowX l (ptX l a) 3000, 0⟩ := by
  rw [(pt_ok h5).1] at h ⊢; simp [stepI, h5, h, inK]
theorem rd_o1 {l : List UInt8} {xs : List OutK} {a : Int} (h : ¬ goE l a = 0) : stepO l ⟨xs, a, 0⟩ = ⟨xs, a, goE l a⟩ := by simp [stepO, h]
theorem rd_o3 {l : List UInt8} {gs : List OutG} {s : Sv} {a : Int} (h : goE l a = 0) : stepO l ⟨gs.map outK, a, 0⟩ = ⟨(gs ++ [(⟨goV l a, goL l a, s⟩ : OutG)]).map outK, goX l a, 0⟩ := by simp [stepO, h, outK]
/-- one more input -/
theorem rd_in (g : Nat) (lA : Option Addr) (lc : Nat) (l : List UInt8) (a : Int) (si : Sv) (gi : List InG) (oA : Option Addr) (no' oc : Nat) (af : Int) (w0 : World) (Y : Nat → Prop) (hst : St w0 Y [rdB g lA l.length lc a 0 si.A gi.length si.c oA no' oc af, rw_ 74 RIn si gi.length gi, lot (gi.map inRow)] w0) (i_l : ∀ L, Rw w0 Y L (.slice lA l.length lc) RB l) (hp : l.length ≤ 140737488351232 ∧ InsN gi ∧ gi.length < 1000) :
    Ct Tryd.prog 74 [.pointer (some ⟨g, 0, none⟩)] w0 Y (fun _ : RdS InK × Sv × List InG => .tuple #[]) (fun (r : RdS InK × Sv × List InG) => [rdB g lA l.length lc r.1.next r.1.e r.2.1.A r.2.2.length r.2.1.c oA no' oc af, rw_ 74 RIn r.2.1 r.2.2.length r.2.2, lot (r.2.2.map inRow)])
      (fun (r : RdS InK × Sv × List InG) => r.1 = stepI l ⟨gi.map inK, a, 0⟩ ∧ r.2.2.map inK = r.1.xs ∧ InsN r.2.2) := by
  refine genter _ hst Tryd.func74 rfl rfl rfl rfl ?_
  repeat' (first
   | refine gdraw (id := 7) [0,1,2,3,4,5,6,7,8,9,10,11,12,13,14] (by kernel_rfl) (by kernel_rfl) rfl ?_
   | refine gdrawT (id := 0) (Od.of [0,1,2,3,4,5,6,7] (.fork 8 (Od.of [9,10,11,12,13,14,15,16] .nil) 13 (Od.of [8,9,10,11,12,14,15,16] .nil))) (by kernel_rfl) (by kernel_rfl) rfl ?_
   | refine gbs RIn rfl rfl rfl rfl rfl rfl (fun _ => ?_) (fun _ => ?_)
   | (refine z1 ?_; intros)
   | (refine z2 ?_ ?_ <;> first | exact zi | intro h | skip)
   | (refine kO ?_; refine zc ?_ ?_ <;> intros)
   | (refine kD ?_; exact dz))
  all_goals first
    | (rename_i h; exact gr rfl rv0 (⟨gi.map inK, a, ptE l a⟩, si, gi) rfl (eb (er (elot Ent.nil))) ⟨(rd_i1 h).symm, rfl, hp.2.1⟩)
    | (rename_i h; exact gr rfl rv0 (⟨gi.map inK, a, rowE l (ptX l a) 3000⟩, si, gi) rfl (eb (er (elot Ent.nil))) ⟨(rd_i2 (by assumption) h).symm, rfl, hp.2.1⟩)
    | skip
  all_goals
    rename_i s3 _ _ _ _ s'
    refine gnb rfl (⟨(gi ++ [(⟨ptH l a, ptN l a, ptT l a, rowL l (ptX l a) 3000, s3⟩ : InG)]).map inK, rowX l (ptX l a) 3000, 0⟩, s', gi ++ [(⟨ptH l a, ptN l a, ptT l a, rowL l (ptX l a) 3000, s3⟩ : InG)]) rfl ?_ ⟨(rd_i3 (by assumption) h).symm, rfl, InsN_snoc hp.2.1 (pt_b l _)⟩
    simp only [List.length_append, List.length_singleton, List.map_append, List.map_cons, List.map_nil]
    exact eb (er (elot1 Ent.nil))
/-- one more output -/
theorem rd_out (g : Nat) (lA : Option Addr) (lc : Nat) (l : List UInt8) (a : Int) (iA : Option Addr) (ni ic : Nat) (so : Sv) (go : List OutG) (af : Int) (w0 : World) (Y : Nat → Prop) (hst : St w0 Y [rdB g lA l.length lc a 0 iA ni ic so.A go.length so.c af, rw_ 52 ROut so go.length go, lot (go.map outRow)] w0) (i_l : ∀ L, Rw w0 Y L (.slice lA l.length lc) RB l) (hp : l.length ≤ 140737488351232 ∧ OutsN go ∧ go.length < 1000) :
    Ct Tryd.prog 75 [.pointer (some ⟨g, 0, none⟩)] w0 Y (fun _ : RdS OutK × Sv × List OutG => .tuple #[]) (fun (r : RdS OutK × Sv × List OutG) => [rdB g lA l.length lc r.1.next r.1.e iA ni ic r.2.1.A r.2.2.length r.2.1.c af, rw_ 52 ROut r.2.1 r.2.2.length r.2.2, lot (r.2.2.map outRow)])
      (fun (r : RdS OutK × Sv × List OutG) => r.1 = stepO l ⟨go.map outK, a, 0⟩ ∧ r.2.2.map outK = r.1.xs ∧ OutsN r.2.2) := by
  refine genter _ hst Tryd.func75 rfl rfl rfl rfl ?_
  repeat' (first
   | refine gdraw (id := 4) [0,1,2,3,4,5,6,7,8,9,10,11,12] (by kernel_rfl) (by kernel_rfl) rfl ?_
   | refine gdrawT (id := 0) (Od.of [0,1,2,3,4,5,6,7] (.fork 8 (Od.of [9,10,11,12,13,14,15,16] .nil) 13 (Od.of [8,9,10,11,12,14,15,16] .nil))) (by kernel_rfl) (by kernel_rfl) rfl ?_
   | refine gbs ROut rfl rfl rfl rfl rfl rfl (fun _ => ?_) (fun _ => ?_)
   | (refine z1 ?_; intros)
   | (refine z2 ?_ ?_ <;> first | exact zi | intro h | skip)
   | (refine kO ?_; refine zc ?_ ?_ <;> intros)
   | (refine kD ?_; exact dz))
  all_goals first
    | (rename_i h; exact gr rfl rv0 (⟨go.map outK, a, goE l a⟩, so, go) rfl (eb (er (elot Ent.nil))) ⟨(rd_o1 h).symm, rfl, hp.2.1⟩)
    | skip
  all_goals
    have hbb := go_ok l a
    first
    | (rename_i s3 _ _ _ _ s'; refine gnb rfl (⟨(go ++ [(⟨goV l a, goL l a, s3⟩ : OutG)]).map outK, goX l a, 0⟩, s', go ++ [(⟨goV l a, goL l a, s3⟩ : OutG)]) rfl ?_ ⟨(rd_o3 h).symm, rfl, OutsN_snoc hp.2.1 ⟨hbb.1.1, Int.le_trans hbb.1.2 (by decide)⟩⟩)
    | (rename_i s3 _ _ _ _ _ s'; refine gnb rfl (⟨(go ++ [(⟨goV l a, goL l a, s3⟩ : OutG)]).map outK, goX l a, 0⟩, s', go ++ [(⟨goV l a, goL l a, s3⟩ : OutG)]) rfl ?_ ⟨(rd_o3 h).symm, rfl, OutsN_snoc hp.2.1 ⟨hbb.1.1, Int.le_trans hbb.1.2 (by decide)⟩⟩)
    simp only [List.length_append, List.length_singleton, List.map_append, List.map_cons, List.map_nil]
    exact eb (er (elot1 Ent.nil))
def aX (a e : Int) : Int := if e ≠ 0 then a else a + 4
def aE (l : List UInt8) (a e : Int) : Int := if e ≠ 0 then e else getE l a 4
def aA (l : List UInt8) (a e : Int) : Int := if e ≠ 0 then 0 else getN l a 4
/-- the rest -/
theorem rd_after (g : Nat) (lA : Option Addr) (lc : Nat) (l : List UInt8) (a e : Int) (iA : Option Addr) (ni ic : Nat) (oA : Option Addr) (no' oc : Nat) (w0 : World) (Y : Nat → Prop) (hst : St w0 Y [rdB g lA l.length lc a e iA ni ic oA no' oc 0] w0) (i_l : ∀ L, Rw w0 Y L (.slice lA l.length lc) RB l) (hp : l.length ≤ 140737488351232 ∧ (e = 0 → 0 ≤ a ∧ a ≤ 140737488351232)) :
    Ct Tryd.prog 76 [.pointer (some ⟨g, 0, none⟩)] w0 Y (fun _ : Unit => .tuple #[]) (fun _ : Unit => [rdB g lA l.length lc (aX a e) (aE l a e) iA ni ic oA no' oc (aA l a e)])
      (fun _ : Unit => True) := by
  refine genter _ hst Tryd.func76 rfl rfl rfl rfl ?_
  repeat' (first
   | refine gdraw (id := 1) [0,1,2,3,4,5,6,7,8,9,10,11,12,13] (by kernel_rfl) (by kernel_rfl) rfl ?_
   | (refine z1 ?_; intros)
   | (refine z2 ?_ ?_ <;> first | exact zi | intro h | skip)
   | (refine kN ?_; refine zn (()) ?_)
   | (refine kO ?_; refine zc ?_ ?_ <;> intros))
  · exact gr rfl rv0 () rfl (by simp only [aX, aE, aA, ne_eq, h, not_false_eq_true, if_true]; exact eb Ent.nil) trivial
  · subst h
    refine gnb rfl () rfl ?_ trivial
    rw [wu32 ⟨by omega, getN_4 l _⟩]
    simp only [aX, aE, aA, ne_eq, not_true_eq_false, if_false]
    exact eb Ent.nil
/-- a row that can be read in every state of the caller: what a lent call needs -/
class RwA (w0 : World) (X : Nat → Prop) (v : Value) {G : outParam Type} (R : outParam (Rep G)) (gs : outParam (List G)) : Prop where
  h : ∀ L, Rw w0 X L v R gs
instance RwA.rw {w0 : World} {X : Nat → Prop} {v : Value} {G : Type} {R : Rep G} {gs : List G} {L : List Assn} [h : RwA w0 X v R gs] : Rw w0 X L v R gs := h.h L
section
variable {g : Nat} {lA iA oA : Option Addr} {lc ln ni ic no' oc : Nat} {l : List UInt8} {a e : Int} {si so : Sv} {gi : List InG} {go : List OutG} {af : Int} {w0 : World} {X : Nat → Prop} {L : List Assn} {rest : List Assn}
instance c_rd_in [hb : FBox L g 130 [.one (.slice lA ln lc), .one (.int .i64 a), .one (.int .i64 e), .one (.slice si.A ni si.c), .one (.slice oA no' oc), .one (.int .u32 af)]] [hr : FRow L si ni 74 RIn gi] [hl : RwA w0 X (.slice lA ln lc) RB l]
    [hs : Spl L [rdB g lA ln lc a e si.A ni si.c oA no' oc af, rw_ 74 RIn si ni gi, lot (gi.map inRow)] rest] : Ctr Tryd.prog 74 [.pointer (some ⟨g, 0, none⟩)] w0 X L (e = 0 ∧ ni = gi.length ∧ l.length ≤ 140737488351232 ∧ InsN gi ∧ ni < 1000)
    (fun _ : RdS InK × Sv × List InG => .tuple #[]) (fun r => rdB g lA ln lc r.1.next r.1.e r.2.1.A r.2.2.length r.2.1.c oA no' oc af :: rw_ 74 RIn r.2.1 r.2.2.length r.2.2 :: lot (r.2.2.map inRow) :: rest) (fun r => r.1 = stepI l ⟨gi.map inK, a, 0⟩ ∧ r.2.2.map inK = r.1.xs ∧ InsN r.2.2) :=
  ctrX (M := fun r : RdS InK × Sv × List InG => [rdB g lA ln lc r.1.next r.1.e r.2.1.A r.2.2.length r.2.1.c oA no' oc af, rw_ 74 RIn r.2.1 r.2.2.length r.2.2, lot (r.2.2.map inRow)]) hs (by kernel_rfl) fun hp w Y hst hY => by
    obtain ⟨rfl, rfl, h1, h2, h3⟩ := hp
    have el := (Rw.lent hl.h hY _).len hst; subst el
    exact rd_in _ _ _ _ _ _ _ _ _ _ _ _ _ hst (Rw.lent hl.h hY) ⟨h1, h2, h3⟩
instance c_rd_out [hb : FBox L g 130 [.one (.slice lA ln lc), .one (.int .i64 a), .one (.int .i64 e), .one (.slice iA ni ic), .one (.slice so.A no' so.c), .one (.int .u32 af)]] [hr : FRow L so no' 52 ROut go] [hl : RwA w0 X (.slice lA ln lc) RB l]
    [hs : Spl L [rdB g lA ln lc a e iA ni ic so.A no' so.c af, rw_ 52 ROut so no' go, lot (go.map outRow)] rest] : Ctr Tryd.prog 75 [.pointer (some ⟨g, 0, none⟩)] w0 X L (e = 0 ∧ no' = go.length ∧ l.length ≤ 140737488351232 ∧ OutsN go ∧ no' < 1000)
    (fun _ : RdS OutK × Sv × List OutG => .tuple #[]) (fun r => rdB g lA ln lc r.1.next r.1.e iA ni ic r.2.1.A r.2.2.length r.2.1.c af :: rw_ 52 ROut r.2.1 r.2.2.length r.2.2 :: lot (r.2.2.map outRow) :: rest) (fun r => r.1 = stepO l ⟨go.map outK, a, 0⟩ ∧ r.2.2.map outK = r.1.xs ∧ OutsN r.2.2) :=
  ctrX (M := fun r : RdS OutK × Sv × List OutG => [rdB g lA ln lc r.1.next r.1.e iA ni ic r.2.1.A r.2.2.length r.2.1.c af, rw_ 52 ROut r.2.1 r.2.2.length r.2.2, lot (r.2.2.map outRow)]) hs (by kernel_rfl) fun hp w Y hst hY => by
    obtain ⟨rfl, rfl, h1, h2, h3⟩ := hp
    have el := (Rw.lent hl.h hY _).len hst; subst el
    exact rd_out _ _ _ _ _ _ _ _ _ _ _ _ _ hst (Rw.lent hl.h hY) ⟨h1, h2, h3⟩
instance c_rd_after [hb : FBox L g 130 [.one (.slice lA ln lc), .one (.int .i64 a), .one (.int .i64 e), .one (.slice iA ni ic), .one (.slice oA no' oc), .one (.int .u32 0)]] [hl : RwA w0 X (.slice lA ln lc) RB l]
    [hs : Spl L [rdB g lA ln lc a e iA ni ic oA no' oc 0] rest] : Ctr Tryd.prog 76 [.pointer (some ⟨g, 0, none⟩)] w0 X L (l.length ≤ 140737488351232 ∧ (e = 0 → 0 ≤ a ∧ a ≤ 140737488351232))
    (fun _ : Unit => .tuple #[]) (fun _ => rdB g lA ln lc (aX a e) (aE l a e) iA ni ic oA no' oc (aA l a e) :: rest) (fun _ => True) :=
  ctrX (M := fun _ : Unit => [rdB g lA ln lc (aX a e) (aE l a e) iA ni ic oA no' oc (aA l a e)]) hs (by kernel_rfl) fun hp w Y hst hY => by
    have el := (Rw.lent hl.h hY _).len hst; subst el
    exact rd_after _ _ _ _ _ _ _ _ _ _ _ _ _ _ hst (Rw.lent hl.h hY) hp
end
theorem gI_len (l : List UInt8) (i : Int) : ∀ k, (gI l i k).xs.length ≤ k
  | 0 => Nat.le_refl _
  | k + 1 => by
    have ih := gI_len l i k
    show (stepI l (gI l i k)).xs.length ≤ k + 1
    unfold stepI; split
    · omega
    · split
      · simp; omega
      · split
        · simp; omega
        · simp; omega
theorem gO_len (l : List UInt8) (i : Int) : ∀ k, (gO l i k).xs.length ≤ k
  | 0 => Nat.le_refl _
  | k + 1 => by
    have ih := gO_len l i k
    show (stepO l (gO l i k)).xs.length ≤ k + 1
    unfold stepO; split
    · omega
    · split
      · simp; omega
      · simp; omega
/-- the inputs -/
def mI (l : List UInt8) (a : Int) : RdS InK := if countE l a ≠ 0 then ⟨[], a, countE l a⟩ else if 16 < countN l a then ⟨[], a, 3⟩ else gI l (countX l a) (countN l a).toNat
def mO (l : List UInt8) (a e : Int) : RdS OutK := if e ≠ 0 then ⟨[], a, e⟩ else if countE l a ≠ 0 then ⟨[], a, countE l a⟩ else if 16 < countN l a then ⟨[], a, 3⟩ else gO l (countX l a) (countN l a).toNat
theorem rd_manyI (g : Nat) (lA : Option Addr) (lc : Nat) (l : List UInt8) (a : Int) (w0 : World) (Y : Nat → Prop) (hst : St w0 Y [rdB g lA l.length lc a 0 none 0 0 none 0 0 0] w0) (a_l : RwA w0 Y (.slice lA l.length lc) RB l) (hp : l.length ≤ 140737488351232) :
    Ct Tryd.prog 73 [.pointer (some ⟨g, 0, none⟩), .int .u64 16, .func (.func 74) #[] #[]] w0 Y (fun _ : Sv × List InG => .tuple #[]) (fun r : Sv × List InG => [rdB g lA l.length lc (mI l a).next (mI l a).e r.1.A r.2.length r.1.c none 0 0 0, rw_ 74 RIn r.1 r.2.length r.2, lot (r.2.map inRow)])
      (fun r : Sv × List InG => r.2.map inK = (mI l a).xs ∧ InsN r.2) := by
  refine genter _ hst Tryd.func73 rfl rfl rfl rfl ?_
  repeat' (first
   | refine gdraw (id := 1) [0,1,2,3,4,5,6,7,8,9,10,11,12,13,14,15] (by kernel_rfl) (by kernel_rfl) rfl ?_
   | (refine z1 ?_; intros)
   | (refine z2 ?_ ?_ <;> first | exact zi | intro h | skip)
   | (refine kN ?_; refine zn (⟨_, _⟩, _) ?_)
   | (refine kO ?_; refine zc ?_ ?_ <;> intros))
  · have e0 : mI l a = ⟨[], a, countE l a⟩ := by simp [mI, h]
    exact gnb rfl (⟨none, 0⟩, []) rfl (by rw [e0]; exact eb (er0 (elot0 Ent.nil))) ⟨by rw [e0]; rfl, nofun⟩
  · have e0 : mI l a = ⟨[], a, 3⟩ := by unfold mI; rw [if_neg (by omega), if_pos h]
    exact gnb rfl (⟨none, 0⟩, []) rfl (by rw [e0]; exact eb (er0 (elot0 Ent.nil))) ⟨by rw [e0]; rfl, nofun⟩
  · rename_i hn hc
    obtain ⟨n, hnn⟩ := Int.eq_ofNat_of_zero_le hn.1
    have eM : mI l a = gI l (countX l a) n := by unfold mI; rw [if_neg (by omega), if_neg h, hnn]; rfl
    refine gloop3 [0, 2, 6] (fun (k : Nat) (s : Sv) (gi : List InG) K => (9, .int .u64 k) :: K) (fun k s gi => [rdB g lA l.length lc (gI l (countX l a) k).next (gI l (countX l a) k).e s.A gi.length s.c none 0 0 0, rw_ 74 RIn s gi.length gi, lot (gi.map inRow)]) (fun k s gi => k ≤ n ∧ gi.map inK = (gI l (countX l a) k).xs ∧ InsN gi) (fun k s gi => n - k) 0 ⟨none, 0⟩ [] rfl (by repeat (first | exact trivial | refine ⟨rfl, ?_⟩)) (by show Ent _ [rdB g lA l.length lc (countX l a) 0 none 0 0 none 0 0 0, rw_ 74 RIn ⟨none, 0⟩ 0 [], lot []]; exact eb (er0 (elot0 Ent.nil))) ⟨by omega, rfl, nofun⟩ (fun k s gi hi => ?_)
    obtain ⟨h1, h3, h4⟩ := hi
    have hl := gI_len l (countX l a) k
    have hl2 : gi.length = (gI l (countX l a) k).xs.length := by simpa using congrArg List.length h3
    by_cases hlt : k < n
    · by_cases he : (gI l (countX l a) k).e = 0
      · skip
        repeat' (first
         | refine gdraw (id := 1) [0,1,2,3,4,5,6,7,8,9,10,11,12,13,14,15] (by kernel_rfl) (by kernel_rfl) rfl ?_
         | (refine z1 ?_; intros)
         | (refine z2 ?_ ?_ <;> first | exact zi | intro h | skip)
         | (refine kN ?_; refine zn (⟨_, _⟩, _) ?_)
         | (refine kO ?_; refine zc ?_ ?_ <;> intros))
        rename_i r hr
        have hk : r.1 = gI l (countX l a) (k + 1) := by
          rw [hr.1]
          show stepI l _ = stepI l (gI l (countX l a) k)
          rw [h3, ← he]
        refine gnl3 (k + 1) r.2.1 r.2.2 (by repeat (first | exact trivial | refine ⟨rfl, ?_⟩)) ?_ ⟨by omega, by rw [hr.2.1, hk], hr.2.2⟩ (by omega)
        rw [← hk]
        exact eb (er (elot Ent.nil))
      · have eM2 : mI l a = gI l (countX l a) k := by rw [eM, gI_stop he n h1]
        repeat' (first
         | refine gdraw (id := 1) [0,1,2,3,4,5,6,7,8,9,10,11,12,13,14,15] (by kernel_rfl) (by kernel_rfl) rfl ?_
         | (refine z1 ?_; intros)
         | (refine z2 ?_ ?_ <;> first | exact zi | intro h | skip)
         | (refine kN ?_; refine zn (⟨_, _⟩, _) ?_)
         | (refine kO ?_; refine zc ?_ ?_ <;> intros))
        exact gnb rfl (s, gi) rfl (by rw [eM2]; exact eb (er (elot Ent.nil))) ⟨by rw [eM2]; exact h3, h4⟩
    · obtain rfl : k = n := by omega
      repeat' (first
       | refine gdraw (id := 1) [0,1,2,3,4,5,6,7,8,9,10,11,12,13,14,15] (by kernel_rfl) (by kernel_rfl) rfl ?_
       | (refine z1 ?_; intros)
       | (refine z2 ?_ ?_ <;> first | exact zi | intro h | skip)
       | (refine kN ?_; refine zn (⟨_, _⟩, _) ?_)
       | (refine kO ?_; refine zc ?_ ?_ <;> intros))
      exact gnb rfl (s, gi) rfl (by rw [eM]; exact eb (er (elot Ent.nil))) ⟨by rw [eM]; exact h3, h4⟩
theorem rd_manyO (g : Nat) (lA : Option Addr) (lc : Nat) (l : List UInt8) (a e : Int) (iA : Option Addr) (ni ic : Nat) (w0 : World) (Y : Nat → Prop) (hst : St w0 Y [rdB g lA l.length lc a e iA ni ic none 0 0 0] w0) (a_l : RwA w0 Y (.slice lA l.length lc) RB l) (hp : l.length ≤ 140737488351232) :
    Ct Tryd.prog 73 [.pointer (some ⟨g, 0, none⟩), .int .u64 16, .func (.func 75) #[] #[]] w0 Y (fun _ : Sv × List OutG => .tuple #[]) (fun r : Sv × List OutG => [rdB g lA l.length lc (mO l a e).next (mO l a e).e iA ni ic r.1.A r.2.length r.1.c 0, rw_ 52 ROut r.1 r.2.length r.2, lot (r.2.map outRow)])
      (fun r : Sv × List OutG => r.2.map outK = (mO l a e).xs ∧ OutsN r.2) := by
  refine genter _ hst Tryd.func73 rfl rfl rfl rfl ?_
  by_cases h0 : ¬ e = 0
  · skip
    repeat' (first
     | refine gdraw (id := 1) [0,1,2,3,4,5,6,7,8,9,10,11,12,13,14,15] (by kernel_rfl) (by kernel_rfl) rfl ?_
     | (refine z1 ?_; intros)
     | (refine z2 ?_ ?_ <;> first | exact zi | intro h | skip)
     | (refine kN ?_; refine zn (⟨_, _⟩, _) ?_)
     | (refine kO ?_; refine zc ?_ ?_ <;> intros))
    have e0 : mO l a e = ⟨[], a, e⟩ := by unfold mO; rw [if_pos h]
    exact gr rfl rv0 (⟨none, 0⟩, []) rfl (by rw [e0]; exact eb (er0 (elot0 Ent.nil))) ⟨by rw [e0]; rfl, nofun⟩
  obtain rfl : e = 0 := by omega
  clear h0
  repeat' (first
   | refine gdraw (id := 1) [0,1,2,3,4,5,6,7,8,9,10,11,12,13,14,15] (by kernel_rfl) (by kernel_rfl) rfl ?_
   | (refine z1 ?_; intros)
   | (refine z2 ?_ ?_ <;> first | exact zi | intro h | skip)
   | (refine kN ?_; refine zn (⟨_, _⟩, _) ?_)
   | (refine kO ?_; refine zc ?_ ?_ <;> intros))
  · have e0 : mO l a 0 = ⟨[], a, countE l a⟩ := by simp [mO, h]
    exact gnb rfl (⟨none, 0⟩, []) rfl (by rw [e0]; exact eb (er0 (elot0 Ent.nil))) ⟨by rw [e0]; rfl, nofun⟩
  · have e0 : mO l a 0 = ⟨[], a, 3⟩ := by unfold mO; rw [if_neg (by decide), if_neg (by omega), if_pos h]
    exact gnb rfl (⟨none, 0⟩, []) rfl (by rw [e0]; exact eb (er0 (elot0 Ent.nil))) ⟨by rw [e0]; rfl, nofun⟩
  · rename_i hn hc
    obtain ⟨n, hnn⟩ := Int.eq_ofNat_of_zero_le hn.1
    have eM : mO l a 0 = gO l (countX l a) n := by unfold mO; rw [if_neg (by decide), if_neg (by omega), if_neg h, hnn]; rfl
    refine gloop3 [0, 2, 6] (fun (k : Nat) (s : Sv) (gi : List OutG) K => (9, .int .u64 k) :: K) (fun k s gi => [rdB g lA l.length lc (gO l (countX l a) k).next (gO l (countX l a) k).e iA ni ic s.A gi.length s.c 0, rw_ 52 ROut s gi.length gi, lot (gi.map outRow)]) (fun k s gi => k ≤ n ∧ gi.map outK = (gO l (countX l a) k).xs ∧ OutsN gi) (fun k s gi => n - k) 0 ⟨none, 0⟩ [] rfl (by repeat (first | exact trivial | refine ⟨rfl, ?_⟩)) (by show Ent _ [rdB g lA l.length lc (countX l a) 0 iA ni ic none 0 0 0, rw_ 52 ROut ⟨none, 0⟩ 0 [], lot []]; exact eb (er0 (elot0 Ent.nil))) ⟨by omega, rfl, nofun⟩ (fun k s gi hi => ?_)
    obtain ⟨h1, h3, h4⟩ := hi
    have hl := gO_len l (countX l a) k
    have hl2 : gi.length = (gO l (countX l a) k).xs.length := by simpa using congrArg List.length h3
    by_cases hlt : k < n
    · by_cases he : (gO l (countX l a) k).e = 0
      · skip
        repeat' (first
         | refine gdraw (id := 1) [0,1,2,3,4,5,6,7,8,9,10,11,12,13,14,15] (by kernel_rfl) (by kernel_rfl) rfl ?_
         | (refine z1 ?_; intros)
         | (refine z2 ?_ ?_ <;> first | exact zi | intro h | skip)
         | (refine kN ?_; refine zn (⟨_, _⟩, _) ?_)
         | (refine kO ?_; refine zc ?_ ?_ <;> intros))
        rename_i r hr
        have hk : r.1 = gO l (countX l a) (k + 1) := by
          rw [hr.1]
          show stepO l _ = stepO l (gO l (countX l a) k)
          rw [h3, ← he]
        refine gnl3 (k + 1) r.2.1 r.2.2 (by repeat (first | exact trivial | refine ⟨rfl, ?_⟩)) ?_ ⟨by omega, by rw [hr.2.1, hk], hr.2.2⟩ (by omega)
        rw [← hk]
        exact eb (er (elot Ent.nil))
      · have eM2 : mO l a 0 = gO l (countX l a) k := by rw [eM, gO_stop he n h1]
        repeat' (first
         | refine gdraw (id := 1) [0,1,2,3,4,5,6,7,8,9,10,11,12,13,14,15] (by kernel_rfl) (by kernel_rfl) rfl ?_
         | (refine z1 ?_; intros)
         | (refine z2 ?_ ?_ <;> first | exact zi | intro h | skip)
         | (refine kN ?_; refine zn (⟨_, _⟩, _) ?_)
         | (refine kO ?_; refine zc ?_ ?_ <;> intros))
        exact gnb rfl (s, gi) rfl (by rw [eM2]; exact eb (er (elot Ent.nil))) ⟨by rw [eM2]; exact h3, h4⟩
    · obtain rfl : k = n := by omega
      repeat' (first
       | refine gdraw (id := 1) [0,1,2,3,4,5,6,7,8,9,10,11,12,13,14,15] (by kernel_rfl) (by kernel_rfl) rfl ?_
       | (refine z1 ?_; intros)
       | (refine z2 ?_ ?_ <;> first | exact zi | intro h | skip)
       | (refine kN ?_; refine zn (⟨_, _⟩, _) ?_)
       | (refine kO ?_; refine zc ?_ ?_ <;> intros))
      exact gnb rfl (s, gi) rfl (by rw [eM]; exact eb (er (elot Ent.nil))) ⟨by rw [eM]; exact h3, h4⟩
section
variable {g : Nat} {lA iA : Option Addr} {lc ln ni ic : Nat} {l : List UInt8} {a e : Int} {w0 : World} {X : Nat → Prop} {L : List Assn} {rest : List Assn}
instance c_rd_manyI [hb : FBox L g 130 [.one (.slice lA ln lc), .one (.int .i64 a), .one (.int .i64 0), .one (.slice none 0 0), .one (.slice none 0 0), .one (.int .u32 0)]] [hl : RwA w0 X (.slice lA ln lc) RB l]
    [hs : Spl L [rdB g lA ln lc a 0 none 0 0 none 0 0 0] rest] : Ctr Tryd.prog 73 [.pointer (some ⟨g, 0, none⟩), .int .u64 16, .func (.func 74) #[] #[]] w0 X L (l.length ≤ 140737488351232)
    (fun _ : Sv × List InG => .tuple #[]) (fun r => rdB g lA ln lc (mI l a).next (mI l a).e r.1.A r.2.length r.1.c none 0 0 0 :: rw_ 74 RIn r.1 r.2.length r.2 :: lot (r.2.map inRow) :: rest) (fun r => r.2.map inK = (mI l a).xs ∧ InsN r.2) :=
  ctrX (M := fun r : Sv × List InG => [rdB g lA ln lc (mI l a).next (mI l a).e r.1.A r.2.length r.1.c none 0 0 0, rw_ 74 RIn r.1 r.2.length r.2, lot (r.2.map inRow)]) hs (by kernel_rfl) fun hp w Y hst hY => by
    have el := (Rw.lent hl.h hY _).len hst; subst el
    exact rd_manyI _ _ _ _ _ _ _ hst ⟨Rw.lent hl.h hY⟩ hp
instance c_rd_manyO [hb : FBox L g 130 [.one (.slice lA ln lc), .one (.int .i64 a), .one (.int .i64 e), .one (.slice iA ni ic), .one (.slice none 0 0), .one (.int .u32 0)]] [hl : RwA w0 X (.slice lA ln lc) RB l]
    [hs : Spl L [rdB g lA ln lc a e iA ni ic none 0 0 0] rest] : Ctr Tryd.prog 73 [.pointer (some ⟨g, 0, none⟩), .int .u64 16, .func (.func 75) #[] #[]] w0 X L (l.length ≤ 140737488351232)
    (fun _ : Sv × List OutG => .tuple #[]) (fun r => rdB g lA ln lc (mO l a e).next (mO l a e).e iA ni ic r.1.A r.2.length r.1.c 0 :: rw_ 52 ROut r.1 r.2.length r.2 :: lot (r.2.map outRow) :: rest) (fun r => r.2.map outK = (mO l a e).xs ∧ OutsN r.2) :=
  ctrX (M := fun r : Sv × List OutG => [rdB g lA ln lc (mO l a e).next (mO l a e).e iA ni ic r.1.A r.2.length r.1.c 0, rw_ 52 ROut r.1 r.2.length r.2, lot (r.2.map outRow)]) hs (by kernel_rfl) fun hp w Y hst hY => by
    have el := (Rw.lent hl.h hY _).len hst; subst el
    exact rd_manyO _ _ _ _ _ _ _ _ _ _ _ hst ⟨Rw.lent hl.h hY⟩ hp
end
/-- all of a slice, its room cut off -/
theorem gfull {P : Program} {n : Nat} {w0 : World} {X : Nat → Prop} {Q : Cont} {E : Env} {L : List Assn} {s : Ms} {ops : Array Oper} {rest : List Oper} {d : Nat} {ty : TypeId} {pos : String} {aft : Array Edge} {x hi mx : Operand} {A : Option Addr} {m c sz : Nat} {kh km : IntKind} {h mm : Int} {t e : TypeId} {G : Type} {R : Rep G} {gs : List G}
    (hx : eev E x = some (.slice A m c)) (hh : eev E hi = some (.int kh h)) (hm : eev E mx = some (.int km mm)) (ht : P.underlying t = some (.slice e)) (hz : szB P e = some sz) [hR : Rw w0 X L (.slice A m c) R gs] (hb : h = m ∧ mm = m) (hd : Nat.blt d n = true)
    (kk : GO P n w0 X (nextM s) ops rest Q ((d, .slice A m m) :: E) L) : GO P n w0 X s ops (⟨some d, .slice t x none (some hi) (some mx), ty, pos, aft, none⟩ :: rest) Q E L := by
  obtain ⟨rfl, rfl⟩ := hb
  refine go_yld rfl (fun w hw => ⟨fun a w' ha => ?_⟩) hd kk
  have hcc : m ≤ c := by
    obtain ⟨A', c', e', h1, h2, h3, hr⟩ := hR.get w hw
    have := hR.len hw
    cases e'; omega
  have e0 : (if m = 0 then A else A.map (·.add 0)) = A := by
    split
    · rfl
    · cases A <;> simp [Addr.add_zero']
  simp [execOp, ha.ev hx, ha.ev hh, ha.ev hm, Instr.sliceAt, Instr.slice, Instr.sliceBounds, run_underlying ht, run_sizeOf hz, run_bound (show (0 : Int) ≤ m by omega) (show (m : Int) ≤ c by omega), run_bound (show (0 : Int) ≤ m by omega) (Int.le_refl (m : Int)), e0]
theorem Slr.full {G : Type} {w : World} {R : Rep G} {A : Option Addr} {m c : Nat} {gs : List G} (h : Slr w R (.slice A m c) gs) : Slr w R (.slice A m m) gs := by
  obtain ⟨A', c', e', h1, h2, h3, hr⟩ := h
  cases e'
  exact ⟨A, gs.length, rfl, h1, Nat.le_refl _, by omega, hr⟩
theorem mI_ok {l : List UInt8} {i : Int} (h1 : countE l i = 0) (h2 : ¬ 16 < countN l i) : mI l i = aI l i := by unfold mI aI; rw [if_neg (by omega), if_neg h2]
theorem mO_ok {l : List UInt8} {i : Int} (h0 : (aI l i).e = 0) (h1 : countE l (aI l i).next = 0) (h2 : ¬ 16 < countN l (aI l i).next) : mO l (aI l i).next 0 = aO l i := by unfold mO aO; rw [if_neg (by omega), if_neg (by omega), if_neg h2]
theorem aI_b {l : List UInt8} {i : Int} (h1 : countE l i = 0) (h0 : (aI l i).e = 0) : 0 ≤ i ∧ i ≤ (aI l i).next ∧ (aI l i).next ≤ l.length := by
  have a := countE_ok h1
  have b := gI_b (l := l) (i := countX l i) (by omega) _ h0
  unfold aI; omega
theorem aO_b {l : List UInt8} {i : Int} (h1 : countE l (aI l i).next = 0) (h0 : (aO l i).e = 0) : 0 ≤ (aI l i).next ∧ (aI l i).next ≤ (aO l i).next ∧ (aO l i).next ≤ l.length := by
  have a := countE_ok h1
  have b := gO_b (l := l) (i := countX l (aI l i).next) (by omega) _ h0
  unfold aO; omega
/-- the reader's way answers as the reference's way -/
theorem tx_law (l : List UInt8) (i : Int) : ((mO l (mI l i).next (mI l i).e).e = 0 → 0 ≤ (mO l (mI l i).next (mI l i).e).next ∧ (mO l (mI l i).next (mI l i).e).next ≤ l.length) ∧
    (aE l (mO l (mI l i).next (mI l i).e).next (mO l (mI l i).next (mI l i).e).e ≠ 0 → tgE l i = aE l (mO l (mI l i).next (mI l i).e).next (mO l (mI l i).next (mI l i).e).e) ∧
    (aE l (mO l (mI l i).next (mI l i).e).next (mO l (mI l i).next (mI l i).e).e = 0 → (mO l (mI l i).next (mI l i).e).e = 0 ∧ (mI l i).xs = (aI l i).xs ∧ mO l (mI l i).next (mI l i).e = aO l i ∧ (0 ≤ i ∧ i ≤ (aO l i).next ∧ (aO l i).next ≤ l.length) ∧ tgE l i = if 8000 < (aO l i).next + 4 - i then 3 else 0) := by
  by_cases h1 : countE l i = 0
  · by_cases h2 : 16 < countN l i
    · have e : mI l i = ⟨[], i, 3⟩ := by simp [mI, h1, h2]
      rw [e]; simp [mO, aE, tgE, h1, h2]
    · rw [mI_ok h1 h2]
      by_cases h3 : (aI l i).e = 0
      · rw [h3]
        by_cases h4 : countE l (aI l i).next = 0
        · by_cases h5 : 16 < countN l (aI l i).next
          · have e : mO l (aI l i).next 0 = ⟨[], (aI l i).next, 3⟩ := by simp [mO, h4, h5]
            rw [e]; simp [aE, tgE, h1, h2, h3, h4, h5]
          · rw [mO_ok h3 h4 h5]
            have b1 := aI_b h1 h3
            by_cases h6 : (aO l i).e = 0
            · have b2 := aO_b h4 h6
              by_cases h7 : getE l (aO l i).next 4 = 0
              · refine ⟨fun _ => by omega, fun h => absurd h (by simp [aE, h6, h7]), fun _ => ⟨h6, rfl, rfl, by omega, ?_⟩⟩
                simp [tgE, h1, h2, h3, h4, h5, h6, h7]
              · refine ⟨fun _ => by omega, fun h => ?_, fun h => absurd h (by simp [aE, h6, h7])⟩
                simp [tgE, aE, h1, h2, h3, h4, h5, h6, h7]
            · refine ⟨fun h => absurd h h6, fun h => ?_, fun h => absurd h (by simp [aE, h6])⟩
              simp [tgE, aE, h1, h2, h3, h4, h5, h6]
        · have e : mO l (aI l i).next 0 = ⟨[], (aI l i).next, countE l (aI l i).next⟩ := by simp [mO, h4]
          rw [e]; simp [aE, tgE, h1, h2, h3, h4]
      · have e : mO l (aI l i).next (aI l i).e = ⟨[], (aI l i).next, (aI l i).e⟩ := by simp [mO, h3]
        rw [e]; simp [aE, tgE, h1, h2, h3]
  · have e : mI l i = ⟨[], i, countE l i⟩ := by simp [mI, h1]
    rw [e]; simp [mO, aE, tgE, h1]
theorem tx_Get (lA : Option Addr) (lc : Nat) (l : List UInt8) (i : Int) (w0 : World) (hl : Slr w0 RB (.slice lA l.length lc) l) (hp : l.length ≤ 140737488351232) :
    Ct Tryd.prog 45 [.slice lA l.length lc, .int .i64 i] w0 no (fun (⟨⟨si, ni, gi, so, nn, go, af⟩, nx, e⟩ : TxV × Int × Int) => .tuple #[Ag [.one (.slice si.A ni si.c), .one (.slice so.A nn so.c), .one (.int .u32 af)], .int .i64 nx, .int .i64 e])
      (fun (⟨si, ni, gi, so, nn, go, af⟩, nx, e) => [rw_ 74 RIn si ni gi, lot (gi.map inRow), rw_ 52 ROut so nn go, lot (go.map outRow)])
      (fun (⟨si, ni, gi, so, nn, go, af⟩, nx, e) => (gi.map inK = tgI l i ∧ go.map outK = tgO l i ∧ af = tgA l i ∧ nx = tgX l i ∧ e = tgE l i) ∧ InsN gi ∧ OutsN go) := by
  have hst := St.start w0
  have i_l := Rw.old hl
  have a_l : RwA w0 no (.slice lA l.length lc) RB l := ⟨i_l⟩
  have a_f : RwA w0 no (.slice lA l.length l.length) RB l := ⟨Rw.old hl.full⟩
  obtain ⟨l1, l2, l3⟩ := tx_law l i
  refine genter _ hst Tryd.func45 rfl rfl rfl rfl ?_
  repeat' (first
   | refine gdraw (id := 8) [0,1,2,3,4,5,6,7] (by kernel_rfl) (by kernel_rfl) rfl ?_
   | refine gdraw (id := 9) [0,1,2,3,4,5,6,7,8,9,10] (by kernel_rfl) (by kernel_rfl) rfl ?_
   | refine gfull rfl rfl rfl rfl rfl ⟨rfl, rfl⟩ rfl ?_
   | (refine z1 ?_; intros)
   | (refine z2 ?_ ?_ <;> first | exact zi | intro h | skip)
   | (refine kO ?_; refine zc ?_ ?_ <;> intros)
   | (refine kD ?_; exact dz))
  · obtain ⟨q1, q2, q3, q4, q5⟩ := l3 (by assumption)
    have q1' : (aO l i).e = 0 := by rw [← q3]; exact q1
    have hx : aX (mO l (mI l i).next (mI l i).e).next (mO l (mI l i).next (mI l i).e).e = (aO l i).next + 4 := by rw [q3]; simp [aX, q1']
    have h8 : 8000 < IntKind.i64.wrap (aX (mO l (mI l i).next (mI l i).e).next (mO l (mI l i).next (mI l i).e).e - i) := by assumption
    rw [hx, w64 ⟨by omega, by omega⟩] at h8
    rw [if_pos h8] at q5
    refine gr rfl (rvC rfl (lvB rfl rfl rfl) (rvT rfl (rvT rfl rv0))) (⟨⟨none, 0⟩, 0, [], ⟨none, 0⟩, 0, [], _⟩, _, _) rfl (er0 (elot0 (er0 (elot0 Ent.nil)))) ?_
    exact ⟨tg_no (by decide) q5, nofun, nofun⟩
  · obtain ⟨q1, q2, q3, q4, q5⟩ := l3 (by assumption)
    have q1' : (aO l i).e = 0 := by rw [← q3]; exact q1
    have hx : aX (mO l (mI l i).next (mI l i).e).next (mO l (mI l i).next (mI l i).e).e = (aO l i).next + 4 := by rw [q3]; simp [aX, q1']
    have h8 : ¬ 8000 < IntKind.i64.wrap (aX (mO l (mI l i).next (mI l i).e).next (mO l (mI l i).next (mI l i).e).e - i) := by assumption
    rw [hx, w64 ⟨by omega, by omega⟩] at h8
    rw [if_neg h8] at q5
    rename_i r1 f1 r2 f2 _ _ _ _ _ _ _ _ _ _ _ _ _ _ _
    refine gr rfl (rvC rfl (lvB rfl rfl rfl) (rvT rfl (rvT rfl rv0))) (⟨r1.1, r1.2.length, r1.2, r2.1, r2.2.length, r2.2, _⟩, _, _) rfl (er (elot (er (elot Ent.nil)))) ?_
    refine ⟨⟨?_, ?_, ?_, ?_, ?_⟩, f1.2, f2.2⟩
    · unfold tgI; rw [if_pos q5, f1.1, q2]
    · unfold tgO; rw [if_pos q5, f2.1, q3]
    · unfold tgA; rw [if_pos q5, q3]; simp [aA, q1']
    · unfold tgX; rw [if_pos q5]; exact hx
    · exact q5.symm
  · refine gr rfl (rvC rfl (lvB rfl rfl rfl) (rvT rfl (rvT rfl rv0))) (⟨⟨none, 0⟩, 0, [], ⟨none, 0⟩, 0, [], _⟩, _, _) rfl (er0 (elot0 (er0 (elot0 Ent.nil)))) ?_
    exact ⟨tg_no h (l2 h), nofun, nofun⟩
instance c_tx_Get {lA : Option Addr} {lc ln : Nat} {l : List UInt8} {i : Int} {w0 : World} {X : Nat → Prop} {L : List Assn} [hl : Rw w0 X L (.slice lA ln lc) RB l] : Ctr Tryd.prog 45 [.slice lA ln lc, .int .i64 i] w0 X L (l.length ≤ 140737488351232) (fun r : TxM => .tuple #[Ag [.one (.slice r.si.A r.gi.length r.si.c), .one (.slice r.so.A r.go.length r.so.c), .one (.int .u32 (tgA l i))], .int .i64 (tgX l i), .int .i64 (tgE l i)])
    (fun r : TxM => rw_ 74 RIn r.si r.gi.length r.gi :: lot (r.gi.map inRow) :: rw_ 52 ROut r.so r.go.length r.go :: lot (r.go.map outRow) :: L) (fun r : TxM => r.gi.map inK = tgI l i ∧ r.go.map outK = tgO l i ∧ InsN r.gi ∧ OutsN r.go) :=
  ctr' (M' := fun r : TxM => [rw_ 74 RIn r.si r.gi.length r.gi, lot (r.gi.map inRow), rw_ 52 ROut r.so r.go.length r.go, lot (r.go.map outRow)]) (by kernel_rfl) (fun hp w hw => by have el := hl.len hw; subst el; exact tx_Get _ _ _ _ w (hl.get w hw) hp) (by
    rintro hp ⟨⟨si, ni, gi, so, nn, go, af⟩, nx, e⟩ ⟨⟨h1, h2, rfl, rfl, rfl⟩, h3, h4⟩ ok
    cases ok.row; cases ok.tail.tail.row
    exact ⟨⟨si, gi, so, go, h3, h4⟩, rfl, rfl, h1, h2, h3, h4⟩)
end Go.Proofs.YtalainpmlonahaaDoor
