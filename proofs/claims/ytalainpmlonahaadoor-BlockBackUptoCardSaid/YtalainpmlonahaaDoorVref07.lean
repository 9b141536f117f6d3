/-
  moneyerref07: contracts.
-/
import Derived.Test.YtalainpmlonahaaDoorVref06
import Derived.Test.YtalainpmlonahaaDoorVtxP
import Derived.Test.YtalainpmlonahaaDoorVlib
set_option linter.all false
set_option maxRecDepth 100000
set_option maxHeartbeats 4000000
namespace Go.Proofs.YtalainpmlonahaaDoor
open Go.RowKit

theorem ref07_Same (i1A : Option Addr) (i1c : Nat) (i1 : List InG) (o1A : Option Addr) (o1c : Nat) (o1 : List OutG) (a1 : Int) (i2A : Option Addr) (i2c : Nat) (i2 : List InG) (o2A : Option Addr) (o2c : Nat) (o2 : List OutG) (a2 : Int) (w0 : World) (hi1 : Slr w0 RIn (.slice i1A i1.length i1c) i1) (q_i1 : InsP w0 i1) (ho1 : Slr w0 ROut (.slice o1A o1.length o1c) o1) (q_o1 : OutsP w0 o1) (hi2 : Slr w0 RIn (.slice i2A i2.length i2c) i2) (q_i2 : InsP w0 i2) (ho2 : Slr w0 ROut (.slice o2A o2.length o2c) o2) (q_o2 : OutsP w0 o2) (hp : InsN i1 ∧ InsN i2) :
    Ct Tryd.prog 28 [Ag [.one (.slice i1A i1.length i1c), .one (.slice o1A o1.length o1c), .one (.int .u32 a1)], Ag [.one (.slice i2A i2.length i2c), .one (.slice o2A o2.length o2c), .one (.int .u32 a2)]] w0 no (fun ((e0) : Bool) => .bool e0) (fun (e0) => []) (fun (e0) => e0 = decide (TxSame i1 o1 a1 i2 o2 a2)) := by
  have hst := St.start w0
  have i_i1 := Rw.old hi1
  have j_i1 := InsR.old q_i1
  have i_o1 := Rw.old ho1
  have j_o1 := OutsR.old q_o1
  have i_i2 := Rw.old hi2
  have j_i2 := InsR.old q_i2
  have i_o2 := Rw.old ho2
  have j_o2 := OutsR.old q_o2
  refine genter _ hst Tryd.func28 rfl rfl rfl rfl ?_
  obtain ⟨h3, h4⟩ := hp
  have hc1 := hi1.cap
  have hc2 := ho1.cap
  have n1 : i1.length ≠ i2.length → ¬ TxSame i1 o1 a1 i2 o2 a2 := fun h e => len_ne h e.2.1
  have n2 : o1.length ≠ o2.length → ¬ TxSame i1 o1 a1 i2 o2 a2 := fun h e => len_ne h e.2.2
  repeat' (first
   | refine gdraw (id := 6) [0,1,2,3,4,5,6,7,8,9,10,11,12,13,14,15,16,17,18,19,20,21,22,23,24,25,26,27,28] (by kernel_rfl) (by kernel_rfl) rfl ?_
   | refine gdraw (id := 11) [0,1,2,3,4,5,6,7,8,9,10,11,12,13,14,15,16,17,18,19,20,21,22,23,24,25,26,27,28] (by kernel_rfl) (by kernel_rfl) rfl ?_
   | (refine z1 ?_; intros)
   | (refine z2 ?_ ?_ <;> first | exact zi | intro h | skip)
   | (refine kR ?_; refine zr (_) ?_)
   | (refine kO ?_; refine zc ?_ ?_ <;> intros))
  · rw [decide_eq_false (n2 (by omega))]
  · refine gloopc [2, 3] (fun (i : Nat) K => (5, .int .i64 i) :: K) (fun i => i ≤ i1.length ∧ ∀ j, j < i → inK (ixd i1 (j : Int)) = inK (ixd i2 (j : Int))) (fun i => i1.length - i) 0 rfl (by repeat (first | exact trivial | refine ⟨rfl, ?_⟩)) (by simp) (fun i hi => ?_)
    by_cases hlt : i < i1.length
    · have ha := h3 (ixd i1 i) (ixd_mem ⟨by omega⟩ rfl)
      have hb := h4 (ixd i2 i) (ixd_mem (n := i2.length) ⟨by omega⟩ rfl)
      have n3 : inK (ixd i1 i) ≠ inK (ixd i2 i) → ¬ TxSame i1 o1 a1 i2 o2 a2 := fun h e => map_ixd_ne hlt (by omega) h e.2.1
      clear n1 n2
      repeat' (first
       | refine gdraw (id := 6) [0,1,2,3,4,5,6,7,8,9,10,11,12,13,14,15,16,17,18,19,20,21,22,23,24,25,26,27,28] (by kernel_rfl) (by kernel_rfl) rfl ?_
       | refine gdraw (id := 11) [0,1,2,3,4,5,6,7,8,9,10,11,12,13,14,15,16,17,18,19,20,21,22,23,24,25,26,27,28] (by kernel_rfl) (by kernel_rfl) rfl ?_
       | (refine z1 ?_; intros)
       | (refine z2 ?_ ?_ <;> first | exact zi | intro h | skip)
       | (refine kR ?_; refine zr (_) ?_)
       | (refine kO ?_; refine zc ?_ ?_ <;> intros))
      · rw [decide_eq_false (n3 (by grind [inK]))]
      · clear n3
        refine gnl (i + 1) (by repeat (first | exact trivial | refine ⟨rfl, ?_⟩)) (by repeat (first | exact Ent.nil | refine er ?_ | refine eb ?_)) ⟨by omega, fun j hj => ?_⟩ (by omega)
        by_cases e : j = i
        · subst e; grind [inK]
        · exact hi.2 j (by omega)
      · rw [decide_eq_false (n3 (by grind [inK]))]
    · obtain rfl : i = i1.length := by omega
      have hm := map_ixd (f := inK) (a := i1) (b := i2) (by omega) fun j hj => hi.2 j hj
      clear hi
      repeat' (first
       | refine gdraw (id := 6) [0,1,2,3,4,5,6,7,8,9,10,11,12,13,14,15,16,17,18,19,20,21,22,23,24,25,26,27,28] (by kernel_rfl) (by kernel_rfl) rfl ?_
       | refine gdraw (id := 11) [0,1,2,3,4,5,6,7,8,9,10,11,12,13,14,15,16,17,18,19,20,21,22,23,24,25,26,27,28] (by kernel_rfl) (by kernel_rfl) rfl ?_
       | (refine z1 ?_; intros)
       | (refine z2 ?_ ?_ <;> first | exact zi | intro h | skip)
       | (refine kR ?_; refine zr (_) ?_)
       | (refine kO ?_; refine zc ?_ ?_ <;> intros))
      refine gloopc [2, 3] (fun (i : Nat) K => (6, .int .i64 i) :: K) (fun i => i ≤ o1.length ∧ ∀ j, j < i → outK (ixd o1 (j : Int)) = outK (ixd o2 (j : Int))) (fun i => o1.length - i) 0 rfl (by repeat (first | exact trivial | refine ⟨rfl, ?_⟩)) (by simp) (fun i hi => ?_)
      by_cases hlt : i < o1.length
      · have n3 : outK (ixd o1 i) ≠ outK (ixd o2 i) → ¬ TxSame i1 o1 a1 i2 o2 a2 := fun h e => map_ixd_ne hlt (by omega) h e.2.2
        clear n1 n2
        repeat' (first
         | refine gdraw (id := 6) [0,1,2,3,4,5,6,7,8,9,10,11,12,13,14,15,16,17,18,19,20,21,22,23,24,25,26,27,28] (by kernel_rfl) (by kernel_rfl) rfl ?_
         | refine gdraw (id := 11) [0,1,2,3,4,5,6,7,8,9,10,11,12,13,14,15,16,17,18,19,20,21,22,23,24,25,26,27,28] (by kernel_rfl) (by kernel_rfl) rfl ?_
         | (refine z1 ?_; intros)
         | (refine z2 ?_ ?_ <;> first | exact zi | intro h | skip)
         | (refine kR ?_; refine zr (_) ?_)
         | (refine kO ?_; refine zc ?_ ?_ <;> intros))
        · rw [decide_eq_false (n3 (by grind [outK]))]
        · clear n3
          refine gnl (i + 1) (by repeat (first | exact trivial | refine ⟨rfl, ?_⟩)) (by repeat (first | exact Ent.nil | refine er ?_ | refine eb ?_)) ⟨by omega, fun j hj => ?_⟩ (by omega)
          by_cases e : j = i
          · subst e; grind [outK]
          · exact hi.2 j (by omega)
        · rw [decide_eq_false (n3 (by grind [outK]))]
      · obtain rfl : i = o1.length := by omega
        have hm2 := map_ixd (f := outK) (a := o1) (b := o2) (by omega) fun j hj => hi.2 j hj
        repeat' (first
         | refine gdraw (id := 6) [0,1,2,3,4,5,6,7,8,9,10,11,12,13,14,15,16,17,18,19,20,21,22,23,24,25,26,27,28] (by kernel_rfl) (by kernel_rfl) rfl ?_
         | refine gdraw (id := 11) [0,1,2,3,4,5,6,7,8,9,10,11,12,13,14,15,16,17,18,19,20,21,22,23,24,25,26,27,28] (by kernel_rfl) (by kernel_rfl) rfl ?_
         | (refine z1 ?_; intros)
         | (refine z2 ?_ ?_ <;> first | exact zi | intro h | skip)
         | (refine kR ?_; refine zr (_) ?_)
         | (refine kO ?_; refine zc ?_ ?_ <;> intros))
        rw [decide_eq_true ⟨by assumption, hm, hm2⟩]
  · rw [decide_eq_false (n1 (by omega))]
  · have : ¬ TxSame i1 o1 a1 i2 o2 a2 := fun e => (by assumption : ¬ a1 = a2) e.1
    rw [decide_eq_false this]
instance c_ref07_Same {i1A : Option Addr} {i1c i1n : Nat} {i1 : List InG} {o1A : Option Addr} {o1c o1n : Nat} {o1 : List OutG} {a1 : Int} {i2A : Option Addr} {i2c i2n : Nat} {i2 : List InG} {o2A : Option Addr} {o2c o2n : Nat} {o2 : List OutG} {a2 : Int} {w0 : World} {X : Nat → Prop} {L : List Assn} [hi1 : Rw w0 X L (.slice i1A i1n i1c) RIn i1] [q_i1 : InsR w0 X L i1] [ho1 : Rw w0 X L (.slice o1A o1n o1c) ROut o1] [q_o1 : OutsR w0 X L o1] [hi2 : Rw w0 X L (.slice i2A i2n i2c) RIn i2] [q_i2 : InsR w0 X L i2] [ho2 : Rw w0 X L (.slice o2A o2n o2c) ROut o2] [q_o2 : OutsR w0 X L o2] : Ctr Tryd.prog 28 [Ag [.one (.slice i1A i1n i1c), .one (.slice o1A o1n o1c), .one (.int .u32 a1)], Ag [.one (.slice i2A i2n i2c), .one (.slice o2A o2n o2c), .one (.int .u32 a2)]] w0 X L (InsN i1 ∧ InsN i2) (fun _ : Unit => .bool (decide (TxSame i1 o1 a1 i2 o2 a2))) (fun _ : Unit => L) (fun _ : Unit => True) :=
  ctr' (M' := (fun _ : Unit => [])) (by kernel_rfl) (fun hp w hw => by have ei1 := hi1.len hw; subst ei1; have eo1 := ho1.len hw; subst eo1; have ei2 := hi2.len hw; subst ei2; have eo2 := ho2.len hw; subst eo2; exact ref07_Same _ _ _ _ _ _ _ _ _ _ _ _ _ _ w (hi1.get w hw) (q_i1.get w hw) (ho1.get w hw) (q_o1.get w hw) (hi2.get w hw) (q_i2.get w hw) (ho2.get w hw) (q_o2.get w hw) hp) (by rintro hp e0 rfl ok; exact ⟨(), rfl, rfl, trivial⟩)
theorem ref07_Get (lA : Option Addr) (lc : Nat) (l : List UInt8) (i : Int) (w0 : World) (hl : Slr w0 RB (.slice lA l.length lc) l) (hp : l.length ≤ 140737488351232) :
    Ct Tryd.prog 27 [.slice lA l.length lc, .int .i64 i] w0 no (fun (⟨⟨si, ni, gi, so, nn, go, af⟩, nx, e⟩ : TxV × Int × Int) => .tuple #[Ag [.one (.slice si.A ni si.c), .one (.slice so.A nn so.c), .one (.int .u32 af)], .int .i64 nx, .int .i64 e])
      (fun (⟨si, ni, gi, so, nn, go, af⟩, nx, e) => [rw_ 74 RIn si ni gi, lot (gi.map inRow), rw_ 52 ROut so nn go, lot (go.map outRow)])
      (fun (⟨si, ni, gi, so, nn, go, af⟩, nx, e) => (gi.map inK = tgI l i ∧ go.map outK = tgO l i ∧ af = tgA l i ∧ nx = tgX l i ∧ e = tgE l i) ∧ InsN gi ∧ OutsN go) := by
  have hst := St.start w0
  have i_l := Rw.old hl
  refine genter _ hst Tryd.func27 rfl rfl rfl rfl ?_
  repeat' (first
   | (refine z1 ?_; intros)
   | (refine z2 ?_ ?_ <;> first | exact zi | intro h | skip)
   | (refine kO ?_; refine zc ?_ ?_ <;> intros))
  · rename_i h
    refine gr rfl (rvC rfl (lvB rfl rfl rfl) (rvT rfl (rvT rfl rv0))) (⟨⟨none, 0⟩, 0, [], ⟨none, 0⟩, 0, [], _⟩, _, _) rfl (er0 (elot0 (er0 (elot0 Ent.nil)))) ?_
    exact ⟨tg_no h (by unfold tgE; rw [if_pos h]), nofun, nofun⟩
  · refine gr rfl (rvC rfl (lvB rfl rfl rfl) (rvT rfl (rvT rfl rv0))) (⟨⟨none, 0⟩, 0, [], ⟨none, 0⟩, 0, [], _⟩, _, _) rfl (er0 (elot0 (er0 (elot0 Ent.nil)))) ?_
    exact ⟨tg_no (by decide) (by unfold tgE; rw [if_neg (by omega), if_pos (by omega)]), nofun, nofun⟩
  · rename_i g4 gt _ hn hc
    obtain ⟨n, hnn⟩ := Int.eq_ofNat_of_zero_le hn.1
    have hcb := countE_ok hc
    refine gloop3 [0, 1, 4, 7, 8] (fun (k : Nat) (s : Sv) (gi : List InG) K => (9, .int .i64 (gI l (countX l i) k).next) :: (11, .int .u64 k) :: K) (fun k s gi => [rw_ 74 RIn s k gi, lot (gi.map inRow), boxA gt 57 [.one (.slice s.A k s.c), .one (.slice none 0 0), .one (.int .u32 0)], boxA g4 57 [.one (.slice none 0 0), .one (.slice none 0 0), .one (.int .u32 0)]]) (fun k s gi => k ≤ n ∧ (gI l (countX l i) k).e = 0 ∧ gi.map inK = (gI l (countX l i) k).xs ∧ InsN gi) (fun k s gi => n - k) 0 ⟨none, 0⟩ [] rfl (by repeat (first | exact trivial | refine ⟨rfl, ?_⟩)) (er0 (elot0 (eb (eb Ent.nil)))) ⟨by omega, rfl, rfl, nofun⟩ (fun k s gi hi => ?_)
    obtain ⟨h1, h2, h3, h4⟩ := hi
    have hb := gI_b (l := l) (i := countX l i) (by omega) k h2
    by_cases hlt : k < n
    · skip
      repeat' (first
       | refine gbs RIn rfl rfl rfl rfl rfl rfl (fun _ => ?_) (fun _ => ?_)
       | (refine z1 ?_; intros)
       | (refine z2 ?_ ?_ <;> first | exact zi | intro h | skip)
       | (refine kO ?_; refine zc ?_ ?_ <;> intros)
       | (refine kD ?_; exact dz))
      · rename_i h
        refine gr rfl (rvC rfl (lvB rfl rfl rfl) (rvT rfl (rvT rfl rv0))) (⟨⟨none, 0⟩, 0, [], ⟨none, 0⟩, 0, [], _⟩, _, _) rfl (er0 (elot0 (er0 (elot0 Ent.nil)))) ?_
        have := gI_e1 hlt h2 h
        refine ⟨tg_no h ?_, nofun, nofun⟩
        unfold tgE aI; rw [if_neg (by omega), if_neg (by omega), hnn, Int.toNat_natCast, if_pos (by omega)]; assumption
      · rename_i h
        have h5 : ptE l (gI l (countX l i) k).next = 0 := by assumption
        have h6 := (pt_ok h5).1
        rw [h6] at h ⊢
        refine gr rfl (rvC rfl (lvB rfl rfl rfl) (rvT rfl (rvT rfl rv0))) (⟨⟨none, 0⟩, 0, [], ⟨none, 0⟩, 0, [], _⟩, _, _) rfl (er0 (elot0 (er0 (elot0 Ent.nil)))) ?_
        have := gI_e2 hlt h2 (by omega) h
        refine ⟨tg_no h ?_, nofun, nofun⟩
        unfold tgE aI; rw [if_neg (by omega), if_neg (by omega), hnn, Int.toNat_natCast, if_pos (by omega)]; assumption
      · rename_i s3 _ _ _ _ s'
        have h5 : ptE l (gI l (countX l i) k).next = 0 := by assumption
        have h6 := (pt_ok h5).1
        rw [h6] at h ⊢
        have hk := gI_ok h2 h5 h
        refine gnl3 (k + 1) s' (gi ++ [⟨ptH l (gI l (countX l i) k).next, ptN l (gI l (countX l i) k).next, ptT l (gI l (countX l i) k).next, rowL l ((gI l (countX l i) k).next + 38) 3000, s3⟩]) ?_ ?_ ⟨by omega, by rw [hk], ?_, InsN_snoc h4 (pt_b l _)⟩ (by omega)
        · simp only [hk]; exact (by repeat (first | exact trivial | refine ⟨rfl, ?_⟩))
        · simp only [List.map_append, List.map_cons, List.map_nil]
          exact er (elot1 (eb (eb Ent.nil)))
        · rw [hk]; simp [h3, inK]
    · obtain rfl : k = n := by omega
      clear hlt
      have eI : gI l (countX l i) k = aI l i := by unfold aI; rw [hnn]; rfl
      rw [eI] at h2 h3 hb ⊢
      have tgE2 : ∀ e, e ≠ 0 → countE l (aI l i).next = e → tgE l i = e := fun e h h' => by unfold tgE; rw [if_neg (by omega), if_neg (by omega), if_neg (by omega), if_pos (by omega)]; exact h'
      repeat' (first
       | (refine z1 ?_; intros)
       | (refine z2 ?_ ?_ <;> first | exact zi | intro h | skip)
       | (refine kO ?_; refine zc ?_ ?_ <;> intros))
      · rename_i h
        refine gr rfl (rvC rfl (lvB rfl rfl rfl) (rvT rfl (rvT rfl rv0))) (⟨⟨none, 0⟩, 0, [], ⟨none, 0⟩, 0, [], _⟩, _, _) rfl (er0 (elot0 (er0 (elot0 Ent.nil)))) ?_
        exact ⟨tg_no h (tgE2 _ h rfl), nofun, nofun⟩
      · refine gr rfl (rvC rfl (lvB rfl rfl rfl) (rvT rfl (rvT rfl rv0))) (⟨⟨none, 0⟩, 0, [], ⟨none, 0⟩, 0, [], _⟩, _, _) rfl (er0 (elot0 (er0 (elot0 Ent.nil)))) ?_
        exact ⟨tg_no (by decide) (by unfold tgE; rw [if_neg (by omega), if_neg (by omega), if_neg (by omega), if_neg (by omega), if_pos (by omega)]), nofun, nofun⟩
      · rename_i hm hc2
        obtain ⟨m, hmm⟩ := Int.eq_ofNat_of_zero_le hm.1
        have hcb2 := countE_ok hc2
        refine gloop3 [0, 1, 4, 7, 18] (fun (j : Nat) (s' : Sv) (go : List OutG) K => (9, .int .i64 (gO l (countX l (aI l i).next) j).next) :: (21, .int .u64 j) :: K) (fun j s' go => [rw_ 52 ROut s' j go, lot (go.map outRow), rw_ 74 RIn s k gi, lot (gi.map inRow), boxA gt 57 [.one (.slice s.A k s.c), .one (.slice s'.A j s'.c), .one (.int .u32 0)], boxA g4 57 [.one (.slice none 0 0), .one (.slice none 0 0), .one (.int .u32 0)]]) (fun j s' go => j ≤ m ∧ (gO l (countX l (aI l i).next) j).e = 0 ∧ go.map outK = (gO l (countX l (aI l i).next) j).xs ∧ OutsN go) (fun j s' go => m - j) 0 ⟨none, 0⟩ [] rfl (by repeat (first | exact trivial | refine ⟨rfl, ?_⟩)) (er0 (elot0 (er (elot (eb (eb Ent.nil)))))) ⟨by omega, rfl, rfl, nofun⟩ (fun j s' go hj => ?_)
        obtain ⟨j1, j2, j3, j4⟩ := hj
        have hb2 := gO_b (l := l) (i := countX l (aI l i).next) (by omega) j j2
        by_cases hlt : j < m
        · skip
          repeat' (first
           | refine gbs ROut rfl rfl rfl rfl rfl rfl (fun _ => ?_) (fun _ => ?_)
           | (refine z1 ?_; intros)
           | (refine z2 ?_ ?_ <;> first | exact zi | intro h | skip)
           | (refine kO ?_; refine zc ?_ ?_ <;> intros)
           | (refine kD ?_; exact dz))
          · rename_i h
            refine gr rfl (rvC rfl (lvB rfl rfl rfl) (rvT rfl (rvT rfl rv0))) (⟨⟨none, 0⟩, 0, [], ⟨none, 0⟩, 0, [], _⟩, _, _) rfl (er0 (elot0 (er0 (elot0 Ent.nil)))) ?_
            have := gO_e1 hlt j2 h
            refine ⟨tg_no h ?_, nofun, nofun⟩
            unfold tgE aO; rw [if_neg (by omega), if_neg (by omega), if_neg (by omega), if_neg (by omega), if_neg (by omega), hmm, Int.toNat_natCast, if_pos (by omega)]; assumption
          · rename_i s3 _ _ _ _ _ s2
            have h5 : goE l (gO l (countX l (aI l i).next) j).next = 0 := by assumption
            have hk := gO_ok j2 h5
            have hbb := go_ok l (gO l (countX l (aI l i).next) j).next
            refine gnl3 (j + 1) s2 (go ++ [⟨goV l (gO l (countX l (aI l i).next) j).next, goL l (gO l (countX l (aI l i).next) j).next, s3⟩]) ?_ ?_ ⟨by omega, by rw [hk], ?_, OutsN_snoc j4 ⟨hbb.1.1, Int.le_trans hbb.1.2 (by decide)⟩⟩ (by omega)
            · simp only [hk]; exact (by repeat (first | exact trivial | refine ⟨rfl, ?_⟩))
            · simp only [List.map_append, List.map_cons, List.map_nil]
              exact er (elot1 (er (elot (eb (eb Ent.nil)))))
            · rw [hk]; simp [j3, outK]
        · obtain rfl : j = m := by omega
          clear hlt
          have eO : gO l (countX l (aI l i).next) j = aO l i := by unfold aO; rw [hmm]; rfl
          rw [eO] at j2 j3 hb2 ⊢
          repeat' (first
           | (refine z1 ?_; intros)
           | (refine z2 ?_ ?_ <;> first | exact zi | intro h | skip)
           | (refine kO ?_; refine zc ?_ ?_ <;> intros))
          · rename_i h
            refine gr rfl (rvC rfl (lvB rfl rfl rfl) (rvT rfl (rvT rfl rv0))) (⟨⟨none, 0⟩, 0, [], ⟨none, 0⟩, 0, [], _⟩, _, _) rfl (er0 (elot0 (er0 (elot0 Ent.nil)))) ?_
            exact ⟨tg_no h (by unfold tgE; rw [if_neg (by omega), if_neg (by omega), if_neg (by omega), if_neg (by omega), if_neg (by omega), if_neg (by omega), if_pos (by omega)]), nofun, nofun⟩
          · refine gr rfl (rvC rfl (lvB rfl rfl rfl) (rvT rfl (rvT rfl rv0))) (⟨⟨none, 0⟩, 0, [], ⟨none, 0⟩, 0, [], _⟩, _, _) rfl (er0 (elot0 (er0 (elot0 Ent.nil)))) ?_
            exact ⟨tg_no (by decide) (by unfold tgE; rw [if_neg (by omega), if_neg (by omega), if_neg (by omega), if_neg (by omega), if_neg (by omega), if_neg (by omega), if_neg (by omega), if_pos (by omega)]), nofun, nofun⟩
          · refine gr rfl (rvC rfl (lvB rfl rfl rfl) (rvT rfl (rvT rfl rv0))) (⟨s, k, gi, s', j, go, _⟩, _, _) rfl (er (elot (er (elot Ent.nil)))) ?_
            have hz : tgE l i = 0 := by unfold tgE; rw [if_neg (by omega), if_neg (by omega), if_neg (by omega), if_neg (by omega), if_neg (by omega), if_neg (by omega), if_neg (by omega), if_neg (by omega)]
            refine ⟨⟨?_, ?_, ?_, ?_, hz.symm⟩, h4, j4⟩
            · unfold tgI; rw [if_pos hz, h3]
            · unfold tgO; rw [if_pos hz, j3]
            · unfold tgA; rw [if_pos hz]; exact wu32 ⟨by omega, getN_4 l _⟩
            · unfold tgX; rw [if_pos hz]
/-- a transaction that is answered: its memory -/
structure TxM where
  si : Sv
  gi : List InG
  so : Sv
  go : List OutG
  hi : InsN gi
  ho : OutsN go
instance {r : TxM} : InsNc r.gi := ⟨r.hi⟩
instance {r : TxM} : OutsNc r.go := ⟨r.ho⟩
instance c_ref07_Get {lA : Option Addr} {lc ln : Nat} {l : List UInt8} {i : Int} {w0 : World} {X : Nat → Prop} {L : List Assn} [hl : Rw w0 X L (.slice lA ln lc) RB l] : Ctr Tryd.prog 27 [.slice lA ln lc, .int .i64 i] w0 X L (l.length ≤ 140737488351232) (fun r : TxM => .tuple #[Ag [.one (.slice r.si.A r.gi.length r.si.c), .one (.slice r.so.A r.go.length r.so.c), .one (.int .u32 (tgA l i))], .int .i64 (tgX l i), .int .i64 (tgE l i)])
    (fun r : TxM => rw_ 74 RIn r.si r.gi.length r.gi :: lot (r.gi.map inRow) :: rw_ 52 ROut r.so r.go.length r.go :: lot (r.go.map outRow) :: L) (fun r : TxM => r.gi.map inK = tgI l i ∧ r.go.map outK = tgO l i ∧ InsN r.gi ∧ OutsN r.go) :=
  ctr' (M' := fun r : TxM => [rw_ 74 RIn r.si r.gi.length r.gi, lot (r.gi.map inRow), rw_ 52 ROut r.so r.go.length r.go, lot (r.go.map outRow)]) (by kernel_rfl) (fun hp w hw => by have el := hl.len hw; subst el; exact ref07_Get _ _ _ _ w (hl.get w hw) hp) (by
    rintro hp ⟨⟨si, ni, gi, so, nn, go, af⟩, nx, e⟩ ⟨⟨h1, h2, rfl, rfl, rfl⟩, h3, h4⟩ ok
    cases ok.row; cases ok.tail.tail.row
    exact ⟨⟨si, gi, so, go, h3, h4⟩, rfl, rfl, h1, h2, h3, h4⟩)
end Go.Proofs.YtalainpmlonahaaDoor
