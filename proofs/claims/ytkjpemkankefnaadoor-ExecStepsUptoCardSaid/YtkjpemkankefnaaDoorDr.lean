/-
  Questions asked are counted upwards. No program in sight.
-/
import Derived.Test.YtkjpemkankefnaaDoorSx
set_option linter.all false
namespace Go.Proofs.YtkjpemkankefnaaDoor
open Go.RowKit
theorem farStore_drawn {P : Program} {w w' : World} {a : Addr} {v : Value} {b : Bool} {l : List Addr} (h : w.farStore P a v b = .ok (w', l)) : w'.drawn = w.drawn := by
  unfold World.farStore at h
  split at h
  · split at h
    · rename_i r hr
      cases h
      unfold World.viewStore at hr
      simp only [bind, Except.bind, pure, Except.pure, throw, throwThe, MonadExceptOf.throw] at hr
      repeat' (split at hr <;> try cases hr)
      all_goals rfl
    · cases h
  · cases h
theorem ask_drawn {α : Type} : ∀ (x : Ask α) (w : World), w.drawn ≤ (w.ask x).2.drawn := by
  intro x
  induction x with
  | done a => intro w; simp [World.ask]
  | ask what range k ih =>
    intro w
    simp only [World.ask]
    split
    · exact ih _ _
    · exact Nat.le_trans (Nat.le_succ _) (ih _ { w with drawn := w.drawn + 1 })
theorem sys_drawn (w : World) (c : Sys) : w.drawn ≤ (w.sys c).2.drawn := by
  unfold World.sys
  have := ask_drawn (Kernel.perform c w.os) w
  split
  · exact Nat.le_refl _
  · rename_i h; rw [h] at this; exact this
theorem run_drawn {α : Type} {P : Program} : ∀ (x : Sem α) (w : World) {v : α} {w' : World}, x.run P w = .ok v w' → w.drawn ≤ w'.drawn := by
  intro x
  induction x with
  | pure a => intro w v w' h; simp only [Sem.run] at h; cases h; exact Nat.le_refl _
  | load m a k ih => intro w v w' h; simp only [Sem.run] at h; split at h; exact ih _ _ h; split at h; exact ih _ _ h; cases h
  | store m a u k ih =>
    intro w v w' h
    have key : ∀ {v : α} {w' : World}, (match w.cell? a with
        | some _ => if w.frozen? a then Result.halt (.unsupported (.unsafePointer "a write to bytes that a string shares")) w else k.run P (w.setCell a u)
        | none => match w.farStore P a u (m == Mode.atomic) with
          | .ok (w, _) => k.run P w
          | .error h => .halt h w) = .ok v w' → w.drawn ≤ w'.drawn := by
      intro v w' h
      split at h
      · split at h
        · cases h
        · exact ih (w.setCell a u) h
      · split at h
        · rename_i hf; have := farStore_drawn hf; have := ih _ h; omega
        · cases h
    cases u <;> first | exact key h | (simp only [Sem.run] at h; cases h)
  | new o k ih => intro w v w' h; simp only [Sem.run] at h; exact ih _ { w with heap := w.heap.push o } h
  | shape r k ih => intro w v w' h; simp only [Sem.run] at h; exact ih _ _ h
  | freeze a n k ih => intro w v w' h; simp only [Sem.run] at h; have := ih _ h; unfold World.freeze at this; split at this <;> exact this
  | frozen a k ih => intro w v w' h; simp only [Sem.run] at h; exact ih _ _ h
  | getObj r k ih => intro w v w' h; simp only [Sem.run] at h; split at h; cases h; exact ih _ _ h; cases h
  | setObj r o k ih => intro w v w' h; simp only [Sem.run] at h; split at h; cases h; exact ih { w with heap := w.heap.setIfInBounds r o } h; cases h
  | choose q k ih => intro w v w' h; simp only [Sem.run] at h; split at h; exact ih _ _ h; have := ih _ _ h; simp only at this; omega
  | sys c k ih => intro w v w' h; simp only [Sem.run] at h; have := sys_drawn w c; have := ih _ _ h; omega
  | program k ih => intro w v w' h; simp only [Sem.run] at h; exact ih _ _ h
  | mark m k ih => intro w v w' h; simp only [Sem.run] at h; exact ih _ h
  | halt h => intro w v w' h; simp only [Sem.run] at h; cases h
end Go.Proofs.YtkjpemkankefnaaDoor
