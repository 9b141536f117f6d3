/-
  Sx + Dr + Sl + Mem + Op + Build + Draw + Flat + Heap
-/
import Derived.WalkKit
import Derived.OrdersHeld
import Derived.Below
import Derived.Scope
import Derived.Laws.CopyRow
import Derived.Laws.OwnMore
import Derived.Maps.AppendAt
import Derived.Laws.Cells
import Derived.Laws.Rows
import Derived.Laws.MakeOwn
import Derived.KernelRfl
import Derived.DeepKeys3
import Derived.Laws.StructEq
import GoSem.ClaimChange
import Derived.MapKept
import Derived.Laws.Pointers
import Derived.WalkSpells
section
/-!
  STEPS OVER AN ENVIRONMENT: what is known of the slots is a list of pairs; each operation is one lemma. No program in sight.
-/
namespace Go.Proofs.YtalainpmlonahaaDoor
open Go.RowKit

abbrev Env := List (Nat × Value)
def eget : Env → Nat → Option Value
  | [], _ => none
  | (k, v) :: r, d => bif Nat.beq k d then some v else eget r d
def eev (E : Env) : Operand → Option Value
  | .tmp t => eget E t
  | .const v => some v
  | .global g => some (.pointer (some ⟨g, 0, none⟩))
  | .func f => some (.func (.func f) #[] #[])
structure EnvOk (n : Nat) (E : Env) (a : Act) : Prop where
  defers : a.defers = []
  size : a.tmps.size = n
  get : ∀ d v, eget E d = some v → a.tmps[d]? = some v

section
variable {n : Nat} {E : Env} {a : Act}
theorem eget_cons (k : Nat) (v : Value) (r : Env) (d : Nat) : eget ((k, v) :: r) d = if k = d then some v else eget r d := by
  simp only [eget]
  by_cases h : k = d
  · subst h; simp [Nat.beq_refl]
  · have : Nat.beq k d = false := by
      cases hb : Nat.beq k d
      · rfl
      · exact absurd (Nat.eq_of_beq_eq_true hb) h
    rw [this, if_neg h]; rfl
theorem EnvOk.ev (h : EnvOk n E a) {x : Operand} {v : Value} (hx : eev E x = some v) : a.eval x = v := by
  cases x with
  | tmp t => simp only [eev] at hx; have := h.get t v hx; simp [Act.eval, this]
  | const u => simp only [eev, Option.some.injEq] at hx; simp [Act.eval, hx]
  | global g => simp only [eev, Option.some.injEq] at hx; simp [Act.eval, hx]
  | func f => simp only [eev, Option.some.injEq] at hx; simp [Act.eval, hx]
theorem EnvOk.put (h : EnvOk n E a) {d : Nat} (hd : Nat.blt d n = true) (v : Value) : EnvOk n ((d, v) :: E) (a.put (some d) v) := by
  have hd' : d < n := by simpa [Nat.blt_eq] using hd
  refine ⟨h.defers, by simp [Act.put, h.size], fun k u hk => ?_⟩
  rw [eget_cons] at hk
  simp only [Act.put]
  by_cases e : d = k
  · subst e
    rw [if_pos rfl] at hk
    rw [Array.getElem?_setIfInBounds_self_of_lt (by rw [h.size]; exact hd')]; exact hk
  · rw [if_neg e] at hk
    rw [Array.getElem?_setIfInBounds_ne e]; exact h.get k u hk
theorem EnvOk.sub (h : EnvOk n E a) {E' : Env} (hs : ∀ d v, eget E' d = some v → eget E d = some v) : EnvOk n E' a := ⟨h.defers, h.size, fun d v hv => h.get d v (hs d v hv)⟩
end

/-- E' says no more than E -/
def ESub (E : Env) : Env → Prop
  | [] => True
  | (d, v) :: r => eget E d = some v ∧ ESub E r
theorem ESub.get {E : Env} : ∀ {E' : Env}, ESub E E' → ∀ d v, eget E' d = some v → eget E d = some v
  | [], _, d, v, h => by cases h
  | (k, u) :: r, h, d, v, hv => by
    rw [eget_cons] at hv
    by_cases e : k = d
    · subst e; rw [if_pos rfl] at hv; cases hv; exact h.1
    · rw [if_neg e] at hv; exact ESub.get h.2 d v hv

abbrev Post := Exit → Act → World → Prop
/-- what stands behind a piece of code -/
inductive Cont : Type 1 where
  | body (fn : Func) (R : Ending → World → Prop)
  | seq (y : Code) (k : Cont)
  | blk (id : Nat) (k : Cont)
  | loop (σ : Type) (E' : σ → Env) (J : σ → World → Prop) (m : σ → Nat) (s : Nat) (k : Cont)
  | cut (σ : Type) (E' : σ → Env) (J : σ → World → Prop) (k : Cont)
  | step (R : Act → World → Prop) (k : Cont)
  | scope (σ : Type) (E' : Nat → σ → Env) (J : Nat → σ → World → Prop) (m : Nat → σ → Nat) (s : Nat) (k : Cont)
/-- at a goto: J -/
def atGoto (J : Nat → Act → World → Prop) (Q : Post) : Post
  | .goto l, a, w => J l a w
  | e, a, w => Q e a w
def Cont.post (P : Program) (n : Nat) : Cont → Post
  | .body fn R => bodyPost P fn R
  | .seq y k => Exit.then (fun a w => y.wp P (k.post P n) a w) (k.post P n)
  | .blk id k => Exit.inBlock id (k.post P n)
  | .loop _ E' J m s k => Exit.then (fun a w => ∃ x, J x w ∧ EnvOk n (E' x) a ∧ m x < s) (k.post P n)
  | .cut _ E' J k => Exit.then (fun a w => ∃ x, J x w ∧ EnvOk n (E' x) a) (k.post P n)
  | .step R k => Exit.then R (k.post P n)
  | .scope _ E' J m s k => atGoto (fun l a w => ∃ x, J l x w ∧ EnvOk n (E' l x) a ∧ m l x < s) (k.post P n)
/-- the code goes well from every frame of which E is true -/
structure T (P : Program) (n : Nat) (c : Code) (Q : Cont) (E : Env) (w : World) : Prop where
  go : ∀ a, EnvOk n E a → c.wp P (Q.post P n) a w
structure TL (P : Program) (n : Nat) (ops : Array Oper) (l : List Oper) (Q : Cont) (E : Env) (w : World) : Prop where
  go : ∀ a, EnvOk n E a → wpList P ops (Q.post P n) l a w

section control
variable {P : Program} {n : Nat} {Q : Cont} {E : Env} {w : World}
/-- what stands at a normal end, at an exit, at a return -/
structure N (P : Program) (n : Nat) (Q : Cont) (E : Env) (w : World) : Prop where
  go : ∀ a, EnvOk n E a → Q.post P n .normal a w
structure X (P : Program) (n : Nat) (id : Nat) (Q : Cont) (E : Env) (w : World) : Prop where
  go : ∀ a, EnvOk n E a → Q.post P n (.exit id) a w
structure RT (P : Program) (n : Nat) (Q : Cont) (E : Env) (w : World) : Prop where
  go : ∀ a, EnvOk n E a → Q.post P n .ret a w
theorem t_seq {x y : Code} (h : T P n x (.seq y Q) E w) : T P n (.seq x y) Q E w := ⟨fun a ha => wp_seq (h.go a ha)⟩
theorem t_block {id : Nat} {c : Code} (h : T P n c (.blk id Q) E w) : T P n (.block id c) Q E w := ⟨fun a ha => wp_block (h.go a ha)⟩
theorem t_region {id : Nat} {l : List Oper} (h : TL P n l.toArray l Q E w) : T P n (.region id l.toArray false) Q E w := ⟨fun a ha => wp_region_lit (h.go a ha)⟩
theorem t_skip (h : N P n Q E w) : T P n .skip Q E w := ⟨fun a ha => wp_skip (h.go a ha)⟩
theorem t_label {l : Nat} (h : N P n Q E w) : T P n (.label l) Q E w := ⟨fun a ha => wp_label (h.go a ha)⟩
theorem tl_nil {ops : Array Oper} (h : N P n Q E w) : TL P n ops [] Q E w := ⟨fun a ha => wpList_nil (h.go a ha)⟩
theorem n_then {y : Code} (h : T P n y Q E w) : N P n (.seq y Q) E w := ⟨fun a ha => h.go a ha⟩
theorem n_block {id : Nat} (h : N P n Q E w) : N P n (.blk id Q) E w := ⟨fun a ha => h.go a ha⟩
theorem t_exit {id : Nat} (h : X P n id Q E w) : T P n (.exit id) Q E w := ⟨fun a ha => wp_exit (h.go a ha)⟩
theorem x_then {id : Nat} {y : Code} (h : X P n id Q E w) : X P n id (.seq y Q) E w := ⟨fun a ha => h.go a ha⟩
theorem x_block {id : Nat} (h : N P n Q E w) : X P n id (.blk id Q) E w := ⟨fun a ha => by
  show Exit.inBlock id (Q.post P n) (.exit id) a w
  simp only [Exit.inBlock, if_true]; exact h.go a ha⟩
theorem x_block_ne {id id' : Nat} (hne : Nat.beq id' id = false) (h : X P n id' Q E w) : X P n id' (.blk id Q) E w := ⟨fun a ha => by
  show Exit.inBlock id (Q.post P n) (.exit id') a w
  simp only [Exit.inBlock]
  rw [if_neg (fun e => by subst e; simp [Nat.beq_refl] at hne)]; exact h.go a ha⟩
theorem t_ret (h : RT P n Q E w) : T P n .ret Q E w := ⟨fun a ha => wp_ret (h.go a ha)⟩
theorem r_then {y : Code} (h : RT P n Q E w) : RT P n (.seq y Q) E w := ⟨fun a ha => h.go a ha⟩
theorem r_block {id : Nat} (h : RT P n Q E w) : RT P n (.blk id Q) E w := ⟨fun a ha => h.go a ha⟩
theorem t_cond {c : Operand} {x y : Code} {b : Bool} (hc : eev E c = some (.bool b)) (ht : b = true → T P n x Q E w) (hf : b = false → T P n y Q E w) : T P n (.cond c x y) Q E w :=
  ⟨fun a ha => wp_cond_split (ha.ev hc) (fun h => (ht h).go a ha) (fun h => (hf h).go a ha)⟩
theorem t_cond_true {c : Operand} {x y : Code} (hc : eev E c = some (.bool true)) (ht : T P n x Q E w) : T P n (.cond c x y) Q E w := t_cond hc (fun _ => ht) (fun h => by cases h)
theorem t_cond_false {c : Operand} {x y : Code} (hc : eev E c = some (.bool false)) (ht : T P n y Q E w) : T P n (.cond c x y) Q E w := t_cond hc (fun h => by cases h) (fun _ => ht)
theorem t_cond_dec {c : Operand} {x y : Code} {p : Prop} [hp : Decidable p] (hc : eev E c = some (.bool (decide p))) (ht : p → T P n x Q E w) (hf : ¬ p → T P n y Q E w) : T P n (.cond c x y) Q E w :=
  t_cond hc (fun h => ht (of_decide_eq_true h)) (fun h => hf (of_decide_eq_false h))
theorem t_cond_ndec {c : Operand} {x y : Code} {p : Prop} [hp : Decidable p] (hc : eev E c = some (.bool (!decide p))) (ht : ¬ p → T P n x Q E w) (hf : p → T P n y Q E w) : T P n (.cond c x y) Q E w :=
  t_cond hc (fun h => ht (by simpa using h)) (fun h => hf (by simpa using h))
theorem t_cond_not {c : Operand} {x y : Code} {b : Bool} (hc : eev E c = some (.bool (!b))) (ht : b = false → T P n x Q E w) (hf : b = true → T P n y Q E w) : T P n (.cond c x y) Q E w :=
  t_cond hc (fun h => ht (by simpa using h)) (fun h => hf (by simpa using h))
/-- less is known -/
theorem t_sub {c : Code} {E' : Env} (hs : ESub E E') (h : T P n c Q E' w) : T P n c Q E w := ⟨fun a ha => h.go a (ha.sub hs.get)⟩
/-- the ways meet again: J says what is known there -/
theorem t_seq_cut {σ : Type} (E' : σ → Env) (J : σ → World → Prop) {x y : Code} (h : T P n x (.cut σ E' J Q) E w) (k : ∀ s w, J s w → T P n y Q (E' s) w) : T P n (.seq x y) Q E w :=
  ⟨fun a ha => wp_seq (wp_mono (h.go a ha) (fun e a w he => by
    cases e <;> first | exact he | skip
    obtain ⟨s, hj, hs⟩ := he
    exact (k s w hj).go a hs))⟩
theorem n_cut {σ : Type} {E' : σ → Env} {J : σ → World → Prop} (s : σ) (hs : ESub E (E' s)) (hj : J s w) : N P n (.cut σ E' J Q) E w := ⟨fun _ ha => ⟨s, hj, ha.sub hs.get⟩⟩
theorem r_cut {σ : Type} {E' : σ → Env} {J : σ → World → Prop} (h : RT P n Q E w) : RT P n (.cut σ E' J Q) E w := ⟨fun a ha => h.go a ha⟩
theorem x_cut {σ : Type} {E' : σ → Env} {J : σ → World → Prop} {id : Nat} (h : X P n id Q E w) : X P n id (.cut σ E' J Q) E w := ⟨fun a ha => h.go a ha⟩
/-- a loop: at each head the environment is 'E' s', and J says what else is known -/
theorem t_loop {σ : Type} (E' : σ → Env) (J : σ → World → Prop) (m : σ → Nat) {c : Code} (s : σ) (hs : ESub E (E' s)) (hj : J s w)
    (round : ∀ s w, J s w → T P n c (.loop σ E' J m (m s) Q) (E' s) w) : T P n (.loop c) Q E w := by
  refine ⟨fun a ha b kk cs => ?_⟩
  have key : ∀ k s a w, m s = k → J s w → EnvOk n (E' s) a →
      ∃ e a' w', Q.post P n e a' w' ∧ Arrives P (lone (b.at a (.code c :: .inLoop c :: kk)) cs w) b kk cs e a' w' := by
    intro k
    induction k using Nat.strongRecOn with
    | _ k ih =>
      intro s a w hm hj ha
      obtain ⟨e, a₁, w₁, hq, harr⟩ := (round s w hj).go a ha b (.inLoop c :: kk) cs
      cases e with
      | normal =>
        obtain ⟨s', hj', ha', hlt⟩ := hq
        obtain ⟨e₂, a₂, w₂, hq₂, harr₂⟩ := ih (m s') (hm ▸ hlt) s' a₁ w₁ rfl hj' ha'
        exact ⟨e₂, a₂, w₂, hq₂, .of_steps (Steps.trans harr (.one step_inLoop)) harr₂⟩
      | exit id => exact ⟨_, a₁, w₁, hq, .pass (x := .inLoop c) rfl (fun _ _ => .inl (by simp)) harr⟩
      | goto l => exact ⟨_, a₁, w₁, hq, .pass (x := .inLoop c) rfl (fun _ _ => .inl (by simp)) harr⟩
      | ret => exact ⟨_, a₁, w₁, hq, .pass (x := .inLoop c) rfl (fun _ _ => .inl (by simp)) harr⟩
      | panic ch => exact ⟨_, a₁, w₁, hq, .pass (x := .inLoop c) rfl (fun _ _ => .inl (by simp)) harr⟩
      | outgrown => exact ⟨_, a₁, w₁, hq, .pass (x := .inLoop c) rfl (fun _ _ => .inl (by simp)) harr⟩
  obtain ⟨e, a', w', hq, harr⟩ := key _ s a w rfl hj (ha.sub hs.get)
  exact ⟨e, a', w', hq, .of_steps (.one step_loop) harr⟩
theorem n_loop {σ : Type} {E' : σ → Env} {J : σ → World → Prop} {m : σ → Nat} {k : Nat} (s : σ) (hs : ESub E (E' s)) (hj : J s w) (hm : m s < k) : N P n (.loop σ E' J m k Q) E w := ⟨fun _ ha => ⟨s, hj, ha.sub hs.get, hm⟩⟩
theorem r_loop {σ : Type} {E' : σ → Env} {J : σ → World → Prop} {m : σ → Nat} {k : Nat} (h : RT P n Q E w) : RT P n (.loop σ E' J m k Q) E w := ⟨fun a ha => h.go a ha⟩
theorem x_loop {σ : Type} {E' : σ → Env} {J : σ → World → Prop} {m : σ → Nat} {k : Nat} {id : Nat} (h : X P n id Q E w) : X P n id (.loop σ E' J m k Q) E w := ⟨fun a ha => h.go a ha⟩
/-! scopes: jumps -/
structure GT (P : Program) (n : Nat) (l : Nat) (Q : Cont) (E : Env) (w : World) : Prop where
  go : ∀ a, EnvOk n E a → Q.post P n (.goto l) a w
theorem t_goto {l : Nat} (h : GT P n l Q E w) : T P n (.goto l) Q E w := ⟨fun a ha => wp_goto (h.go a ha)⟩
theorem j_then {l : Nat} {y : Code} (h : GT P n l Q E w) : GT P n l (.seq y Q) E w := ⟨fun a ha => h.go a ha⟩
theorem j_block {l id : Nat} (h : GT P n l Q E w) : GT P n l (.blk id Q) E w := ⟨fun a ha => h.go a ha⟩
theorem j_loop {l : Nat} {σ : Type} {E' : σ → Env} {J : σ → World → Prop} {m : σ → Nat} {k : Nat} (h : GT P n l Q E w) : GT P n l (.loop σ E' J m k Q) E w := ⟨fun a ha => h.go a ha⟩
theorem j_cut {l : Nat} {σ : Type} {E' : σ → Env} {J : σ → World → Prop} (h : GT P n l Q E w) : GT P n l (.cut σ E' J Q) E w := ⟨fun a ha => h.go a ha⟩
theorem j_scope {l : Nat} {σ : Type} {E' : Nat → σ → Env} {J : Nat → σ → World → Prop} {m : Nat → σ → Nat} {k : Nat} (x : σ) (hs : ESub E (E' l x)) (hj : J l x w) (hm : m l x < k) : GT P n l (.scope σ E' J m k Q) E w := ⟨fun _ ha => ⟨x, hj, ha.sub hs.get, hm⟩⟩
theorem n_scope {σ : Type} {E' : Nat → σ → Env} {J : Nat → σ → World → Prop} {m : Nat → σ → Nat} {k : Nat} (h : N P n Q E w) : N P n (.scope σ E' J m k Q) E w := ⟨fun a ha => h.go a ha⟩
theorem r_scope {σ : Type} {E' : Nat → σ → Env} {J : Nat → σ → World → Prop} {m : Nat → σ → Nat} {k : Nat} (h : RT P n Q E w) : RT P n (.scope σ E' J m k Q) E w := ⟨fun a ha => h.go a ha⟩
theorem x_scope {σ : Type} {E' : Nat → σ → Env} {J : Nat → σ → World → Prop} {m : Nat → σ → Nat} {k id : Nat} (h : X P n id Q E w) : X P n id (.scope σ E' J m k Q) E w := ⟨fun a ha => h.go a ha⟩
theorem t_scope {σ : Type} (E' : Nat → σ → Env) (J : Nat → σ → World → Prop) (m : Nat → σ → Nat) (s : Nat) {c : Code} (first : T P n c (.scope σ E' J m s Q) E w)
    (pass : ∀ l x w, J l x w → ∃ rest, findLabel c l = some rest ∧ T P n rest (.scope σ E' J m (m l x) Q) (E' l x) w) : T P n (.scope c) Q E w := by
  refine ⟨fun a ha b k cs => ?_⟩
  have key : ∀ k0 l x a w rest, m l x = k0 → findLabel c l = some rest → J l x w → EnvOk n (E' l x) a →
      ∃ e a' w', Q.post P n e a' w' ∧ Arrives P (lone (b.at a (.code rest :: .inScope c :: k)) cs w) b k cs e a' w' := by
    intro k0
    induction k0 using Nat.strongRecOn with
    | _ k0 ih =>
      intro l x a w rest hm hf hj ha
      obtain ⟨rest', hf', hT⟩ := pass l x w hj
      obtain rfl : rest' = rest := Option.some.inj (hf'.symm.trans hf)
      obtain ⟨e, a₁, w₁, hq, harr⟩ := hT.go a ha b (.inScope c :: k) cs
      cases e with
      | normal => exact ⟨.normal, a₁, w₁, hq, Steps.trans harr (.one step_inScope)⟩
      | exit id => exact ⟨.exit id, a₁, w₁, hq, fun k' hk => harr k' (by simp [exitTo, hk])⟩
      | goto l' =>
        obtain ⟨x', hj', ha', hlt⟩ := hq
        obtain ⟨rest₂, hf₂, _⟩ := pass l' x' w₁ hj'
        obtain ⟨e₂, a₂, w₂, hq₂, harr₂⟩ := ih (m l' x') (hm ▸ hlt) l' x' a₁ w₁ rest₂ rfl hf₂ hj' ha'
        exact ⟨e₂, a₂, w₂, hq₂, .of_steps (harr _ (by simp [gotoIn, hf₂])) harr₂⟩
      | ret => exact ⟨_, a₁, w₁, hq, harr⟩
      | panic ch => exact ⟨_, a₁, w₁, hq, harr⟩
      | outgrown => exact ⟨_, a₁, w₁, hq, harr⟩
  obtain ⟨e, a₁, w₁, hq, harr⟩ := first.go a ha b (.inScope c :: k) cs
  cases e with
  | normal => exact ⟨.normal, a₁, w₁, hq, .head step_scope (Steps.trans harr (.one step_inScope))⟩
  | exit id => exact ⟨.exit id, a₁, w₁, hq, fun k' hk => .head step_scope (harr k' (by simp [exitTo, hk]))⟩
  | goto l' =>
    obtain ⟨x', hj', ha', hlt⟩ := hq
    obtain ⟨rest₂, hf₂, _⟩ := pass l' x' w₁ hj'
    obtain ⟨e₂, a₂, w₂, hq₂, harr₂⟩ := key _ l' x' a₁ w₁ rest₂ rfl hf₂ hj' ha'
    exact ⟨e₂, a₂, w₂, hq₂, .of_steps (.head step_scope (harr _ (by simp [gotoIn, hf₂]))) harr₂⟩
  | ret => exact ⟨_, a₁, w₁, hq, .of_steps (.one step_scope) harr⟩
  | panic ch => exact ⟨_, a₁, w₁, hq, .of_steps (.one step_scope) harr⟩
  | outgrown => exact ⟨_, a₁, w₁, hq, .of_steps (.one step_scope) harr⟩
end control

/-! ### operations: what they yield, whatever the world -/
structure Yld (P : Program) (n : Nat) (o : Oper) (E : Env) (v : Value) : Prop where
  go : ∀ a w, EnvOk n E a → (execOp a.eval o).run P w = .ok (.value v) w
/-- in this world -/
structure YldAt (P : Program) (n : Nat) (o : Oper) (E : Env) (w : World) (v : Value) : Prop where
  go : ∀ a, EnvOk n E a → (execOp a.eval o).run P w = .ok (.value v) w

section ops
variable {P : Program} {n : Nat} {Q : Cont} {E : Env} {w : World} {ops : Array Oper} {rest : List Oper}
variable {d : Nat} {ty : TypeId} {pos : String} {aft : Array Edge} {v : Value}

theorem tl_yld {op : Op} (h : Yld P n ⟨some d, op, ty, pos, aft, none⟩ E v) (hd : Nat.blt d n = true) (k : TL P n ops rest Q ((d, v) :: E) w) : TL P n ops (⟨some d, op, ty, pos, aft, none⟩ :: rest) Q E w :=
  ⟨fun a ha => wpList_plain rfl fun K hK => by
    unfold Oper.wp
    rw [h.go a w ha]
    exact hK _ _ (k.go _ (ha.put hd v))⟩
theorem tl_yldAt {op : Op} (h : YldAt P n ⟨some d, op, ty, pos, aft, none⟩ E w v) (hd : Nat.blt d n = true) (k : TL P n ops rest Q ((d, v) :: E) w) : TL P n ops (⟨some d, op, ty, pos, aft, none⟩ :: rest) Q E w :=
  ⟨fun a ha => wpList_plain rfl fun K hK => by
    unfold Oper.wp
    rw [h.go a ha]
    exact hK _ _ (k.go _ (ha.put hd v))⟩
/-- what an operation does to the world: K is reached -/
def Eff (P : Program) (n : Nat) (o : Oper) (E : Env) (w : World) (Q : Cont) (K : Act → World → Prop) : Prop := ∀ a, EnvOk n E a → o.wp P a w K (Q.post P n)
theorem tl_eff {o : Oper} (hg : o.guard = none) (h : ∀ K : Act → World → Prop, (∀ a w, wpList P ops (Q.post P n) rest a w → K a w) → Eff P n o E w Q K) : TL P n ops (o :: rest) Q E w :=
  ⟨fun a ha => wpList_plain hg fun K hK => h K hK a ha⟩

/-! guards -/
theorem tl_guard_on {op : Op} {dst : Option Tmp} {j dj : Nat} {b : Bool} (hj : (ops[j]?).bind (·.dst) = some dj) (hv : eget E dj = some (.bool b))
    (k : TL P n ops (⟨dst, op, ty, pos, aft, none⟩ :: rest) Q E w) : TL P n ops (⟨dst, op, ty, pos, aft, some (j, b)⟩ :: rest) Q E w := ⟨fun a ha => by
  have h := k.go a ha
  have hy : yielded ops a.tmps j = some b := by
    unfold yielded
    rw [hj]
    simp [ha.get _ _ hv]
  unfold wpList at h ⊢
  simp only [Region.wanted, hy, beq_self_eq_true, if_true] at h ⊢
  exact h⟩
theorem tl_guard_off {op : Op} {j dj : Nat} {b b' : Bool} (hj : (ops[j]?).bind (·.dst) = some dj) (hv : eget E dj = some (.bool b)) (hb : (b == b') = false) (hd : Nat.blt d n = true)
    (k : TL P n ops rest Q ((d, undef) :: E) w) : TL P n ops (⟨some d, op, ty, pos, aft, some (j, b')⟩ :: rest) Q E w := ⟨fun a ha => by
  have hy : yielded ops a.tmps j = some b := by
    unfold yielded
    rw [hj]
    simp [ha.get _ _ hv]
  unfold wpList
  have : Region.wanted ⟨some d, op, ty, pos, aft, some (j, b')⟩ (yielded ops a.tmps) = false := by
    simp only [Region.wanted, hy]
    cases b <;> cases b' <;> simp_all
  rw [this]
  exact k.go _ (ha.put hd undef)⟩
theorem tl_guard_off0 {op : Op} {j dj : Nat} {b b' : Bool} (hj : (ops[j]?).bind (·.dst) = some dj) (hv : eget E dj = some (.bool b)) (hb : (b == b') = false)
    (k : TL P n ops rest Q E w) : TL P n ops (⟨none, op, ty, pos, aft, some (j, b')⟩ :: rest) Q E w := ⟨fun a ha => by
  have hy : yielded ops a.tmps j = some b := by
    unfold yielded
    rw [hj]
    simp [ha.get _ _ hv]
  unfold wpList
  have : Region.wanted ⟨none, op, ty, pos, aft, some (j, b')⟩ (yielded ops a.tmps) = false := by
    simp only [Region.wanted, hy]
    cases b <;> cases b' <;> simp_all
  rw [this]
  exact k.go a ha⟩
/-- the guard itself was passed over -/
theorem tl_guard_undef {op : Op} {j dj : Nat} {b' : Bool} (hj : (ops[j]?).bind (·.dst) = some dj) (hv : eget E dj = some undef) (hd : Nat.blt d n = true)
    (k : TL P n ops rest Q ((d, undef) :: E) w) : TL P n ops (⟨some d, op, ty, pos, aft, some (j, b')⟩ :: rest) Q E w := ⟨fun a ha => by
  have hy : yielded ops a.tmps j = none := by
    unfold yielded
    rw [hj]
    simp [ha.get _ _ hv, undef]
  unfold wpList
  have : Region.wanted ⟨some d, op, ty, pos, aft, some (j, b')⟩ (yielded ops a.tmps) = false := by
    simp [Region.wanted, hy]
  rw [this]
  exact k.go _ (ha.put hd undef)⟩
/-- both ways of a slot that holds a truth value -/
theorem tl_split {l : List Oper} {b : Bool} (ht : b = true → TL P n ops l Q E w) (hf : b = false → TL P n ops l Q E w) : TL P n ops l Q E w := by
  cases b
  · exact hf rfl
  · exact ht rfl

/-! ### single operations -/
theorem y_move {x : Operand} (hx : eev E x = some v) : Yld P n ⟨some d, .move x, ty, pos, aft, none⟩ E v := ⟨fun a w ha => by
  simp only [execOp, ha.ev hx]; rfl⟩
theorem y_assign {x : Operand} (hx : eev E x = some v) : Yld P n ⟨some d, .assign x, ty, pos, aft, none⟩ E v := ⟨fun a w ha => by
  simp only [execOp, ha.ev hx]; rfl⟩
theorem y_pick_t {c x y : Operand} (hc : eev E c = some (.bool true)) (hx : eev E x = some v) : Yld P n ⟨some d, .pick c x y, ty, pos, aft, none⟩ E v := ⟨fun a w ha => by
  simp only [execOp, ha.ev hc, ha.ev hx, asBool]; rfl⟩
theorem y_pick_f {c x y : Operand} (hc : eev E c = some (.bool false)) (hy : eev E y = some v) : Yld P n ⟨some d, .pick c x y, ty, pos, aft, none⟩ E v := ⟨fun a w ha => by
  simp only [execOp, ha.ev hc, ha.ev hy, asBool]; rfl⟩
theorem y_extract {x : Operand} {vs : Array Value} {i : Nat} (hx : eev E x = some (.tuple vs)) (hi : vs[i]? = some v) : Yld P n ⟨some d, .extract x i, ty, pos, aft, none⟩ E v := ⟨fun a w ha => by
  simp only [execOp, ha.ev hx, Instr.extract, hi]; rfl⟩
theorem y_bin {op : BinOp} {x y : Operand} {k : IntKind} {i j : Int} {t yt : TypeId} (hx : eev E x = some (.int k i)) (hy : eev E y = some (.int k j)) (hr : binOp op t (.int k i) (.int k j) = pure v) :
    Yld P n ⟨some d, .binOp op t x y yt, ty, pos, aft, none⟩ E v := ⟨fun a w ha => by
  simp only [execOp, ha.ev hx, ha.ev hy, eqGuard_at_int, hr]; rfl⟩
section bin
variable {x y : Operand} {k : IntKind} {i j r : Int} {t yt : TypeId}
theorem y_add (hx : eev E x = some (.int k i)) (hy : eev E y = some (.int k j)) (hr : k.wrap (i + j) = r) : Yld P n ⟨some d, .binOp .add t x y yt, ty, pos, aft, none⟩ E (.int k r) :=
  y_bin hx hy (by rw [binOp_add]; simp only [Op.intArith, hr])
theorem y_sub (hx : eev E x = some (.int k i)) (hy : eev E y = some (.int k j)) (hr : k.wrap (i - j) = r) : Yld P n ⟨some d, .binOp .sub t x y yt, ty, pos, aft, none⟩ E (.int k r) :=
  y_bin hx hy (by rw [binOp_sub]; simp only [Op.intArith, hr])
theorem y_mul (hx : eev E x = some (.int k i)) (hy : eev E y = some (.int k j)) (hr : k.wrap (i * j) = r) : Yld P n ⟨some d, .binOp .mul t x y yt, ty, pos, aft, none⟩ E (.int k r) :=
  y_bin hx hy (by rw [binOp_mul]; simp only [Op.intArith, hr])
theorem y_lss (hx : eev E x = some (.int k i)) (hy : eev E y = some (.int k j)) : Yld P n ⟨some d, .binOp .lss t x y yt, ty, pos, aft, none⟩ E (.bool (decide (i < j))) := y_bin hx hy (binOp_lss _ _ _ _)
theorem y_leq (hx : eev E x = some (.int k i)) (hy : eev E y = some (.int k j)) : Yld P n ⟨some d, .binOp .leq t x y yt, ty, pos, aft, none⟩ E (.bool (decide (i ≤ j))) := y_bin hx hy (binOp_leq _ _ _ _)
theorem y_gtr (hx : eev E x = some (.int k i)) (hy : eev E y = some (.int k j)) : Yld P n ⟨some d, .binOp .gtr t x y yt, ty, pos, aft, none⟩ E (.bool (decide (j < i))) := y_bin hx hy (binOp_gtr _ _ _ _)
theorem y_geq (hx : eev E x = some (.int k i)) (hy : eev E y = some (.int k j)) : Yld P n ⟨some d, .binOp .geq t x y yt, ty, pos, aft, none⟩ E (.bool (decide (j ≤ i))) := y_bin hx hy (binOp_geq _ _ _ _)
theorem y_eql (hx : eev E x = some (.int k i)) (hy : eev E y = some (.int k j)) : Yld P n ⟨some d, .binOp .eql t x y yt, ty, pos, aft, none⟩ E (.bool (decide (i = j))) := y_bin hx hy (by rw [binOp_eql]; congr 2)
theorem y_neq (hx : eev E x = some (.int k i)) (hy : eev E y = some (.int k j)) : Yld P n ⟨some d, .binOp .neq t x y yt, ty, pos, aft, none⟩ E (.bool (decide (i ≠ j))) := y_bin hx hy (by rw [binOp_neq]; congr 2; by_cases h : i = j <;> simp [h])
theorem y_and (hx : eev E x = some (.int k i)) (hy : eev E y = some (.int k j)) (hr : bits .and k i j = r) : Yld P n ⟨some d, .binOp .and t x y yt, ty, pos, aft, none⟩ E (.int k r) := y_bin hx hy (by rw [binOp_and, intBits_and, hr])
theorem y_or (hx : eev E x = some (.int k i)) (hy : eev E y = some (.int k j)) (hr : bits .or k i j = r) : Yld P n ⟨some d, .binOp .or t x y yt, ty, pos, aft, none⟩ E (.int k r) := y_bin hx hy (by rw [binOp_or, intBits_or, hr])
theorem y_xor (hx : eev E x = some (.int k i)) (hy : eev E y = some (.int k j)) (hr : bits .xor k i j = r) : Yld P n ⟨some d, .binOp .xor t x y yt, ty, pos, aft, none⟩ E (.int k r) := y_bin hx hy (by rw [binOp_xor, intBits_xor, hr])
theorem y_andNot (hx : eev E x = some (.int k i)) (hy : eev E y = some (.int k j)) (hr : bits .andNot k i j = r) : Yld P n ⟨some d, .binOp .andNot t x y yt, ty, pos, aft, none⟩ E (.int k r) := y_bin hx hy (by rw [binOp_andNot, intBits_andNot, hr])
theorem y_shr {yk : IntKind} (hx : eev E x = some (.int k i)) (hy : eev E y = some (.int yk j)) (h0 : 0 ≤ j) (hr : i.fdiv (2 ^ min j.toNat k.bits) = r) : Yld P n ⟨some d, .binOp .shr t x y yt, ty, pos, aft, none⟩ E (.int k r) := ⟨fun a w ha => by
  simp only [execOp, ha.ev hx, ha.ev hy, eqGuard_at_int, binOp_shr, Op.shift]
  rw [if_neg (by omega), hr]; rfl⟩
theorem y_shl {yk : IntKind} (hx : eev E x = some (.int k i)) (hy : eev E y = some (.int yk j)) (h0 : 0 ≤ j) (hr : k.wrap (i * 2 ^ min j.toNat k.bits) = r) : Yld P n ⟨some d, .binOp .shl t x y yt, ty, pos, aft, none⟩ E (.int k r) := ⟨fun a w ha => by
  simp only [execOp, ha.ev hx, ha.ev hy, eqGuard_at_int, binOp_shl, Op.shift]
  rw [if_neg (by omega), hr]; rfl⟩
end bin
theorem y_not {x : Operand} {b : Bool} {t : TypeId} (hx : eev E x = some (.bool b)) : Yld P n ⟨some d, .unOp .not t x, ty, pos, aft, none⟩ E (.bool (!b)) := ⟨fun a w ha => by
  simp only [execOp, ha.ev hx]; rfl⟩
theorem y_conv {x : Operand} {k k' : IntKind} {i r : Int} {s t : TypeId} (hx : eev E x = some (.int k' i)) (hs : (P.underlying s).isSome = true) (ht : P.underlying t = some (.int k)) (hr : k.wrap i = r) :
    Yld P n ⟨some d, .convert s t x, ty, pos, aft, none⟩ E (.int k r) := ⟨fun a w ha => by
  obtain ⟨ds, hds⟩ := Option.isSome_iff_exists.1 hs
  simp only [execOp, ha.ev hx, convert, Sem.run_bind, run_underlying hds, run_underlying ht, Result.andThen_ok, Conv.intToInt, hr]
  rfl⟩
theorem y_len {x : Operand} {A : Option Addr} {m c : Nat} {t e : TypeId} (hx : eev E x = some (.slice A m c)) (ht : P.underlying t = some (.slice e)) :
    Yld P n ⟨some d, .call { callee := .builtin .len, args := #[x], argTypes := #[t] }, ty, pos, aft, none⟩ E (.int .i64 m) := ⟨fun a w ha => by
  simp only [execOp, resolve, invoke, builtin, Sem.run_bind, Sem.run_pure, Result.andThen_ok, List.map_toArray, List.map_cons, List.map_nil, ha.ev hx, Builtin.len_]
  simp [run_underlying ht, goInt]⟩
theorem y_cap {x : Operand} {A : Option Addr} {m c : Nat} {t e : TypeId} (hx : eev E x = some (.slice A m c)) (ht : P.underlying t = some (.slice e)) :
    Yld P n ⟨some d, .call { callee := .builtin .cap, args := #[x], argTypes := #[t] }, ty, pos, aft, none⟩ E (.int .i64 c) := ⟨fun a w ha => by
  simp only [execOp, resolve, invoke, builtin, Sem.run_bind, Sem.run_pure, Result.andThen_ok, List.map_toArray, List.map_cons, List.map_nil, ha.ev hx, Builtin.cap_]
  simp [run_underlying ht, goInt]⟩
theorem y_nilCheck {x : Operand} {p : Addr} (hx : eev E x = some (.pointer (some p))) : Yld P n ⟨some d, .nilCheck x, ty, pos, aft, none⟩ E (.pointer (some p)) := ⟨fun a w ha => by
  simp only [execOp, ha.ev hx]; rfl⟩
/-! what kind of goal stands here (they change nothing; they fail fast) -/
theorem k_T {c : Code} (h : T P n c Q E w) : T P n c Q E w := h
theorem k_TL {l : List Oper} (h : TL P n ops l Q E w) : TL P n ops l Q E w := h
theorem k_N (h : N P n Q E w) : N P n Q E w := h
theorem k_X {id : Nat} (h : X P n id Q E w) : X P n id Q E w := h
theorem k_RT (h : RT P n Q E w) : RT P n Q E w := h
section
variable {o : Oper} {dst : Option Tmp} {x y z : Operand} {t t' : TypeId} {b : BinOp} {j : Nat} {bb : Bool} {op : Op}
theorem k_move (h : TL P n ops (⟨dst, .move x, ty, pos, aft, none⟩ :: rest) Q E w) : TL P n ops (⟨dst, .move x, ty, pos, aft, none⟩ :: rest) Q E w := h
theorem k_assign (h : TL P n ops (⟨dst, .assign x, ty, pos, aft, none⟩ :: rest) Q E w) : TL P n ops (⟨dst, .assign x, ty, pos, aft, none⟩ :: rest) Q E w := h
theorem k_pick (h : TL P n ops (⟨dst, .pick x y z, ty, pos, aft, none⟩ :: rest) Q E w) : TL P n ops (⟨dst, .pick x y z, ty, pos, aft, none⟩ :: rest) Q E w := h
theorem k_nil (h : TL P n ops (⟨dst, .nilCheck x, ty, pos, aft, none⟩ :: rest) Q E w) : TL P n ops (⟨dst, .nilCheck x, ty, pos, aft, none⟩ :: rest) Q E w := h
theorem k_bin (h : TL P n ops (⟨dst, .binOp b t x y t', ty, pos, aft, none⟩ :: rest) Q E w) : TL P n ops (⟨dst, .binOp b t x y t', ty, pos, aft, none⟩ :: rest) Q E w := h
theorem k_fa (h : TL P n ops (⟨dst, .fieldAddr t x j, ty, pos, aft, none⟩ :: rest) Q E w) : TL P n ops (⟨dst, .fieldAddr t x j, ty, pos, aft, none⟩ :: rest) Q E w := h
theorem k_load (h : TL P n ops (⟨dst, .load t x, ty, pos, aft, none⟩ :: rest) Q E w) : TL P n ops (⟨dst, .load t x, ty, pos, aft, none⟩ :: rest) Q E w := h
theorem k_ext (h : TL P n ops (⟨dst, .extract x j, ty, pos, aft, none⟩ :: rest) Q E w) : TL P n ops (⟨dst, .extract x j, ty, pos, aft, none⟩ :: rest) Q E w := h
theorem k_grd (h : TL P n ops (⟨dst, op, ty, pos, aft, some (j, bb)⟩ :: rest) Q E w) : TL P n ops (⟨dst, op, ty, pos, aft, some (j, bb)⟩ :: rest) Q E w := h
theorem k_sl {lo hi mx : Option Operand} (h : TL P n ops (⟨dst, .slice t x lo hi mx, ty, pos, aft, none⟩ :: rest) Q E w) : TL P n ops (⟨dst, .slice t x lo hi mx, ty, pos, aft, none⟩ :: rest) Q E w := h
end
end ops
end Go.Proofs.YtalainpmlonahaaDoor
end
section
/-!
  Questions asked are counted upwards. No program in sight.
-/
set_option linter.all false
namespace Go.Proofs.YtalainpmlonahaaDoor
open Go.RowKit
theorem farStore_drawn {P : Program} {w w' : World} {a : Addr} {v : Value} {b : Bool} {l : List Addr} (h : w.farStore P a v b = .ok (w', l)) : w'.drawn = w.drawn := by
  unfold World.farStore at h
  split at h
  · split at h
    · rename_i r hr
      cases h
      unfold World.viewStore at hr
      simp only [bind, Except.bind, pure, Except.pure, throw, throwThe, MonadExceptOf.throw] at hr
      repeat' (split at hr <;> try cases hr)
      all_goals rfl
    · cases h
  · cases h
theorem ask_drawn {α : Type} : ∀ (x : Ask α) (w : World), w.drawn ≤ (w.ask x).2.drawn := by
  intro x
  induction x with
  | done a => intro w; simp [World.ask]
  | ask what range k ih =>
    intro w
    simp only [World.ask]
    split
    · exact ih _ _
    · exact Nat.le_trans (Nat.le_succ _) (ih _ { w with drawn := w.drawn + 1 })
theorem sys_drawn (w : World) (c : Sys) : w.drawn ≤ (w.sys c).2.drawn := by
  unfold World.sys
  have := ask_drawn (Kernel.perform c w.os) w
  split
  · exact Nat.le_refl _
  · rename_i h; rw [h] at this; exact this
theorem run_drawn {α : Type} {P : Program} : ∀ (x : Sem α) (w : World) {v : α} {w' : World}, x.run P w = .ok v w' → w.drawn ≤ w'.drawn := by
  intro x
  induction x with
  | pure a => intro w v w' h; simp only [Sem.run] at h; cases h; exact Nat.le_refl _
  | load m a k ih => intro w v w' h; simp only [Sem.run] at h; split at h; exact ih _ _ h; split at h; exact ih _ _ h; cases h
  | store m a u k ih =>
    intro w v w' h
    have key : ∀ {v : α} {w' : World}, (match w.cell? a with
        | some _ => if w.frozen? a then Result.halt (.unsupported (.unsafePointer "a write to bytes that a string shares")) w else k.run P (w.setCell a u)
        | none => match w.farStore P a u (m == Mode.atomic) with
          | .ok (w, _) => k.run P w
          | .error h => .halt h w) = .ok v w' → w.drawn ≤ w'.drawn := by
      intro v w' h
      split at h
      · split at h
        · cases h
        · exact ih (w.setCell a u) h
      · split at h
        · rename_i hf; have := farStore_drawn hf; have := ih _ h; omega
        · cases h
    cases u <;> first | exact key h | (simp only [Sem.run] at h; cases h)
  | new o k ih => intro w v w' h; simp only [Sem.run] at h; exact ih _ { w with heap := w.heap.push o } h
  | shape r k ih => intro w v w' h; simp only [Sem.run] at h; exact ih _ _ h
  | freeze a n k ih => intro w v w' h; simp only [Sem.run] at h; have := ih _ h; unfold World.freeze at this; split at this <;> exact this
  | frozen a k ih => intro w v w' h; simp only [Sem.run] at h; exact ih _ _ h
  | getObj r k ih => intro w v w' h; simp only [Sem.run] at h; split at h; cases h; exact ih _ _ h; cases h
  | setObj r o k ih => intro w v w' h; simp only [Sem.run] at h; split at h; cases h; exact ih { w with heap := w.heap.setIfInBounds r o } h; cases h
  | choose q k ih => intro w v w' h; simp only [Sem.run] at h; split at h; exact ih _ _ h; have := ih _ _ h; simp only at this; omega
  | sys c k ih => intro w v w' h; simp only [Sem.run] at h; have := sys_drawn w c; have := ih _ _ h; omega
  | program k ih => intro w v w' h; simp only [Sem.run] at h; exact ih _ _ h
  | mark m k ih => intro w v w' h; simp only [Sem.run] at h; exact ih _ h
  | halt h => intro w v w' h; simp only [Sem.run] at h; cases h
end Go.Proofs.YtalainpmlonahaaDoor
end
section
/-!
  MEMORY OF THE CALL's OWN, PART BY PART: a list of assertions on parts of the heap that share no block. No program in sight.
-/
namespace Go.Proofs.YtalainpmlonahaaDoor
open Go.RowKit

abbrev Hp := Nat → Option Obj
abbrev Assn := Hp → Prop
def hdis (h1 h2 : Hp) : Prop := ∀ b, h1 b = none ∨ h2 b = none
def hun (h1 h2 : Hp) : Hp := fun b => (h1 b).or (h2 b)
def hone (g : Nat) (o : Obj) : Hp := fun b => if b = g then some o else none
def hemp : Hp := fun _ => none
def sepa (A B : Assn) : Assn := fun h => ∃ h1 h2, hdis h1 h2 ∧ h = hun h1 h2 ∧ A h1 ∧ B h2
def big : List Assn → Assn
  | [] => fun _ => True
  | A :: L => sepa A (big L)
def Sub (h : Hp) (w : World) : Prop := ∀ b o, h b = some o → w.heap[b]? = some o

theorem hun_comm {h1 h2 : Hp} (hd : hdis h1 h2) : hun h1 h2 = hun h2 h1 := by
  funext b
  unfold hun
  rcases hd b with h | h <;> rw [h] <;> cases h1 b <;> cases h2 b <;> simp_all
theorem hdis.symm {h1 h2 : Hp} (hd : hdis h1 h2) : hdis h2 h1 := fun b => (hd b).symm
theorem hun_assoc (h1 h2 h3 : Hp) : hun (hun h1 h2) h3 = hun h1 (hun h2 h3) := by
  funext b; unfold hun; cases h1 b <;> cases h2 b <;> cases h3 b <;> rfl
theorem hun_none {h1 h2 : Hp} {b : Nat} : hun h1 h2 b = none ↔ h1 b = none ∧ h2 b = none := by
  unfold hun; cases h1 b <;> cases h2 b <;> simp
theorem hdis_hun {h1 h2 h3 : Hp} : hdis (hun h1 h2) h3 ↔ hdis h1 h3 ∧ hdis h2 h3 := by
  constructor
  · intro h
    exact ⟨fun b => (h b).imp (fun e => (hun_none.1 e).1) id, fun b => (h b).imp (fun e => (hun_none.1 e).2) id⟩
  · rintro ⟨h1, h2⟩ b
    rcases h1 b with e1 | e1
    · rcases h2 b with e2 | e2
      · exact .inl (hun_none.2 ⟨e1, e2⟩)
      · exact .inr e2
    · exact .inr e1
theorem Sub.left {h1 h2 : Hp} {w : World} (h : Sub (hun h1 h2) w) : Sub h1 w := fun b o e => h b o (by unfold hun; rw [e]; rfl)
theorem Sub.right {h1 h2 : Hp} {w : World} (hd : hdis h1 h2) (h : Sub (hun h1 h2) w) : Sub h2 w := fun b o e => h b o (by
  unfold hun
  rcases hd b with e1 | e1
  · rw [e1, e]; rfl
  · rw [e1] at e; cases e)
theorem Sub.hun {h1 h2 : Hp} {w : World} (a : Sub h1 w) (b : Sub h2 w) : Sub (Go.Proofs.YtalainpmlonahaaDoor.hun h1 h2) w := fun k o e => by
  unfold Go.Proofs.YtalainpmlonahaaDoor.hun at e
  cases e1 : h1 k with
  | some o1 => rw [e1] at e; simp at e; subst e; exact a k o1 e1
  | none => rw [e1] at e; simp at e; exact b k o e
theorem sepa_swap {A B C : Assn} {h : Hp} (hh : sepa A (sepa B C) h) : sepa B (sepa A C) h := by
  obtain ⟨h1, h2, d, rfl, ha, h3, h4, d', rfl, hb, hc⟩ := hh
  have d1 := (hdis_hun.1 d.symm)
  refine ⟨h3, hun h1 h4, (hdis_hun.2 ⟨d1.1.symm, d'.symm⟩).symm, ?_, hb, h1, h4, d1.2.symm, rfl, ha, hc⟩
  rw [← hun_assoc, hun_comm d1.1.symm, hun_assoc]
/-- the i-th part to the front -/
theorem big_front : ∀ {L : List Assn} {i : Nat} {A : Assn} {h : Hp}, L[i]? = some A → big L h → sepa A (big (L.eraseIdx i)) h
  | [], i, A, h, hi, _ => by simp at hi
  | B :: L, 0, A, h, hi, hb => by simp at hi; subst hi; exact hb
  | B :: L, i + 1, A, h, hi, hb => by
    obtain ⟨h1, h2, d, e, hB, hL⟩ := hb
    exact sepa_swap ⟨h1, h2, d, e, hB, big_front (by simpa using hi) hL⟩
theorem big_append : ∀ {L M : List Assn} {h : Hp}, sepa (big L) (big M) h → big (L ++ M) h
  | [], M, h, hh => by
    obtain ⟨h1, h2, d, rfl, _, hM⟩ := hh
    exact big_weak d hM
  | A :: L, M, h, hh => by
    obtain ⟨h1, h2, d, rfl, ⟨h3, h4, d', rfl, hA, hL⟩, hM⟩ := hh
    obtain ⟨da, db⟩ := hdis_hun.1 d
    exact ⟨h3, hun h4 h2, (hdis_hun.2 ⟨d'.symm, da.symm⟩).symm, hun_assoc _ _ _, hA, big_append ⟨h4, h2, db, rfl, hL, hM⟩⟩
where
  /-- more heap does no harm -/
  big_weak : ∀ {M : List Assn} {h1 h2 : Hp}, hdis h1 h2 → big M h2 → big M (hun h1 h2)
  | [], _, _, _, _ => trivial
  | B :: M, h1, h2, d, hb => by
    obtain ⟨h3, h4, d', rfl, hB, hM⟩ := hb
    have d1 := hdis_hun.1 d.symm
    refine ⟨h3, hun h1 h4, (hdis_hun.2 ⟨d1.1.symm, d'.symm⟩).symm, ?_, hB, big_weak d1.2.symm hM⟩
    rw [← hun_assoc, hun_comm d1.1.symm, hun_assoc]

/-- Since world w0 nothing that was there has turned, but for the blocks of which X is true; L: what is known of these and of the new ones. -/
structure Tp (w0 w : World) : Prop where
  tape : w.tape = w0.tape
  drawn : w0.drawn ≤ w.drawn
theorem Tp.rfl {w : World} : Tp w w := ⟨_root_.rfl, Nat.le_refl _⟩
theorem Tp.trans {w0 w w' : World} (h' : Tp w w') (h : Tp w0 w) : Tp w0 w' := ⟨h'.tape.trans h.tape, Nat.le_trans h.drawn h'.drawn⟩
theorem Tp.of {w w' : World} (h : (w'.tape, w'.drawn) = (w.tape, w.drawn)) : Tp w w' := by
  simp only [Prod.mk.injEq] at h
  exact ⟨h.1, Nat.le_of_eq h.2.symm⟩
structure St (w0 : World) (X : Nat → Prop) (L : List Assn) (w : World) : Prop where
  os : w.os = w0.os
  tape : Tp w0 w
  output : w.output = w0.output
  size : w0.heap.size ≤ w.heap.size
  keep : ∀ b, b < w0.heap.size → ¬ X b → w.heap[b]? = w0.heap[b]?
  res : ∃ h, big L h ∧ Sub h w ∧ ∀ b, h b ≠ none → X b ∨ w0.heap.size ≤ b
abbrev no : Nat → Prop := fun _ => False

section
variable {w0 w w' : World} {X : Nat → Prop} {L : List Assn} {A : Assn}
theorem St.start (w : World) : St w no [] w := ⟨rfl, Tp.rfl, rfl, Nat.le_refl _, fun _ _ _ => rfl, ⟨hemp, trivial, fun _ _ h => by simp [hemp] at h, fun b h => absurd rfl h⟩⟩
theorem St.drew (h : St w0 X L w) : St w0 X L w.drew := ⟨h.os, ⟨h.tape.tape, Nat.le_succ_of_le h.tape.drawn⟩, h.output, h.size, h.keep, h.res⟩
theorem St.get (h : St w0 X L w) {i : Nat} (hi : L[i]? = some A) : ∃ k, A k ∧ Sub k w := by
  obtain ⟨hp, hb, hs, _⟩ := h.res
  obtain ⟨h1, h2, d, rfl, ha, _⟩ := big_front hi hb
  exact ⟨h1, ha, hs.left⟩
theorem Sub.lt {k : Hp} (h : Sub k w) {b : Nat} (hb : k b ≠ none) : b < w.heap.size := by
  cases e : k b with
  | none => exact absurd e hb
  | some o =>
    have := h b o e
    rcases Nat.lt_or_ge b w.heap.size with hlt | hge
    · exact hlt
    · rw [Array.getElem?_eq_none hge] at this; cases this
/-- a step that turns the i-th part, and makes new blocks -/
theorem St.stepT (h : St w0 X L w) {i : Nat} {A' : Assn} (hi : L[i]? = some A) (ho : w'.os = w.os) (ht : Tp w w') (hu : w'.output = w.output) (hz : w.heap.size ≤ w'.heap.size)
    (hw : ∀ k, A k → Sub k w → ∃ k', A' k' ∧ Sub k' w' ∧ (∀ b, k' b ≠ none → k b ≠ none ∨ w.heap.size ≤ b) ∧ ∀ b, b < w.heap.size → k b = none → w'.heap[b]? = w.heap[b]?) :
    St w0 X (A' :: L.eraseIdx i) w' := by
  obtain ⟨hp, hb, hs, hX⟩ := h.res
  obtain ⟨h1, h2, d, rfl, ha, hL⟩ := big_front hi hb
  obtain ⟨k', hA', hs', hdom, hkeep⟩ := hw h1 ha hs.left
  have hs2 := hs.right d
  have hX1 : ∀ b, h1 b ≠ none → X b ∨ w0.heap.size ≤ b := fun b hb => hX b (fun e => hb (hun_none.1 e).1)
  have hX2 : ∀ b, h2 b ≠ none → X b ∨ w0.heap.size ≤ b := fun b hb => hX b (fun e => hb (hun_none.1 e).2)
  have hdk : hdis k' h2 := fun b => by
    cases e : h2 b with
    | none => exact .inr rfl
    | some o =>
      left
      cases e' : k' b with
      | none => rfl
      | some o' =>
        exfalso
        rcases hdom b (by rw [e']; simp) with h3 | h3
        · rcases d b with h4 | h4
          · exact h3 h4
          · rw [h4] at e; cases e
        · have := Sub.lt hs2 (b := b) (by rw [e]; simp)
          omega
  refine ⟨ho.trans h.os, ht.trans h.tape, hu.trans h.output, Nat.le_trans h.size hz, fun b hb' hx => ?_, hun k' h2, ⟨k', h2, hdk, rfl, hA', hL⟩, ?_, fun b hb => ?_⟩
  · have : h1 b = none := by
      cases e : h1 b with
      | none => rfl
      | some o => rcases hX1 b (by rw [e]; simp) with h3 | h3; exact absurd h3 hx; omega
    exact (hkeep b (Nat.lt_of_lt_of_le hb' h.size) this).trans (h.keep b hb' hx)
  · refine hs'.hun fun b o e => ?_
    have hlt := Sub.lt hs2 (b := b) (by rw [e]; simp)
    have : h1 b = none := by
      rcases d b with h3 | h3
      · exact h3
      · rw [h3] at e; cases e
    exact (hkeep b hlt this).trans (hs2 b o e)
  · by_cases e : k' b = none
    · exact hX2 b (fun e2 => hb (hun_none.2 ⟨e, e2⟩))
    · rcases hdom b e with h3 | h3
      · exact hX1 b h3
      · exact .inr (Nat.le_trans h.size h3)
theorem St.step (h : St w0 X L w) {i : Nat} {A' : Assn} (hi : L[i]? = some A) (ho : w'.os = w.os) (ht : (w'.tape, w'.drawn) = (w.tape, w.drawn)) (hu : w'.output = w.output) (hz : w.heap.size ≤ w'.heap.size)
    (hw : ∀ k, A k → Sub k w → ∃ k', A' k' ∧ Sub k' w' ∧ (∀ b, k' b ≠ none → k b ≠ none ∨ w.heap.size ≤ b) ∧ ∀ b, b < w.heap.size → k b = none → w'.heap[b]? = w.heap[b]?) :
    St w0 X (A' :: L.eraseIdx i) w' := h.stepT hi ho (Tp.of ht) hu hz hw
/-- a step that makes new blocks alone -/
theorem St.grow (h : St w0 X L w) {A' : Assn} (ho : w'.os = w.os) (ht : (w'.tape, w'.drawn) = (w.tape, w.drawn)) (hu : w'.output = w.output) (hz : w.heap.size ≤ w'.heap.size)
    (hkeep : ∀ b, b < w.heap.size → w'.heap[b]? = w.heap[b]?) (hA : ∃ k', A' k' ∧ Sub k' w' ∧ ∀ b, k' b ≠ none → w.heap.size ≤ b) : St w0 X (A' :: L) w' := by
  obtain ⟨hp, hb, hs, hX⟩ := h.res
  obtain ⟨k', hA', hs', hdom⟩ := hA
  refine ⟨ho.trans h.os, (Tp.of ht).trans h.tape, hu.trans h.output, Nat.le_trans h.size hz, fun b hb' hx => (hkeep b (Nat.lt_of_lt_of_le hb' h.size)).trans (h.keep b hb' hx), hun k' hp, ⟨k', hp, fun b => ?_, rfl, hA', hb⟩, ?_, fun b hb => ?_⟩
  · by_cases e : hp b = none
    · exact .inr e
    · left
      cases e' : k' b with
      | none => rfl
      | some o => have h1 := hdom b (by rw [e']; simp); have h2 := Sub.lt hs e; omega
  · exact hs'.hun fun b o e => (hkeep b (Sub.lt hs (b := b) (by rw [e]; simp))).trans (hs b o e)
  · by_cases e : k' b = none
    · exact hX b (fun e2 => hb (hun_none.2 ⟨e, e2⟩))
    · exact .inr (Nat.le_trans h.size (hdom b e))
/-- behind a call that turned nothing that was there -/
theorem St.call {M : List Assn} (h : St w0 X L w) (h' : St w no M w') : St w0 X (M ++ L) w' := by
  obtain ⟨hp, hb, hs, hX⟩ := h.res
  obtain ⟨k, kb, ks, kX⟩ := h'.res
  have hdom : ∀ b, k b ≠ none → w.heap.size ≤ b := fun b hb => (kX b hb).resolve_left id
  refine ⟨h'.os.trans h.os, h'.tape.trans h.tape, h'.output.trans h.output, Nat.le_trans h.size h'.size, fun b hb' hx => (h'.keep b (Nat.lt_of_lt_of_le hb' h.size) id).trans (h.keep b hb' hx), hun k hp,
    big_append ⟨k, hp, fun b => ?_, rfl, kb, hb⟩, ?_, fun b hb => ?_⟩
  · by_cases e : hp b = none
    · exact .inr e
    · left
      cases e' : k b with
      | none => rfl
      | some o => have h1 := hdom b (by rw [e']; simp); have h2 := Sub.lt hs e; omega
  · exact ks.hun fun b o e => (h'.keep b (Sub.lt hs (b := b) (by rw [e]; simp)) id).trans (hs b o e)
  · by_cases e : k b = none
    · exact hX b (fun e2 => hb (hun_none.2 ⟨e, e2⟩))
    · exact .inr (Nat.le_trans h.size (hdom b e))
/-- behind a call that turned the i-th part alone: Y, the blocks that it may turn, lie in it -/
theorem St.callX {M : List Assn} {Y : Nat → Prop} (h : St w0 X L w) {i : Nat} (hi : L[i]? = some A) (hY : ∀ k, A k → ∀ b, Y b → k b ≠ none) (h' : St w Y M w') : St w0 X (M ++ L.eraseIdx i) w' := by
  obtain ⟨hp, hb, hs, hX⟩ := h.res
  obtain ⟨h1, h2, d, rfl, ha, hL⟩ := big_front hi hb
  obtain ⟨k, kb, ks, kX⟩ := h'.res
  have hs2 := hs.right d
  have hYn : ∀ b, h2 b ≠ none → ¬ Y b := fun b hb hy => by
    rcases d b with e | e
    · exact hY h1 ha b hy e
    · exact hb e
  refine ⟨h'.os.trans h.os, h'.tape.trans h.tape, h'.output.trans h.output, Nat.le_trans h.size h'.size, fun b hb' hx => ?_, hun k h2,
    big_append ⟨k, h2, fun b => ?_, rfl, kb, hL⟩, ?_, fun b hb => ?_⟩
  · refine (h'.keep b (Nat.lt_of_lt_of_le hb' h.size) fun hy => ?_).trans (h.keep b hb' hx)
    rcases hX b (fun e => hY h1 ha b hy (hun_none.1 e).1) with h3 | h3
    · exact hx h3
    · omega
  · by_cases e : h2 b = none
    · exact .inr e
    · left
      cases e' : k b with
      | none => rfl
      | some o =>
        rcases kX b (by rw [e']; simp) with h3 | h3
        · exact absurd h3 (hYn b e)
        · have := Sub.lt hs2 e; omega
  · exact ks.hun fun b o e => (h'.keep b (Sub.lt hs2 (b := b) (by rw [e]; simp)) (hYn b (by rw [e]; simp))).trans (hs2 b o e)
  · by_cases e : k b = none
    · exact hX b (fun e2 => hb (hun_none.2 ⟨e, (hun_none.1 e2).2⟩))
    · rcases kX b e with h3 | h3
      · exact hX b (fun e2 => hY h1 ha b h3 (hun_none.1 e2).1)
      · exact .inr (Nat.le_trans h.size h3)
end
end Go.Proofs.YtalainpmlonahaaDoor
end
section
/-!
  MEMORY: what each operation on memory does to the parts of the heap that the call owns. No program in sight.
-/
namespace Go.Proofs.YtalainpmlonahaaDoor
open Go.RowKit

/-- block g is a row of just these cells -/
structure cellsA (g : Nat) (t : TypeId) (cs : List Value) (h : Hp) : Prop where
  eq : h = hone g (.cells cs.toArray t (0, 0))
/-- a slice that the call may append to: nil, or at the head of a row -/
structure rowA (e : TypeId) (size : Nat) (v : Value) (n : Nat) (xs : List Value) (h : Hp) : Prop where
  is : 
  (v = .slice none 0 0 ∧ n = 0 ∧ xs = []) ∨ ∃ g cap cur, v = .slice (some ⟨g, 0, none⟩) n cap ∧ xs.length = n * size ∧ n ≤ cap ∧ cap ≤ maxLen ∧ cur.size = cap * size ∧ cur.toList.take (n * size) = xs ∧
    h = hone g (.cells cur e (0, 0))
/-- the cells from an address on -/
def Rd (w : World) (A : Option Addr) (xs : List Value) : Prop :=
  0 < xs.length → ∃ b o, A = some ⟨b, o, none⟩ ∧ ∀ j u, xs[j]? = some u → w.cell? ⟨b, o + j, none⟩ = some u
/-- a slice of n elements whose cells are xs -/
def Sl (w : World) (size : Nat) (v : Value) (n : Nat) (xs : List Value) : Prop :=
  ∃ A c, v = .slice A n c ∧ xs.length = n * size ∧ n ≤ c ∧ c ≤ maxLen ∧ Rd w A xs

theorem hone_self (g : Nat) (o : Obj) : hone g o g = some o := by simp [hone]
theorem hone_ne {g b : Nat} {o : Obj} (h : hone g o b ≠ none) : b = g := by
  unfold hone at h
  split at h
  · assumption
  · exact absurd rfl h
theorem Sub.one {g : Nat} {o : Obj} {w : World} (h : Sub (hone g o) w) : w.heap[g]? = some o := h g o (hone_self g o)
theorem Sub.of_one {g : Nat} {o : Obj} {w : World} (h : w.heap[g]? = some o) : Sub (hone g o) w := fun b u e => by
  unfold hone at e
  split at e
  · rename_i hb; cases e; rw [hb]; exact h
  · cases e

section reads
variable {w w' : World} {A : Option Addr} {xs : List Value}
theorem Rd.nil_ : Rd w A [] := fun h => absurd h (by simp)
theorem lt_of_cell {a : Addr} {v : Value} (h : w.cell? a = some v) : a.block < w.heap.size := World.block_lt_of_cell? w a h
theorem cell_of_heap {a : Addr} (h : w'.heap[a.block]? = w.heap[a.block]?) : w'.cell? a = w.cell? a := World.cell?_of_block (w := w) h
theorem Rd.keep (h : Rd w A xs) (hk : ∀ b, b < w.heap.size → w'.heap[b]? = w.heap[b]?) : Rd w' A xs := fun hn => by
  obtain ⟨b, o, e, hc⟩ := h hn
  exact ⟨b, o, e, fun j u hu => (cell_of_heap (hk _ (lt_of_cell (hc j u hu)))).trans (hc j u hu)⟩
theorem Sl.keep {size : Nat} {v : Value} {n : Nat} (h : Sl w size v n xs) (hk : ∀ b, b < w.heap.size → w'.heap[b]? = w.heap[b]?) : Sl w' size v n xs := by
  obtain ⟨A, c, e, h1, h2, h3, h4⟩ := h
  exact ⟨A, c, e, h1, h2, h3, h4.keep hk⟩
theorem Rd.cut (h : Rd w A xs) {k c m size : Nat} (hc : c = k → m = 0 ∨ xs.length ≤ k * size) : Rd w (if c = k then A else A.map (·.add (k * size))) ((xs.drop (k * size)).take m) := by
  intro hn
  have hl : k * size < xs.length ∧ 0 < m := by
    simp only [List.length_take, List.length_drop] at hn; omega
  obtain ⟨b, o, rfl, hcell⟩ := h (by omega)
  rw [if_neg (by intro e; have := hc e; omega)]
  refine ⟨b, o + k * size, by simp [Addr.add_lit], fun j u hu => ?_⟩
  have hj : j < m := by
    have := (List.getElem?_eq_some_iff.1 hu).1
    simp only [List.length_take] at this; omega
  rw [List.getElem?_take_of_lt hj, List.getElem?_drop] at hu
  rw [Nat.add_assoc]
  exact hcell _ u hu
theorem Sl.nil_ (w : World) (size : Nat) : Sl w size (.slice none 0 0) 0 [] := ⟨none, 0, rfl, by simp, Nat.le_refl _, Nat.zero_le _, Rd.nil_⟩
end reads

section st
variable {w0 w w' : World} {Z : Nat → Prop} {L : List Assn} {A : Assn}
theorem St.rd {B : Option Addr} {xs : List Value} (h : St w0 no L w) (hr : Rd w0 B xs) : Rd w B xs := hr.keep fun b hb => h.keep b hb id
theorem St.sl {size n : Nat} {v : Value} {xs : List Value} (h : St w0 no L w) (hr : Sl w0 size v n xs) : Sl w size v n xs := hr.keep fun b hb => h.keep b hb id
theorem St.cell {B : Addr} {u : Value} (h : St w0 no L w) (hr : w0.cell? B = some u) : w.cell? B = some u := (cell_of_heap (h.keep _ (lt_of_cell hr) id)).trans hr
theorem St.box {g : Nat} {t : TypeId} {cs : List Value} {i : Nat} (h : St w0 Z L w) (hi : L[i]? = some (cellsA g t cs)) : w.heap[g]? = some (.cells cs.toArray t (0, 0)) := by
  obtain ⟨k, ⟨rfl⟩, hs⟩ := h.get hi
  exact hs.one
theorem St.boxCell {g : Nat} {t : TypeId} {cs : List Value} {i : Nat} (h : St w0 Z L w) (hi : L[i]? = some (cellsA g t cs)) (j : Nat) : w.cell? ⟨g, j, none⟩ = cs[j]? := by
  rw [cell_of_row w g j _ t (0, 0) (h.box hi)]; simp
theorem owns_of_rowA {e : TypeId} {size n : Nat} {v : Value} {xs : List Value} {k : Hp} (h : rowA e size v n xs k) (hs : Sub k w) : w.ownsRow 0 e size v n xs ∧ ∀ b, v.ownBlock = some b → k b ≠ none := by
  rcases h.is with ⟨rfl, rfl, rfl⟩ | ⟨g, cap, cur, rfl, h1, h2, h3, h4, h5, rfl⟩
  · exact ⟨⟨by simp, .inl ⟨rfl, rfl⟩⟩, fun b hb => by simp [Value.ownBlock] at hb⟩
  · exact ⟨⟨h1, .inr ⟨g, cap, cur, rfl, Nat.zero_le _, hs.one, h2, h3, h4, h5⟩⟩, fun b hb => by
      simp only [Value.ownBlock, Option.some.injEq] at hb; subst hb; rw [hone_self]; simp⟩
theorem rowA_of_owns {e : TypeId} {size n base : Nat} {v : Value} {xs : List Value} (h : w.ownsRow base e size v n xs) : ∃ k, rowA e size v n xs k ∧ Sub k w ∧ ∀ b, k b ≠ none → v.ownBlock = some b := by
  obtain ⟨h1, ⟨rfl, rfl⟩ | ⟨g, cap, cur, rfl, _, h2, h3, h4, h5, h6⟩⟩ := h
  · have : xs = [] := List.eq_nil_of_length_eq_zero (by simpa using h1)
    subst this
    exact ⟨hemp, ⟨.inl ⟨rfl, rfl, rfl⟩⟩, fun _ _ h => by simp [hemp] at h, fun b h => absurd rfl h⟩
  · exact ⟨hone g _, ⟨.inr ⟨g, cap, cur, rfl, h1, h3, h4, h5, h6, rfl⟩⟩, Sub.of_one h2, fun b hb => by rw [hone_ne hb]; rfl⟩
theorem St.row {e : TypeId} {size n : Nat} {v : Value} {xs : List Value} {i : Nat} (h : St w0 Z L w) (hi : L[i]? = some (rowA e size v n xs)) : Sl w size v n xs := by
  obtain ⟨k, hk, hs⟩ := h.get hi
  rcases hk.is with ⟨rfl, rfl, rfl⟩ | ⟨g, cap, cur, rfl, h1, h2, h3, h4, h5, rfl⟩
  · exact Sl.nil_ w size
  · refine ⟨_, cap, rfl, h1, h2, h3, fun _ => ⟨g, 0, rfl, fun j u hu => ?_⟩⟩
    rw [cell_of_row w g _ cur e (0, 0) hs.one]
    have hj : j < n * size := by rw [← h1]; exact (List.getElem?_eq_some_iff.1 hu).1
    rw [← h5, List.getElem?_take, if_pos hj] at hu
    simpa using hu
theorem St.rowAt {e : TypeId} {size n : Nat} {v : Value} {xs : List Value} {i : Nat} (h : St w0 Z L w) (hi : L[i]? = some (rowA e size v n xs)) (hn : 0 < n) : ∃ g cap, v = .slice (some ⟨g, 0, none⟩) n cap := by
  obtain ⟨k, hk, hs⟩ := h.get hi
  rcases hk.is with ⟨rfl, rfl, rfl⟩ | ⟨g, cap, cur, rfl, h1, h2, h3, h4, h5, rfl⟩
  · omega
  · exact ⟨g, cap, rfl⟩
/-- a nil slice is owned for nothing -/
theorem St.addNil (h : St w0 Z L w) (e : TypeId) (size : Nat) : St w0 Z (rowA e size (.slice none 0 0) 0 [] :: L) w :=
  h.grow rfl rfl rfl (Nat.le_refl _) (fun _ _ => rfl) ⟨hemp, ⟨.inl ⟨rfl, rfl, rfl⟩⟩, fun _ _ h => by simp [hemp] at h, fun b h => absurd rfl h⟩
theorem St.alloc (h : St w0 Z L w) (t : TypeId) (cs : List Value) : St w0 Z (cellsA w.heap.size t cs :: L) (w.alloc (.cells cs.toArray t)) :=
  h.grow rfl rfl rfl (by simp) (fun b hb => Below.heap_alloc w _ b hb) ⟨_, ⟨rfl⟩, Sub.of_one (heap_alloc_new w _), fun b hb => by rw [hone_ne hb]; exact Nat.le_refl _⟩
def splice (cs : List Value) (o : Nat) (vs : List Value) : List Value := cs.take o ++ vs ++ cs.drop (o + vs.length)
theorem St.setRow (h : St w0 Z L w) {g : Nat} {t : TypeId} {cs : List Value} {i : Nat} (hi : L[i]? = some (cellsA g t cs)) (cs' : List Value) : St w0 Z (cellsA g t cs' :: L.eraseIdx i) (w.setRow g cs'.toArray) := by
  refine h.step hi rfl rfl rfl (by simp) fun k hk hs => ?_
  obtain ⟨rfl⟩ := hk
  refine ⟨_, ⟨rfl⟩, Sub.of_one (setRow_heap w g _ _ t (0, 0) hs.one), fun b hb => .inl ?_, fun b _ hb => setRow_other w g b _ ?_⟩
  · rw [hone_ne hb, hone_self]; simp
  · rintro rfl; rw [hone_self] at hb; cases hb
theorem St.setRowRow (h : St w0 Z L w) {e : TypeId} {size g n cap : Nat} {xs : List Value} {i o : Nat} {vs : List Value} (hi : L[i]? = some (rowA e size (.slice (some ⟨g, 0, none⟩) n cap) n xs)) (hf : o + vs.length ≤ n * size) :
    ∃ cur : Array Value, w.heap[g]? = some (.cells cur e (0, 0)) ∧ o + vs.length ≤ cur.size ∧ St w0 Z (rowA e size (.slice (some ⟨g, 0, none⟩) n cap) n (splice xs o vs) :: L.eraseIdx i) (w.setRow g (splice cur.toList o vs).toArray) := by
  obtain ⟨k, hk, hs⟩ := h.get hi
  rcases hk.is with ⟨h0, _⟩ | ⟨g', cap', cur, he, h1, h2, h3, h4, h5, rfl⟩
  · cases h0
  · simp only [Value.slice.injEq, Option.some.injEq, Addr.mk.injEq, and_true, true_and] at he
    obtain ⟨rfl, rfl⟩ := he
    have hle : n * size ≤ cur.size := by rw [h4]; exact Nat.mul_le_mul_right _ h2
    refine ⟨cur, hs.one, by omega, h.step hi rfl rfl rfl (by simp) fun k hk hs' => ?_⟩
    have hone_k : k g ≠ none := (owns_of_rowA hk hs').2 g rfl
    refine ⟨hone g (.cells (splice cur.toList o vs).toArray e (0, 0)), ⟨.inr ⟨g, cap, _, rfl, ?_, h2, h3, ?_, ?_, rfl⟩⟩, Sub.of_one (setRow_heap w g _ _ e (0, 0) hs.one), fun b hb => .inl (by rw [hone_ne hb]; exact hone_k), fun b _ hb => setRow_other w g b _ (by rintro rfl; exact hone_k hb)⟩
    · simp only [splice, List.length_append, List.length_take, List.length_drop]; omega
    · simp only [splice, List.size_toArray, List.length_append, List.length_take, List.length_drop, Array.length_toList]; omega
    · have hl : cur.toList.length = cur.size := Array.length_toList
      simp only [splice]
      rw [← h5]
      apply List.ext_getElem?
      intro j
      simp only [List.getElem?_take, List.getElem?_append, List.getElem?_drop, List.length_take, List.length_append, hl]
      repeat' split
      all_goals first | rfl | omega | (congr 1; omega) | skip
theorem run_append_of_nil {P : Program} (w : World) (base : Nat) (t ty e : TypeId) (i : TypeInfo) (size : Nat) (ht : P.underlying t = some (.slice e)) (hi : P.info? e = some i)
    (v : Value) (n : Nat) (xs : List Value) (hown : w.ownsRow base e size v n xs) (c : Nat) : (Builtin.append_ #[t, t] ty #[v, .slice none 0 c]).run P w = .ok v w := by
  rcases hown.2 with ⟨rfl, rfl⟩ | ⟨g, cap, cur, rfl, _, _, hnc, _⟩
  · simp [Builtin.append_, run_underlying ht, sizeOf, typeInfo, hi, Builtin.lenOf, Builtin.firstCells]
  · simp [Builtin.append_, run_underlying ht, sizeOf, typeInfo, hi, Builtin.lenOf, Builtin.firstCells, hnc, storeCells]
/-- what is asked of an element type: its zero value's cells, how many bytes it has -/
def ElemT (P : Program) (e : TypeId) (size bytes : Nat) : Prop := ∃ i z, P.info? e = some i ∧ i.zero = some z ∧ i.size = size ∧ i.bytes = bytes ∧ z.cells.size = size ∧ 0 < size
theorem St.append {P : Program} (h : St w0 Z L w) {e : TypeId} {size bytes n m c : Nat} {v : Value} {B : Option Addr} {xs news : List Value} {i : Nat} {t : TypeId} (ty : TypeId) (hi : L[i]? = some (rowA e size v n xs))
    (ht : P.underlying t = some (.slice e)) (hE : ElemT P e size bytes) (hl : news.length = m * size) (hr : Rd w B news) (h1 : ∀ u ∈ news, u.oneCell' = true) (hb : (n + m) * bytes ≤ 140737488355328) (h63 : n + m ≤ maxLen) :
    ∃ v' w', (Builtin.append_ #[t, t] ty #[v, .slice B m c]).run P w = .ok v' w' ∧ St w0 Z (rowA e size v' (n + m) (xs ++ news) :: L.eraseIdx i) w' := by
  obtain ⟨info, z, hinf, hz, hsz, hby, hzs, hpos⟩ := hE
  obtain ⟨k, hk, hs⟩ := h.get hi
  have hown := (owns_of_rowA hk hs).1
  have key : ∀ v' w', w.drawn ≤ w'.drawn → w'.ownsRow 0 e size v' (n + m) (xs ++ news) → w.grownBy w' v.ownBlock → (v'.ownBlock = v.ownBlock ∨ v'.ownBlock = some w.heap.size) → St w0 Z (rowA e size v' (n + m) (xs ++ news) :: L.eraseIdx i) w' := by
    intro v' w' hdr ho hg hloc
    refine h.stepT hi hg.os ⟨hg.tape, hdr⟩ hg.output hg.size fun k hk hs => ?_
    obtain ⟨k', hk', hs', hd'⟩ := rowA_of_owns ho
    have hd := (owns_of_rowA hk hs).2
    refine ⟨k', hk', hs', fun b hb => ?_, fun b hb hn => hg.block b hb fun e => hd b e.symm hn⟩
    have := hd' b hb
    rcases hloc with e | e
    · exact .inl (hd b (e ▸ this))
    · rw [e] at this; cases this; exact .inr (Nat.le_refl _)
  rcases B with _ | ad
  · have hn : news = [] := by
      rcases Nat.eq_zero_or_pos news.length with h0 | h0
      · exact List.eq_nil_of_length_eq_zero h0
      · obtain ⟨b, o, e, _⟩ := hr h0; cases e
    subst hn
    have hm : m = 0 := by
      rcases Nat.eq_zero_or_pos m with h0 | h0
      · exact h0
      · have := Nat.mul_pos h0 hpos; simp at hl; omega
    subst hm
    exact ⟨v, w, run_append_of_nil w 0 t ty e info size ht hinf v n xs hown c, key v w (Nat.le_refl _) (by simpa using hown) (World.grownBy.refl w _) (.inl rfl)⟩
  · have hcells : ∀ j u, news[j]? = some u → w.cell? (ad.add j) = some u := by
      intro j u hu
      obtain ⟨b, o, e, hc⟩ := hr (by have := (List.getElem?_eq_some_iff.1 hu).1; omega)
      cases e
      rw [Addr.add_lit]; exact hc j u hu
    obtain ⟨v', w', hrun, h2, h3, _, h5⟩ := run_append_own_at (P := P) w 0 t ty e info z size bytes ht hinf hz hsz hby hzs hpos v n xs hown ad m c news hl hcells h1 h63 hb (Nat.zero_le _)
    exact ⟨v', w', hrun, key v' w' (run_drawn _ _ hrun) h2 h3 h5⟩
end st
end Go.Proofs.YtalainpmlonahaaDoor
end
section
/-!
  OPERATIONS ON MEMORY, CALLS, RETURNS: one lemma each. No program in sight.
-/
namespace Go.Proofs.YtalainpmlonahaaDoor
open Go.RowKit

/-- a number, written out -/
def litO (n : Nat) : Option Nat := [0, 1, 2, 3, 4, 5, 6, 7, 8, 9, 10, 11, 12, 13, 14, 15, 16, 17, 18, 19, 20, 21, 22, 23, 24, 25, 26, 27, 28, 29, 30, 31, 32, 33, 34, 35, 36, 37, 38, 39, 40, 41, 42, 43, 44, 45, 46, 47, 48, 49, 50, 51, 52, 53, 54, 55, 56, 57, 58, 59, 60, 61, 62, 63, 64, 65, 66, 67, 68, 69, 70, 71, 72, 73, 74, 75, 76, 77, 78, 79, 80, 81, 82, 83, 84, 85, 86, 87, 88, 89, 90, 91, 92, 93, 94, 95, 96, 97, 98, 99, 100, 128, 256, 512].find? fun k => Nat.beq n k
theorem litO_eq {n m : Nat} (h : litO n = some m) : n = m := by
  have := List.find?_some h
  exact Nat.eq_of_beq_eq_true this
def szB (P : Program) (t : TypeId) : Option Nat := (P.info? t).bind fun i => litO i.size
theorem szB_some {P : Program} {t : TypeId} {n : Nat} (h : szB P t = some n) : ∃ i, P.info? t = some i ∧ i.size = n := by
  unfold szB at h
  obtain ⟨i, hi, h2⟩ := Option.bind_eq_some_iff.1 h
  exact ⟨i, hi, litO_eq h2⟩
def aggB (P : Program) (t : TypeId) : Option Bool := (P.underlying t).map fun d => match d with | .struct _ | .array _ _ => true | _ => false
def zeroB (P : Program) (t : TypeId) : Option Value := (P.info? t).bind (·.zero)
def oneB (l : List Value) : Bool := l.all (·.oneCell')
theorem oneB_mem {l : List Value} (h : oneB l = true) : ∀ u ∈ l, u.oneCell' = true := by simpa [oneB] using h

section runs
variable {P : Program} {w : World}
theorem run_sizeOf {t : TypeId} {n : Nat} (h : szB P t = some n) : (sizeOf t).run P w = .ok n w := by
  obtain ⟨i, hi, rfl⟩ := szB_some h
  simp [sizeOf, typeInfo, hi]
theorem run_isAgg {t : TypeId} {b : Bool} (h : aggB P t = some b) : (isAgg t).run P w = .ok b w := by
  unfold aggB at h
  obtain ⟨d, hd, rfl⟩ := Option.map_eq_some_iff.1 h
  simp only [isAgg, Sem.run_bind, run_underlying hd, Result.andThen_ok]
  cases d <;> rfl
theorem run_zeroValue {t : TypeId} {z : Value} (h : zeroB P t = some z) : (zeroValue t).run P w = .ok z w := by
  unfold zeroB at h
  obtain ⟨i, hi, hz⟩ := Option.bind_eq_some_iff.1 h
  simp [zeroValue, typeInfo, hi, hz]
theorem run_loadVar_one {t : TypeId} {p : Addr} {v : Value} (h : aggB P t = some false) (hc : w.cell? p = some v) : (loadVar t p).run P w = .ok v w := by
  simp [loadVar, run_isAgg h, hc]
theorem run_loadVar_agg {t : TypeId} {p : Addr} {cs : List Value} (h : aggB P t = some true) (hs : szB P t = some cs.length) (hc : ∀ j u, cs[j]? = some u → w.cell? (p.add j) = some u) : (loadVar t p).run P w = .ok (.agg cs.toArray) w := by
  simp [loadVar, run_isAgg h, run_sizeOf hs, run_loadCells_list w p cs hc]
theorem run_storeVar {t tt : TypeId} {g o : Nat} {cur : Array Value} {v : Value} (hs : szB P t = some v.cells.size) (hg : w.heap[g]? = some (.cells cur tt (0, 0))) (hf : o + v.cells.size ≤ cur.size) (h1 : oneB v.cells.toList = true) :
    (storeVar t ⟨g, o, none⟩ v).run P w = .ok () (w.setRow g (splice cur.toList o v.cells.toList).toArray) := by
  have := run_storeCells_at P g o tt v.cells.toList 0 cur w hg (by simpa using hf) (oneB_mem h1)
  simp only [storeVar, Sem.run_bind, run_sizeOf hs, Result.andThen_ok]
  simp only [Nat.add_zero] at this
  simp [splice, this]
end runs

section ops
variable {P : Program} {n : Nat} {Q : Cont} {E : Env} {w0 w : World} {Z : Nat → Prop} {L : List Assn} {ops : Array Oper} {rest : List Oper}
variable {d : Nat} {ty : TypeId} {pos : String} {aft : Array Edge} {v : Value}

/-! addresses -/
theorem y_fieldAddr {x : Operand} {p : Addr} {s i off sz : Nat} {fs : Array Field} {f : Field} (hx : eev E x = some (.pointer (some p))) (hs : P.underlying s = some (.struct fs)) (hf : fs[i]? = some f) (ho : litO f.offset = some off) (hz : szB P f.type = some sz) (hpos : Nat.beq sz 0 = false) :
    Yld P n ⟨some d, .fieldAddr s x i, ty, pos, aft, none⟩ E (.pointer (some (p.add off))) := ⟨fun a w ha => by
  have h0 : sz ≠ 0 := fun e => by subst e; simp [Nat.beq] at hpos
  obtain rfl := litO_eq ho
  simp [execOp, ha.ev hx, Instr.fieldAt, run_underlying hs, hf, Instr.sureAddr, fieldPlace, run_sizeOf hz, h0]⟩
theorem y_index_slice {x ix : Operand} {b o len cap sz : Nat} {k : IntKind} {i : Int} {t e : TypeId} (hx : eev E x = some (.slice (some ⟨b, o, none⟩) len cap)) (hi : eev E ix = some (.int k i)) (ht : P.underlying t = some (.slice e)) (hz : szB P e = some sz) (h0 : 0 ≤ i) (h1 : i < len) :
    Yld P n ⟨some d, .indexAddr t x ix, ty, pos, aft, none⟩ E (.pointer (some ⟨b, o + i.toNat * sz, none⟩)) := ⟨fun a w ha => by
  simp [execOp, ha.ev hx, ha.ev hi, Instr.indexAt, asIntOf, run_underlying ht, run_sizeOf hz, h0, h1, Addr.add_lit]⟩
theorem y_index_array {x ix : Operand} {b o len sz : Nat} {k : IntKind} {i : Int} {t e : TypeId} (hx : eev E x = some (.pointer (some ⟨b, o, none⟩))) (hi : eev E ix = some (.int k i)) (ht : P.underlying t = some (.array len e)) (hz : szB P e = some sz) (h0 : 0 ≤ i) (h1 : i < len) :
    Yld P n ⟨some d, .indexAddr t x ix, ty, pos, aft, none⟩ E (.pointer (some ⟨b, o + i.toNat * sz, none⟩)) := ⟨fun a w ha => by
  simp [execOp, ha.ev hx, ha.ev hi, Instr.indexAt, asIntOf, run_underlying ht, run_sizeOf hz, h0, h1, Addr.add_lit, Instr.sureAddr]⟩
/-! cuts of slices -/
theorem run_bound {P : Program} {w : World} {k : IntKind} {i : Int} {m : Nat} {c : BoundsCode} (h0 : 0 ≤ i) (h1 : i ≤ m) : (Instr.sliceBound (.int k i) m c).run P w = .ok i.toNat w := by
  simp [Instr.sliceBound, asIntOf, h0, h1]
section cuts
variable {x lo hi mx : Operand} {A : Option Addr} {len cap sz : Nat} {kl kh km : IntKind} {l h m : Int} {t e : TypeId}
theorem y_cut_lhm (hx : eev E x = some (.slice A len cap)) (hl : eev E lo = some (.int kl l)) (hh : eev E hi = some (.int kh h)) (hm : eev E mx = some (.int km m)) (ht : P.underlying t = some (.slice e)) (hz : szB P e = some sz) (h0 : 0 ≤ l) (h1 : l ≤ h) (h2 : h ≤ m) (h3 : m ≤ cap) :
    Yld P n ⟨some d, .slice t x (some lo) (some hi) (some mx), ty, pos, aft, none⟩ E (.slice (if m.toNat = l.toNat then A else A.map (·.add (l.toNat * sz))) (h.toNat - l.toNat) (m.toNat - l.toNat)) := ⟨fun a w ha => by
  have e1 : (h : Int) ≤ m.toNat := by omega
  have e2 : (l : Int) ≤ h.toNat := by omega
  simp [execOp, ha.ev hx, ha.ev hl, ha.ev hh, ha.ev hm, Instr.sliceAt, Instr.slice, Instr.sliceBounds, run_underlying ht, run_sizeOf hz, run_bound (show 0 ≤ m by omega) h3, run_bound (show 0 ≤ h by omega) e1, run_bound h0 e2]⟩
theorem y_cut_lh (hx : eev E x = some (.slice A len cap)) (hl : eev E lo = some (.int kl l)) (hh : eev E hi = some (.int kh h)) (ht : P.underlying t = some (.slice e)) (hz : szB P e = some sz) (h0 : 0 ≤ l) (h1 : l ≤ h) (h3 : h ≤ cap) :
    Yld P n ⟨some d, .slice t x (some lo) (some hi) none, ty, pos, aft, none⟩ E (.slice (if cap = l.toNat then A else A.map (·.add (l.toNat * sz))) (h.toNat - l.toNat) (cap - l.toNat)) := ⟨fun a w ha => by
  have e2 : (l : Int) ≤ h.toNat := by omega
  simp [execOp, ha.ev hx, ha.ev hl, ha.ev hh, Instr.sliceAt, Instr.slice, Instr.sliceBounds, run_underlying ht, run_sizeOf hz, run_bound (show 0 ≤ h by omega) h3, run_bound h0 e2]⟩
theorem y_cut_h (hx : eev E x = some (.slice A len cap)) (hh : eev E hi = some (.int kh h)) (ht : P.underlying t = some (.slice e)) (hz : szB P e = some sz) (h0 : 0 ≤ h) (h3 : h ≤ cap) :
    Yld P n ⟨some d, .slice t x none (some hi) none, ty, pos, aft, none⟩ E (.slice (if cap = 0 then A else A.map (·.add (0 * sz))) (h.toNat - 0) (cap - 0)) := ⟨fun a w ha => by
  simp [execOp, ha.ev hx, ha.ev hh, Instr.sliceAt, Instr.slice, Instr.sliceBounds, run_underlying ht, run_sizeOf hz, run_bound h0 h3]⟩
theorem y_cut_l (hx : eev E x = some (.slice A len cap)) (hl : eev E lo = some (.int kl l)) (ht : P.underlying t = some (.slice e)) (hz : szB P e = some sz) (h0 : 0 ≤ l) (h3 : l ≤ len) :
    Yld P n ⟨some d, .slice t x (some lo) none none, ty, pos, aft, none⟩ E (.slice (if cap = l.toNat then A else A.map (·.add (l.toNat * sz))) (len - l.toNat) (cap - l.toNat)) := ⟨fun a w ha => by
  simp [execOp, ha.ev hx, ha.ev hl, Instr.sliceAt, Instr.slice, Instr.sliceBounds, run_underlying ht, run_sizeOf hz, run_bound h0 h3]⟩
theorem y_arr_all {b o : Nat} (hx : eev E x = some (.pointer (some ⟨b, o, none⟩))) (ht : P.underlying t = some (.array len e)) (hz : szB P e = some sz) :
    Yld P n ⟨some d, .slice t x none none none, ty, pos, aft, none⟩ E (.slice (some ⟨b, o, none⟩) len len) := ⟨fun a w ha => by
  simp [execOp, ha.ev hx, Instr.sliceAt, Instr.sliceBounds, run_underlying ht, run_sizeOf hz, Instr.sureAddr, Addr.add_zero']⟩
theorem y_sliceToArray (hx : eev E x = some (.slice A len cap)) {m : Nat} (ht : P.underlying t = some (.array m e)) (h : m ≤ len) :
    Yld P n ⟨some d, .sliceToArrayPointer t x, ty, pos, aft, none⟩ E (.pointer A) := ⟨fun a w ha => by
  have : ¬ len < m := by omega
  simp [execOp, ha.ev hx, Instr.arrayAt, run_underlying ht, this]⟩
end cuts
/-! loads -/
theorem ld_one {x : Operand} {t : TypeId} {p : Addr} (hx : eev E x = some (.pointer (some p))) (ha : aggB P t = some false) (hc : w.cell? p = some v) : YldAt P n ⟨some d, .load t x, ty, pos, aft, none⟩ E w v := ⟨fun a hok => by
  simp [execOp, hok.ev hx, Instr.loadAt, Instr.sureAddr, run_loadVar_one ha hc]⟩
theorem ld_agg {x : Operand} {t : TypeId} {p : Addr} {cs : List Value} (hx : eev E x = some (.pointer (some p))) (ha : aggB P t = some true) (hs : szB P t = some cs.length) (hc : ∀ j u, cs[j]? = some u → w.cell? (p.add j) = some u) : YldAt P n ⟨some d, .load t x, ty, pos, aft, none⟩ E w (.agg cs.toArray) := ⟨fun a hok => by
  simp [execOp, hok.ev hx, Instr.loadAt, Instr.sureAddr, run_loadVar_agg ha hs hc]⟩
theorem ld_box {x : Operand} {t tt : TypeId} {g o i : Nat} {cs : List Value} (hst : St w0 Z L w) (hx : eev E x = some (.pointer (some ⟨g, o, none⟩))) (ha : aggB P t = some false) (hi : L[i]? = some (cellsA g tt cs)) (hc : cs[o]? = some v) : YldAt P n ⟨some d, .load t x, ty, pos, aft, none⟩ E w v :=
  ld_one hx ha ((hst.boxCell hi o).trans hc)
theorem ld_box_all {x : Operand} {t tt : TypeId} {g i : Nat} {cs : List Value} (hst : St w0 Z L w) (hx : eev E x = some (.pointer (some ⟨g, 0, none⟩))) (ha : aggB P t = some true) (hi : L[i]? = some (cellsA g tt cs)) (hs : szB P t = some cs.length) : YldAt P n ⟨some d, .load t x, ty, pos, aft, none⟩ E w (.agg cs.toArray) :=
  ld_agg hx ha hs fun j u hu => by rw [Addr.add_lit, Nat.zero_add, hst.boxCell hi j, hu]
theorem ld_box_part {x : Operand} {t tt : TypeId} {g o i : Nat} {cs cs' : List Value} (hst : St w0 Z L w) (hx : eev E x = some (.pointer (some ⟨g, o, none⟩))) (ha : aggB P t = some true) (hi : L[i]? = some (cellsA g tt cs)) (hs : szB P t = some cs'.length) (hp : (cs.drop o).take cs'.length = cs') : YldAt P n ⟨some d, .load t x, ty, pos, aft, none⟩ E w (.agg cs'.toArray) :=
  ld_agg hx ha hs fun j u hu => by
    rw [Addr.add_lit, hst.boxCell hi (o + j)]
    have hj : j < cs'.length := (List.getElem?_eq_some_iff.1 hu).1
    rw [← hp, List.getElem?_take_of_lt hj, List.getElem?_drop] at hu
    exact hu
/-! stores, new blocks -/
theorem eff_of_run {o : Oper} {w' : World} {K : Act → World → Prop} (h : ∀ a, EnvOk n E a → (execOp a.eval o).run P w = .ok (.value v) w') {dd : Nat} (hd : o.dst = some dd) (hlt : Nat.blt dd n = true) (k : ∀ a, EnvOk n ((dd, v) :: E) a → K a w') : Eff P n o E w Q K := fun a ha => by
  unfold Oper.wp
  rw [h a ha]
  show K (a.put o.dst v) w'
  rw [hd]
  exact k _ (ha.put hlt v)
theorem tl_run {op : Op} {w' : World} (h : ∀ a, EnvOk n E a → (execOp a.eval ⟨some d, op, ty, pos, aft, none⟩).run P w = .ok (.value v) w') (hlt : Nat.blt d n = true) (k : TL P n ops rest Q ((d, v) :: E) w') : TL P n ops (⟨some d, op, ty, pos, aft, none⟩ :: rest) Q E w :=
  tl_eff rfl fun _ hK => eff_of_run h rfl hlt fun a ha => hK _ _ (k.go a ha)
theorem tl_skip {op : Op} {w' : World} (h : ∀ a, EnvOk n E a → (execOp a.eval ⟨none, op, ty, pos, aft, none⟩).run P w = .ok .skip w') (k : TL P n ops rest Q E w') : TL P n ops (⟨none, op, ty, pos, aft, none⟩ :: rest) Q E w :=
  tl_eff rfl fun K hK a ha => by
    unfold Oper.wp
    rw [h a ha]
    exact hK _ _ (k.go a ha)
theorem tl_store {x y : Operand} {t tt : TypeId} {g o i : Nat} {cs : List Value} {u : Value} (hst : St w0 Z L w) (hx : eev E x = some (.pointer (some ⟨g, o, none⟩))) (hy : eev E y = some u) (hi : L[i]? = some (cellsA g tt cs)) (hs : szB P t = some u.cells.size) (hf : o + u.cells.size ≤ cs.length) (h1 : oneB u.cells.toList = true)
    (k : ∀ w', St w0 Z (cellsA g tt (splice cs o u.cells.toList) :: L.eraseIdx i) w' → TL P n ops rest Q E w') : TL P n ops (⟨none, .store t x y, ty, pos, aft, none⟩ :: rest) Q E w :=
  tl_skip (fun a ha => by
    simp only [execOp, ha.ev hx, ha.ev hy, Instr.storeAt, Instr.sureAddr, Sem.run_bind, Sem.run_pure, Result.andThen_ok, run_storeVar hs (hst.box hi) (by simpa using hf) h1]; rfl) (k _ (by simpa using hst.setRow hi (splice cs o u.cells.toList)))
theorem tl_store_row {x y : Operand} {t e : TypeId} {g o i m cap size : Nat} {xs : List Value} {u : Value} (hst : St w0 Z L w) (hx : eev E x = some (.pointer (some ⟨g, o, none⟩))) (hy : eev E y = some u) (hi : L[i]? = some (rowA e size (.slice (some ⟨g, 0, none⟩) m cap) m xs)) (hs : szB P t = some u.cells.size) (hf : o + u.cells.size ≤ m * size) (h1 : oneB u.cells.toList = true)
    (k : ∀ w', St w0 Z (rowA e size (.slice (some ⟨g, 0, none⟩) m cap) m (splice xs o u.cells.toList) :: L.eraseIdx i) w' → TL P n ops rest Q E w') : TL P n ops (⟨none, .store t x y, ty, pos, aft, none⟩ :: rest) Q E w := by
  obtain ⟨cur, hg, hle, hst'⟩ := hst.setRowRow (vs := u.cells.toList) (o := o) hi (by simpa using hf)
  exact tl_skip (fun a ha => by
    simp only [execOp, ha.ev hx, ha.ev hy, Instr.storeAt, Instr.sureAddr, Sem.run_bind, Sem.run_pure, Result.andThen_ok, run_storeVar hs hg (by simpa using hle) h1]) (k _ hst')
theorem tl_alloc {t : TypeId} {z : Value} (hst : St w0 Z L w) (hz : zeroB P t = some z) (hd : Nat.blt d n = true)
    (k : ∀ g w', St w0 Z (cellsA g t z.cells.toList :: L) w' → TL P n ops rest Q ((d, .pointer (some ⟨g, 0, none⟩)) :: E) w') : TL P n ops (⟨some d, .alloc t, ty, pos, aft, none⟩ :: rest) Q E w :=
  tl_run (fun a ha => by
    simp only [execOp, Instr.alloc, Sem.run_bind, run_zeroValue hz, Result.andThen_ok, newVar, newRow]; rfl) hd (k _ _ (hst.alloc t z.cells.toList))
theorem tl_box {t : TypeId} {x : Operand} (hst : St w0 Z L w) (hx : eev E x = some v) (hd : Nat.blt d n = true)
    (k : ∀ g w', St w0 Z (cellsA g t v.cells.toList :: L) w' → TL P n ops rest Q ((d, .pointer (some ⟨g, 0, none⟩)) :: E) w') : TL P n ops (⟨some d, .box t x, ty, pos, aft, none⟩ :: rest) Q E w :=
  tl_run (fun a ha => by
    simp only [execOp, ha.ev hx, Instr.box, newVar, newRow]; rfl) hd (k _ _ (hst.alloc t v.cells.toList))
theorem tl_append {s x : Operand} {t e : TypeId} {size bytes m k c i : Nat} {vs : Value} {B : Option Addr} {xs news : List Value} (hst : St w0 Z L w) (hs : eev E s = some vs) (hx : eev E x = some (.slice B m c)) (hi : L[i]? = some (rowA e size vs k xs))
    (ht : P.underlying t = some (.slice e)) (hE : ElemT P e size bytes) (hl : news.length = m * size) (hr : Rd w B news) (h1 : ∀ u ∈ news, u.oneCell' = true) (hb : (k + m) * bytes ≤ 140737488355328) (h63 : k + m ≤ maxLen) (hd : Nat.blt d n = true)
    (kk : ∀ v' w', St w0 Z (rowA e size v' (k + m) (xs ++ news) :: L.eraseIdx i) w' → TL P n ops rest Q ((d, v') :: E) w') :
    TL P n ops (⟨some d, .call { callee := .builtin .append, args := #[s, x], argTypes := #[t, t] }, ty, pos, aft, none⟩ :: rest) Q E w := by
  obtain ⟨v', w', hrun, hst'⟩ := hst.append (P := P) ty (c := c) hi ht hE hl hr h1 hb h63
  exact tl_run (fun a ha => by
    simp only [execOp, resolve, invoke, builtin, Sem.run_bind, Sem.run_pure, Result.andThen_ok, List.map_toArray, List.map_cons, List.map_nil, ha.ev hs, ha.ev hx, hrun]) hd (kk v' w' hst')
theorem tl_make {l c : Operand} {t e : TypeId} {kl kc : IntKind} {m cap : Int} {size bytes : Nat} {z : Value} (hst : St w0 Z L w) (hl : eev E l = some (.int kl m)) (hc : eev E c = some (.int kc cap)) (ht : P.underlying t = some (.slice e)) (hz : zeroB P e = some z) (hs : szB P e = some size) (hby : (P.info? e).bind (fun i => litO i.bytes) = some bytes)
    (h0 : 0 ≤ m) (h1 : m ≤ cap) (hb : (bytes : Int) * cap ≤ 281474976710656) (h63 : cap ≤ 9223372036854775807) (hd : Nat.blt d n = true)
    (k : ∀ g w', St w0 Z (rowA e size (.slice (some ⟨g, 0, none⟩) m.toNat cap.toNat) m.toNat ((madeCells z.cells (cap.toNat * size)).toList.take (m.toNat * size)) :: L) w' → TL P n ops rest Q ((d, .slice (some ⟨g, 0, none⟩) m.toNat cap.toNat) :: E) w') :
    TL P n ops (⟨some d, .makeSlice t l c, ty, pos, aft, none⟩ :: rest) Q E w := by
  obtain ⟨i, hi, hby'⟩ := Option.bind_eq_some_iff.1 hby
  obtain rfl := litO_eq hby'
  have hsz : i.size = size := by obtain ⟨i', hi', h⟩ := szB_some hs; rw [hi] at hi'; cases hi'; exact h
  have hzz : i.zero = some z := by unfold zeroB at hz; rw [hi] at hz; simpa using hz
  have hr := run_make (P := P) w t e i z ht hi hzz kl kc m cap h0 h1 hb h63
  rw [hsz] at hr
  refine tl_run (fun a ha => by simp only [execOp, ha.ev hl, ha.ev hc, Sem.run_bind, Sem.run_pure, hr, Result.andThen_ok]; rfl) hd (k _ _ ?_)
  refine hst.grow rfl rfl rfl (by simp) (fun b hb => Below.heap_alloc w _ b hb) ⟨hone w.heap.size _, ⟨.inr ⟨w.heap.size, cap.toNat, _, rfl, ?_, by omega, by simp only [maxLen]; omega, size_madeCells _ _, rfl, rfl⟩⟩, Sub.of_one (heap_alloc_new w _), fun b hb => by rw [hone_ne hb]; exact Nat.le_refl _⟩
  have : m.toNat * size ≤ cap.toNat * size := Nat.mul_le_mul_right _ (by omega)
  simp only [List.length_take, Array.length_toList, size_madeCells]; omega

/-! calls -/
def callB (P : Program) (f : FuncId) : Bool := match P.funcs[f]? with | some fn => !(fn.name == "runtime.NumGoroutine") && fn.body.isSome | none => false
theorem run_callFunc {f : FuncId} {args : Array Value} (h : callB P f = true) : (callFunc f args).run P w = .ok (.enter f args) w := by
  unfold callB at h
  split at h
  · rename_i fn hf
    simp only [Bool.and_eq_true, Bool.not_eq_true'] at h
    have h1 : ¬ fn.name = "runtime.NumGoroutine" := by simpa using h.1
    have hb : ¬ fn.body = none := by cases hx : fn.body <;> simp_all
    simp [callFunc, hf, h1, hb]
  · cases h
/-- a call returns: R says what, in which world -/
def Ret {ρ : Type} (w : World) (Z : Nat → Prop) (val : ρ → Value) (L : ρ → List Assn) (φ : ρ → World → Prop) : Ending → World → Prop := fun e w' => ∃ r, e = .returned (val r) ∧ St w Z (L r) w' ∧ φ r w'
def evs (E : Env) : List Operand → Option (List Value)
  | [] => some []
  | x :: r => match eev E x, evs E r with | some v, some vs => some (v :: vs) | _, _ => none
theorem evs_map {a : Act} (ha : EnvOk n E a) : ∀ {xs : List Operand} {vs : List Value}, evs E xs = some vs → xs.map a.eval = vs
  | [], vs, h => by simp [evs] at h; subst h; rfl
  | x :: r, vs, h => by
    simp only [evs] at h
    split at h
    · rename_i v vs' h1 h2
      cases h
      simp [ha.ev h1, evs_map ha h2]
    · cases h
theorem tl_call {ρ : Type} {val : ρ → Value} {M : ρ → List Assn} {φ : ρ → World → Prop} {fo : Operand} {f : FuncId} {first cap vs : List Value} {xs : List Operand} {ats : Array TypeId} (hst : St w0 Z L w) (hf : eev E fo = some (.func (.func f) first.toArray cap.toArray)) (hb : callB P f = true) (hx : evs E xs = some vs)
    (hc : Calls P f (first ++ vs ++ cap).toArray w (Ret w no val M φ)) (hd : Nat.blt d n = true)
    (k : ∀ r w', St w0 Z (M r ++ L) w' → φ r w' → TL P n ops rest Q ((d, val r) :: E) w') :
    TL P n ops (⟨some d, .call { callee := .value fo, args := xs.toArray, argTypes := ats }, ty, pos, aft, none⟩ :: rest) Q E w :=
  tl_eff rfl fun K hK a ha => by
    unfold Oper.wp
    have hr : (execOp a.eval ⟨some d, .call { callee := .value fo, args := xs.toArray, argTypes := ats }, ty, pos, aft, none⟩).run P w = .ok (.enter f (first ++ vs ++ cap).toArray) w := by
      have hm : xs.map a.eval = vs := evs_map ha hx
      simp only [execOp, resolve, Deferred.ofValue, ha.ev hf, invoke, Sem.run_bind, Sem.run_pure, Result.andThen_ok, List.map_toArray, hm]
      simp [run_callFunc hb]
    rw [hr]
    exact hc.mono fun e w' ⟨r, he, hs, hp⟩ => by
      subst he
      exact hK _ _ ((k r w' (hst.call hs) hp).go _ (ha.put hd _))
theorem tl_callX {ρ : Type} {val : ρ → Value} {M : ρ → List Assn} {φ : ρ → World → Prop} {fo : Operand} {f : FuncId} {first cap vs : List Value} {xs : List Operand} {ats : Array TypeId} {A : Assn} {Y : Nat → Prop} {i : Nat} (hst : St w0 Z L w) (hf : eev E fo = some (.func (.func f) first.toArray cap.toArray)) (hb : callB P f = true) (hx : evs E xs = some vs)
    (hi : L[i]? = some A) (hY : ∀ k, A k → ∀ b, Y b → k b ≠ none)
    (hc : Calls P f (first ++ vs ++ cap).toArray w (Ret w Y val M φ)) (hd : Nat.blt d n = true)
    (k : ∀ r w', St w0 Z (M r ++ L.eraseIdx i) w' → φ r w' → TL P n ops rest Q ((d, val r) :: E) w') :
    TL P n ops (⟨some d, .call { callee := .value fo, args := xs.toArray, argTypes := ats }, ty, pos, aft, none⟩ :: rest) Q E w :=
  tl_eff rfl fun K hK a ha => by
    unfold Oper.wp
    have hr : (execOp a.eval ⟨some d, .call { callee := .value fo, args := xs.toArray, argTypes := ats }, ty, pos, aft, none⟩).run P w = .ok (.enter f (first ++ vs ++ cap).toArray) w := by
      have hm : xs.map a.eval = vs := evs_map ha hx
      simp only [execOp, resolve, Deferred.ofValue, ha.ev hf, invoke, Sem.run_bind, Sem.run_pure, Result.andThen_ok, List.map_toArray, hm]
      simp [run_callFunc hb]
    rw [hr]
    exact hc.mono fun e w' ⟨r, he, hs, hp⟩ => by
      subst he
      exact hK _ _ ((k r w' (hst.callX hi hY hs) hp).go _ (ha.put hd _))
theorem tl_callf {ρ : Type} {val : ρ → Value} {M : ρ → List Assn} {φ : ρ → World → Prop} {f : FuncId} {vs : List Value} {xs : List Operand} {ats : Array TypeId} (hst : St w0 Z L w) (hb : callB P f = true) (hx : evs E xs = some vs)
    (hc : Calls P f vs.toArray w (Ret w no val M φ)) (hd : Nat.blt d n = true)
    (k : ∀ r w', St w0 Z (M r ++ L) w' → φ r w' → TL P n ops rest Q ((d, val r) :: E) w') :
    TL P n ops (⟨some d, .call { callee := .value (.func f), args := xs.toArray, argTypes := ats }, ty, pos, aft, none⟩ :: rest) Q E w :=
  tl_call (first := []) (cap := []) hst rfl hb hx (by simpa using hc) hd k
end ops

/-! entering, leaving -/
def envOf : Nat → List Value → Env
  | _, [] => []
  | i, v :: r => (i, v) :: envOf (i + 1) r
theorem envOf_get : ∀ (vs : List Value) (i d : Nat) (v : Value), eget (envOf i vs) d = some v → i ≤ d ∧ vs[d - i]? = some v
  | [], i, d, v, h => by cases h
  | u :: r, i, d, v, h => by
    simp only [envOf] at h
    rw [eget_cons] at h
    by_cases e : i = d
    · subst e; rw [if_pos rfl] at h; cases h; simp
    · rw [if_neg e] at h
      obtain ⟨h1, h2⟩ := envOf_get r (i + 1) d v h
      refine ⟨by omega, ?_⟩
      have : d - i = (d - (i + 1)) + 1 := by omega
      rw [this]; simpa using h2
theorem calls_of_t {P : Program} {f : FuncId} {fn : Func} {c : Code} {vs : List Value} {w : World} {R : Ending → World → Prop} (n : Nat) (hf : P.funcs[f]? = some fn) (hb : fn.body = some c) (hn : fn.ntmps = n) (hle : Nat.ble vs.length n = true)
    (h : T P n c (.body fn R) (envOf 0 vs) w) : Calls P f vs.toArray w R := by
  have hle' : vs.length ≤ n := by simpa using hle
  subst hn
  refine calls_of_wp hf hb (h.go _ ⟨rfl, by simp; omega, fun d v hv => ?_⟩)
  obtain ⟨_, h2⟩ := envOf_get vs 0 d v hv
  simp only [Nat.sub_zero] at h2
  have : d < vs.length := (List.getElem?_eq_some_iff.1 h2).1
  rw [Array.getElem?_append_left (by simpa using this)]
  simpa using h2
/-- what a result variable holds at the end -/
def ResV (P : Program) (E : Env) (w : World) : ResultVar → Value → Prop
  | .tmp t, v => eget E t = some v
  | .cell a t, v => ∃ p, eget E a = some (.pointer (some p)) ∧ (loadVar t p).run P w = .ok v w
def ResVs (P : Program) (E : Env) (w : World) : List ResultVar → List Value → Prop
  | [], [] => True
  | r :: rs, v :: vs => ResV P E w r v ∧ ResVs P E w rs vs
  | _, _ => False
def resVal : List Value → Value
  | [v] => v
  | vs => .tuple vs.toArray
theorem run_res {P : Program} {n : Nat} {E : Env} {w : World} {a : Act} (ha : EnvOk n E a) : ∀ {rs : List ResultVar} {vs : List Value}, ResVs P E w rs vs →
    (rs.mapM (m := Sem) fun | .tmp t => pure (a.tmps.getD t undef) | .cell p t => do loadVar t (← asAddr (a.tmps.getD p undef))).run P w = .ok vs w
  | [], [], _ => by simp
  | r :: rs, v :: vs, h => by
    have ih := run_res ha h.2
    have h1 := h.1
    cases r with
    | tmp t =>
      simp only [ResV] at h1
      have hg : a.tmps.getD t undef = v := by simp [ha.get _ _ h1]
      simp only [List.mapM_cons, Sem.run_bind, hg, Sem.run_pure, Result.andThen_ok, ih]
    | cell p t =>
      obtain ⟨q, hq, hr⟩ := h1
      have hg : a.tmps.getD p undef = .pointer (some q) := by simp [ha.get _ _ hq]
      have h2 : (asAddr (.pointer (some q))).run P w = .ok q w := rfl
      simp only [List.mapM_cons, Sem.run_bind, hg, h2, Sem.run_pure, Result.andThen_ok, hr, ih]
  | [], _ :: _, h => h.elim
  | _ :: _, [], h => h.elim
theorem rt_body {P : Program} {n : Nat} {E : Env} {w : World} {fn : Func} {R : Ending → World → Prop} {rs : List ResultVar} (vs : List Value) (hr : fn.results = rs.toArray) (h : ResVs P E w rs vs) (hR : R (.returned (resVal vs)) w) : RT P n (.body fn R) E w := by
  refine ⟨fun a ha => ⟨ha.defers, resVal vs, ?_, hR⟩⟩
  have h1 := run_res (P := P) ha h
  unfold results
  rw [hr, List.mapM_toArray]
  rw [Sem.run_bind, Sem.run_map]
  refine (congrArg (fun r => Result.andThen (Result.andThen r _) _) h1).trans ?_
  simp only [Result.andThen_ok, Sem.run_pure]
  congr 1
  match vs with
  | [] => rfl
  | [v] => rfl
  | v :: u :: r => simp [resVal]
theorem n_body {P : Program} {n : Nat} {E : Env} {w : World} {fn : Func} {R : Ending → World → Prop} (hr : fn.results = #[]) (hR : R (.returned (.tuple #[])) w) : N P n (.body fn R) E w := ⟨fun _ ha =>
  ⟨ha.defers, .tuple #[], results_none hr _ _ _, hR⟩⟩

/-! numbers in their range -/
theorem w64 {x : Int} (h : -9223372036854775808 ≤ x ∧ x ≤ 9223372036854775807) : IntKind.i64.wrap x = x := by rw [IntKind.wrap_i64]; omega
theorem wu64 {x : Int} (h : 0 ≤ x ∧ x ≤ 18446744073709551615) : IntKind.u64.wrap x = x := by rw [IntKind.wrap_u64]; omega
theorem wu32 {x : Int} (h : 0 ≤ x ∧ x ≤ 4294967295) : IntKind.u32.wrap x = x := by rw [IntKind.wrap_u32]; omega
theorem wu16 {x : Int} (h : 0 ≤ x ∧ x ≤ 65535) : IntKind.u16.wrap x = x := by rw [IntKind.wrap_u16]; omega
theorem wu8 {x : Int} (h : 0 ≤ x ∧ x ≤ 255) : IntKind.u8.wrap x = x := by rw [IntKind.wrap_u8]; omega

section more
variable {P : Program} {n : Nat} {Q : Cont} {E : Env} {w : World} {ops : Array Oper} {rest : List Oper}
/-- what a guard asks is decided here -/
theorem env_case {b c : Bool} {dj : Nat} {a : Act} (hv : eget E dj = some (.bool b)) (h : b = c) (ha : EnvOk n E a) : EnvOk n ((dj, .bool c) :: E) a := ha.sub fun d v hd => by
  rw [eget_cons] at hd
  by_cases e : dj = d
  · subst e; rw [if_pos rfl] at hd; cases hd; rw [← h]; exact hv
  · rw [if_neg e] at hd; exact hd
section
variable {op : Op} {ty : TypeId} {pos : String} {aft : Array Edge} {j dj d : Nat} {b : Bool}
theorem tl_guard_t (hj : (ops[j]?).bind (·.dst) = some dj) (hv : eget E dj = some (.bool b)) (hd : Nat.blt d n = true)
    (ht : b = true → TL P n ops (⟨some d, op, ty, pos, aft, none⟩ :: rest) Q ((dj, .bool true) :: E) w) (hf : b = false → TL P n ops rest Q ((d, undef) :: (dj, .bool false) :: E) w) :
    TL P n ops (⟨some d, op, ty, pos, aft, some (j, true)⟩ :: rest) Q E w := by
  have h0 : ∀ c, eget ((dj, Value.bool c) :: E) dj = some (.bool c) := fun c => by rw [eget_cons, if_pos rfl]
  cases hb : b
  · exact ⟨fun a ha => (tl_guard_off (b := false) hj (h0 false) rfl hd (hf hb)).go a (env_case hv hb ha)⟩
  · exact ⟨fun a ha => (tl_guard_on hj (h0 true) (ht hb)).go a (env_case hv hb ha)⟩
theorem tl_guard_f (hj : (ops[j]?).bind (·.dst) = some dj) (hv : eget E dj = some (.bool b)) (hd : Nat.blt d n = true)
    (hf : b = false → TL P n ops (⟨some d, op, ty, pos, aft, none⟩ :: rest) Q ((dj, .bool false) :: E) w) (ht : b = true → TL P n ops rest Q ((d, undef) :: (dj, .bool true) :: E) w) :
    TL P n ops (⟨some d, op, ty, pos, aft, some (j, false)⟩ :: rest) Q E w := by
  have h0 : ∀ c, eget ((dj, Value.bool c) :: E) dj = some (.bool c) := fun c => by rw [eget_cons, if_pos rfl]
  cases hb : b
  · exact ⟨fun a ha => (tl_guard_on hj (h0 false) (hf hb)).go a (env_case hv hb ha)⟩
  · exact ⟨fun a ha => (tl_guard_off (b := true) hj (h0 true) rfl hd (ht hb)).go a (env_case hv hb ha)⟩
theorem tl_guard_t0 (hj : (ops[j]?).bind (·.dst) = some dj) (hv : eget E dj = some (.bool b))
    (ht : b = true → TL P n ops (⟨none, op, ty, pos, aft, none⟩ :: rest) Q ((dj, .bool true) :: E) w) (hf : b = false → TL P n ops rest Q ((dj, .bool false) :: E) w) :
    TL P n ops (⟨none, op, ty, pos, aft, some (j, true)⟩ :: rest) Q E w := by
  have h0 : ∀ c, eget ((dj, Value.bool c) :: E) dj = some (.bool c) := fun c => by rw [eget_cons, if_pos rfl]
  cases hb : b
  · exact ⟨fun a ha => (tl_guard_off0 (b := false) hj (h0 false) rfl (hf hb)).go a (env_case hv hb ha)⟩
  · exact ⟨fun a ha => (tl_guard_on hj (h0 true) (ht hb)).go a (env_case hv hb ha)⟩
theorem tl_guard_f0 (hj : (ops[j]?).bind (·.dst) = some dj) (hv : eget E dj = some (.bool b))
    (hf : b = false → TL P n ops (⟨none, op, ty, pos, aft, none⟩ :: rest) Q ((dj, .bool false) :: E) w) (ht : b = true → TL P n ops rest Q ((dj, .bool true) :: E) w) :
    TL P n ops (⟨none, op, ty, pos, aft, some (j, false)⟩ :: rest) Q E w := by
  have h0 : ∀ c, eget ((dj, Value.bool c) :: E) dj = some (.bool c) := fun c => by rw [eget_cons, if_pos rfl]
  cases hb : b
  · exact ⟨fun a ha => (tl_guard_on hj (h0 false) (hf hb)).go a (env_case hv hb ha)⟩
  · exact ⟨fun a ha => (tl_guard_off0 (b := true) hj (h0 true) rfl (ht hb)).go a (env_case hv hb ha)⟩
end
end more
end Go.Proofs.YtalainpmlonahaaDoor
end
section
/-!
  STRUCTS AND SLICES THAT ARE WRITTEN OUT. No program in sight.
-/
namespace Go.Proofs.YtalainpmlonahaaDoor
open Go.RowKit

theorem splice_len {cs vs : List Value} {o : Nat} (h : o + vs.length ≤ cs.length) : (splice cs o vs).length = cs.length := by
  simp only [splice, List.length_append, List.length_take, List.length_drop]; omega
theorem splice_all {cs vs : List Value} (h : vs.length = cs.length) : splice cs 0 vs = vs := by
  simp [splice, h]
theorem splice_nil {cs : List Value} {o : Nat} : splice cs o [] = cs := by simp [splice]
theorem splice_get {cs vs : List Value} {o : Nat} (h : o + vs.length ≤ cs.length) (j : Nat) : (splice cs o vs)[j]? = if j < o then cs[j]? else if j < o + vs.length then vs[j - o]? else cs[j]? := by
  have h0 : min o cs.length = o := Nat.min_eq_left (by omega)
  simp only [splice, List.append_assoc, List.getElem?_append, List.length_take, h0, List.getElem?_take, List.getElem?_drop]
  by_cases h1 : j < o
  · rw [if_pos h1, if_pos h1, if_pos h1]
  · rw [if_neg h1, if_neg h1]
    by_cases h2 : j < o + vs.length
    · rw [if_pos (by omega), if_pos h2]
    · rw [if_neg (by omega), if_neg h2]
      congr 1; omega
theorem splice_cons {cs vs : List Value} {o : Nat} {v : Value} (h : o + (vs.length + 1) ≤ cs.length) : splice cs o (v :: vs) = splice (cs.set o v) (o + 1) vs := by
  apply List.ext_getElem?
  intro j
  rw [splice_get (by simpa using h), splice_get (by rw [List.length_set]; omega), List.length_cons, List.getElem?_set]
  rcases Nat.lt_trichotomy j o with hj | hj | hj
  · rw [if_pos hj, if_pos (by omega), if_neg (by omega)]
  · subst hj
    rw [if_neg (by omega), if_pos (by omega), if_pos (by omega), if_pos rfl, if_pos (by omega)]; simp
  · rw [if_neg (show ¬ j < o by omega), if_neg (show ¬ j < o + 1 by omega)]
    by_cases h2 : j < o + 1 + vs.length
    · rw [if_pos (show j < o + (vs.length + 1) by omega), if_pos h2]
      have e : j - o = (j - (o + 1)) + 1 := by omega
      rw [e]; simp
    · rw [if_neg (show ¬ j < o + (vs.length + 1) by omega), if_neg h2, if_neg (show ¬ o = j by omega)]
theorem fold_splice (off : Nat) : ∀ (vs : List Value) (k : Nat) (cs : Array Value), off + k + vs.length ≤ cs.size →
    (vs.zipIdx k).foldl (fun (a : Array Value) (x : Value × Nat) => a.setIfInBounds (off + x.2) x.1) cs = (splice cs.toList (off + k) vs).toArray
  | [], k, cs, _ => by simp [splice_nil]
  | v :: vs, k, cs, h => by
    simp only [List.length_cons] at h
    rw [splice_cons (by rw [Array.length_toList]; omega), List.zipIdx_cons, List.foldl_cons]
    rw [fold_splice off vs (k + 1) (cs.setIfInBounds (off + k) v) (by simp; omega)]
    rw [Array.toList_setIfInBounds, Nat.add_assoc]
/-- parts laid into cells -/
def FillP (place : Nat → Option (Nat × Nat)) : List Value → List (Nat × Value) → List Value → Prop
  | cs, [], cs' => cs = cs'
  | cs, (i, v) :: r, cs' => ∃ off sz, place i = some (off, sz) ∧ v.cells.toList.length = sz ∧ off + sz ≤ cs.length ∧ FillP place (splice cs off v.cells.toList) r cs'
theorem fill_of {place : Nat → Option (Nat × Nat)} : ∀ {ps : List (Nat × Value)} {cs cs' : List Value}, FillP place cs ps cs' → Instr.fill place cs.toArray ps = some cs'.toArray
  | [], cs, cs', h => by simp only [FillP] at h; subst h; rfl
  | (i, v) :: r, cs, cs', h => by
    obtain ⟨off, sz, hp, hs, hf, hr⟩ := h
    have hs' : v.cells.size = sz := by simpa using hs
    have hno : ¬ (v.cells.size ≠ sz ∨ off + v.cells.size > cs.toArray.size) := by
      rw [hs']; simp; omega
    simp only [Instr.fill, hp]
    rw [if_neg (by simpa using hno)]
    have e : Array.foldl (fun (a : Array Value) (x : Value × Nat) => a.setIfInBounds (off + x.2) x.1) cs.toArray v.cells.zipIdx = (splice cs off v.cells.toList).toArray := by
      have h1 := fold_splice off v.cells.toList 0 cs.toArray (by simp; omega)
      rw [← Array.foldl_toList]
      simpa using h1
    have ih := fill_of hr
    rw [← e] at ih
    exact ih
def evps (E : Env) : List (Nat × Operand) → Option (List (Nat × Value))
  | [] => some []
  | (i, x) :: r => match eev E x, evps E r with | some v, some vs => some ((i, v) :: vs) | _, _ => none
theorem evps_map {n : Nat} {E : Env} {a : Act} (ha : EnvOk n E a) : ∀ {xs : List (Nat × Operand)} {vs : List (Nat × Value)}, evps E xs = some vs → (xs.map fun (i, x) => (i, a.eval x)) = vs
  | [], vs, h => by simp [evps] at h; subst h; rfl
  | (i, x) :: r, vs, h => by
    simp only [evps] at h
    split at h
    · rename_i v vs' h1 h2
      cases h
      simp [ha.ev h1, evps_map ha h2]
    · cases h
def placesOf (P : Program) (fs : Array Field) (i : Nat) : Option (Nat × Nat) := match fs[i]? with | some f => (szB P f.type).bind fun s => (litO f.offset).map fun o => (o, s) | none => none
theorem run_places {P : Program} {w : World} : ∀ (fs : List Field), (∀ f ∈ fs, (szB P f.type).isSome = true) →
    (fs.mapM (m := Sem) fun f => do pure (f.offset, ← sizeOf f.type)).run P w = .ok (fs.map fun f => (f.offset, (szB P f.type).getD 0)) w
  | [], _ => by simp
  | f :: fs, h => by
    obtain ⟨s, hs⟩ := Option.isSome_iff_exists.1 (h f (by simp))
    have ih := run_places (P := P) (w := w) fs (fun g hg => h g (by simp [hg]))
    simp only [List.mapM_cons, Sem.run_bind, run_sizeOf hs, Result.andThen_ok, Sem.run_pure, ih, List.map_cons, hs, Option.getD_some]

section
variable {P : Program} {n : Nat} {Q : Cont} {E : Env} {w0 w : World} {Z : Nat → Prop} {L : List Assn} {ops : Array Oper} {rest : List Oper}
variable {d : Nat} {ty : TypeId} {pos : String} {aft : Array Edge}
def sizedB (P : Program) (fs : Array Field) : Bool := fs.toList.all fun f => (szB P f.type).isSome && (litO f.offset).isSome
theorem y_build {t : TypeId} {fs : Array Field} {z : Value} {parts : List (Nat × Operand)} {ps : List (Nat × Value)} {cs : List Value} (hs : P.underlying t = some (.struct fs)) (hz : zeroB P t = some z) (hb : sizedB P fs = true) (hp : evps E parts = some ps)
    (hf : FillP (placesOf P fs) z.cells.toList ps cs) : Yld P n ⟨some d, .build t parts.toArray, ty, pos, aft, none⟩ E (.agg cs.toArray) := ⟨fun a w ha => by
  have h1 : (fs.mapM (m := Sem) fun f => do pure (f.offset, ← sizeOf f.type)).run P w = .ok (fs.toList.map fun f => (f.offset, (szB P f.type).getD 0)).toArray w := by
    obtain ⟨fl⟩ := fs
    have hpl := run_places (P := P) (w := w) fl (by simp only [sizedB, List.all_eq_true, Bool.and_eq_true] at hb; exact fun f hf => (hb f hf).1)
    rw [List.mapM_toArray, Sem.run_map, hpl]; rfl
  have hpl : ∀ i, (fs.toList.map fun f => (f.offset, (szB P f.type).getD 0)).toArray[i]? = placesOf P fs i := by
    intro i
    unfold placesOf
    cases hi : fs[i]? with
    | none => simp [hi]
    | some f =>
      have hm : f ∈ fs.toList := by simpa using Array.mem_of_getElem? hi
      have : (szB P f.type).isSome = true ∧ (litO f.offset).isSome = true := by
        simp only [sizedB, List.all_eq_true, Bool.and_eq_true] at hb; exact hb f hm
      obtain ⟨s, hs⟩ := Option.isSome_iff_exists.1 this.1
      obtain ⟨o, ho⟩ := Option.isSome_iff_exists.1 this.2
      obtain rfl := litO_eq ho
      have hj : fs.toList[i]? = some f := by rw [Array.getElem?_toList]; exact hi
      rw [List.getElem?_toArray, List.getElem?_map, hj]
      simp only [Option.map_some, hs, Option.getD_some, Option.bind_some, ho]
  have h2 := fill_of hf
  simp only [Array.toArray_toList] at h2
  have h3 : (fun i => (fs.toList.map fun f => (f.offset, (szB P f.type).getD 0)).toArray[i]?) = placesOf P fs := funext hpl
  have hm : (parts.toArray.map fun (i, x) => (i, a.eval x)).toList = ps := by simpa using evps_map ha hp
  simp only [execOp, Instr.build, Sem.run_bind, run_zeroValue hz, run_underlying hs, Result.andThen_ok, h1, h3, hm, h2]
  rfl⟩
theorem tl_buildSlice {t e : TypeId} {len size : Nat} {z : Value} {parts : List (Nat × Operand)} {ps : List (Nat × Value)} {cs : List Value} (hst : St w0 Z L w) (ht : P.underlying t = some (.slice e)) (hz : zeroB P e = some z) (hs : szB P e = some size) (hp : evps E parts = some ps) (hlen : Nat.ble (len * size) 16777216 = true)
    (hpos : Nat.beq (len * size) 0 = false)
    (hf : FillP (fun i => some (i * size, size)) ((List.range (len * size)).map (fun j => z.cells[j % z.cells.size]!)) ps cs) (hd : Nat.blt d n = true)
    (k : ∀ g w', St w0 Z (rowA e size (.slice (some ⟨g, 0, none⟩) len len) len cs :: L) w' → TL P n ops rest Q ((d, .slice (some ⟨g, 0, none⟩) len len) :: E) w') : TL P n ops (⟨some d, .buildSlice t len parts.toArray, ty, pos, aft, none⟩ :: rest) Q E w := by
  have h0 : len * size ≠ 0 := fun e0 => by rw [e0] at hpos; simp [Nat.beq] at hpos
  have hle0 : len * size ≤ 16777216 := by simpa using hlen
  have hle : ¬ (16777216 < len * size) := by omega
  have hcs : cs.length = len * size := by
    have : ∀ {ps : List (Nat × Value)} {c c' : List Value}, FillP (fun i => some (i * size, size)) c ps c' → c'.length = c.length := by
      intro ps
      induction ps with
      | nil => intro c c' h; simp only [FillP] at h; rw [h]
      | cons p r ih =>
        intro c c' h
        obtain ⟨i, v⟩ := p
        obtain ⟨off, sz, _, h2, h3, h4⟩ := h
        rw [ih h4, splice_len (by omega)]
    simpa using this hf
  have h2 := fill_of hf
  have hge : len ≤ len * size := by
    rcases Nat.eq_zero_or_pos size with h | h
    · rw [h] at h0; simp at h0
    · exact Nat.le_mul_of_pos_right _ h
  refine tl_run (w' := w.alloc (.cells cs.toArray e)) (fun a ha => ?_) hd (k w.heap.size _ ?_)
  · have hm : List.map (fun x : Nat × Operand => (x.1, a.eval x.2)) parts = ps := evps_map ha hp
    have hr : (Array.range (len * size)).map (fun j => z.cells[j % z.cells.size]!) = ((List.range (len * size)).map (fun j => z.cells[j % z.cells.size]!)).toArray := by
      apply Array.ext'; simp
    rw [← hr] at h2
    simp [execOp, Instr.buildSlice, run_underlying ht, run_sizeOf hs, hle, h0, run_zeroValue hz, hm, h2, newRow]
  · refine hst.grow rfl rfl rfl (by simp) (fun b hb => Below.heap_alloc w _ b hb) ⟨hone w.heap.size _, ⟨.inr ⟨w.heap.size, len, _, rfl, hcs, Nat.le_refl _, ?_, by simpa using hcs, by rw [List.toList_toArray, ← hcs, List.take_length], rfl⟩⟩, Sub.of_one (heap_alloc_new w _), fun b hb => by rw [hone_ne hb]; exact Nat.le_refl _⟩
    simp only [maxLen]; omega
end
end Go.Proofs.YtalainpmlonahaaDoor
end
section
/-!
  REGIONS WHOSE ORDER IS DRAWN: one order serves for all, if what looks at memory alone may be taken first. No program in sight.
-/
namespace Go.Proofs.YtalainpmlonahaaDoor
open Go.RowKit

def isLoad : Op → Bool
  | .load .. | .lookup .. => true
  | .call { callee := .builtin .len, .. } | .call { callee := .builtin .cap, .. } => true
  | _ => false
def isLight : Op → Bool
  | .move _ | .assign _ | .pick .. | .nilCheck _ | .binOp .. | .unOp .. | .convert .. | .fieldAddr .. | .field .. | .indexAddr .. | .index .. | .extract .. | .slice .. | .sliceToArrayPointer .. | .build .. => true
  | o => isLoad o
def lightAt (ops : Array Oper) (i : Nat) : Bool := match ops[i]? with | some o => isLight o.op | none => false
def edgeB (ops : Array Oper) (j i : Nat) : Bool := match ops[j]? with | some o => o.after.toList.any fun e => Region.binds .any e && Nat.beq e.on i | none => false
/-- number i may come ahead of number j, and behind it, as far as their own edges tell -/
def unordB (ops : Array Oper) (j i : Nat) : Bool := !Nat.beq i j && !edgeB ops j i && !edgeB ops i j
/-- what each load that was taken early was promised of the world -/
abbrev Pledges := List (Nat × (World → Prop))
/-- what is asked of the world behind number j -/
def Dem (ops : Array Oper) (j : Nat) : Pledges → World → Prop
  | [], _ => True
  | (i, C) :: D, w => (unordB ops j i = true → C w) ∧ Dem ops j D w
section sem
variable {P : Program} {ops : Array Oper} {Q : Post}
/-- what is asked behind number i: a light one leaves the world; behind another one the pledges hold -/
def Ask (ops : Array Oper) (D : Pledges) (i : Nat) (w w' : World) : Prop := (lightAt ops i = true → w' = w) ∧ (lightAt ops i = false → Dem ops i D w')
def wpAnyN (P : Program) (ops : Array Oper) (Q : Post) (D : Pledges) : Nat → Array Bool → Act → World → Prop
  | 0, listed, a, w => Region.ready .any ops listed = [] ∧ Q .normal a w
  | fuel + 1, listed, a, w =>
    (Region.ready .any ops listed = [] → Q .normal a w) ∧
    ∀ i ∈ Region.ready .any ops listed, wpOp P ops Q i (fun a' w' => Ask ops D i w w' ∧ wpAnyN P ops Q D fuel (listed.setIfInBounds i true) a' w') a w
theorem wpAny_of_N {D : Pledges} : ∀ (fuel : Nat) (listed : Array Bool) (a : Act) (w : World), wpAnyN P ops Q D fuel listed a w → wpAny P .any ops Q fuel listed a w
  | 0, _, _, _, h => h
  | fuel + 1, _, _, _, h => ⟨h.1, fun i hi => wpOp_mono (fun a' w' h' => wpAny_of_N fuel _ a' w' h'.2) (h.2 i hi)⟩
theorem anyN_weak {D D' : Pledges} (hD : ∀ j w w', Ask ops D' j w w' → Ask ops D j w w') : ∀ (fuel : Nat) (listed : Array Bool) (a : Act) (w : World), wpAnyN P ops Q D' fuel listed a w → wpAnyN P ops Q D fuel listed a w
  | 0, _, _, _, h => h
  | fuel + 1, _, _, _, h => ⟨h.1, fun i hi => wpOp_mono (fun a' w' h' => ⟨hD _ _ _ h'.1, anyN_weak hD fuel _ a' w' h'.2⟩) (h.2 i hi)⟩
theorem edge_none {j i : Nat} {o : Oper} (hj : ops[j]? = some o) (h : ∀ e ∈ o.after, Region.binds .any e = true → e.on ≠ i) : edgeB ops j i = false := by
  unfold edgeB
  rw [hj]
  simp only [List.any_eq_false]
  intro e he hb
  simp only [Bool.and_eq_true] at hb
  exact h e (by simpa using he) hb.1 (Nat.eq_of_beq_eq_true hb.2)
theorem ready_edges {j i : Nat} {listed : Array Bool} (hj : j ∈ Region.ready .any ops listed) (hi : i ∈ Region.ready .any ops listed) : edgeB ops j i = false := by
  obtain ⟨_, oj, hoj, hall⟩ := mem_ready.1 hj
  refine edge_none hoj fun e he hb heq => ?_
  have h1 := hall e he hb
  have h0 := (mem_ready.1 hi).1
  rw [heq] at h1
  rcases Nat.lt_or_ge i listed.size with h' | h'
  · simp [h'] at h0 h1; rw [h0] at h1; cases h1
  · simp [Array.getElem?_eq_none h'] at h1
/-- what yields its value whatever comes ahead of it may come first -/
theorem anyN_first {C : World → Prop} {D D' : Pledges} {i : Nat} {oi : Oper} {v : Value} (hi : ops[i]? = some oi) (hl : lightAt ops i = true) (hsel : Region.noSelect ops = true)
    (hQ : ∀ c a w d u, Q (.panic c) (a.put d u) w → Q (.panic c) a w)
    (hD : ∀ j w w', Ask ops D' j w w' → Ask ops D j w w') (hC : ∀ j w w', lightAt ops j = false → unordB ops j i = true → Ask ops D' j w w' → C w') :
    ∀ (fuel : Nat) (listed : Array Bool) (a : Act) (w : World),
      (∀ j oj, ops[j]? = some oj → j ≠ i → listed.getD j true = false → (∀ e ∈ oj.after, Region.binds .any e = true → e.on ≠ i) → oi.apart ops oj = true) →
      i ∈ Region.ready .any ops listed → YieldsIf P ops C oi v a → C w →
      wpAnyN P ops Q D' fuel (listed.setIfInBounds i true) (a.put oi.dst v) w → wpAnyN P ops Q D (fuel + 1) listed a w := by
  have hs := Region.noSelect_spec hsel
  have hself : ∀ w, Ask ops D i w w := fun w => ⟨fun _ => rfl, fun h => by rw [hl] at h; cases h⟩
  intro fuel
  induction fuel with
  | zero =>
    intro listed a w _ hr hy hCw H
    refine ⟨fun h => (by rw [h] at hr; cases hr), fun j hj => ?_⟩
    by_cases hji : j = i
    · subst hji; exact hy.wpOp hi hCw ⟨hself w, H⟩
    · have := ready_mono hj hji
      rw [H.1] at this
      cases this
  | succ fuel ih =>
    intro listed a w hfree hr hy hCw H
    refine ⟨fun h => (by rw [h] at hr; cases hr), fun j hj => ?_⟩
    by_cases hji : j = i
    · subst hji; exact hy.wpOp hi hCw ⟨hself w, anyN_weak hD _ _ _ _ H⟩
    · have h1 := H.2 j (ready_mono hj hji)
      obtain ⟨hjun, oj, hoj, hall⟩ := mem_ready.1 hj
      have hnot : ∀ e ∈ oj.after, Region.binds .any e = true → e.on ≠ i := fun e he hb heq => by
        have h1 := hall e he hb
        have h0 := (mem_ready.1 hr).1
        rw [heq] at h1
        rcases Nat.lt_or_ge i listed.size with h' | h'
        · simp [h'] at h0 h1; rw [h0] at h1; cases h1
        · simp [Array.getElem?_eq_none h'] at h1
      have h2 := wpOp_putIf hoj (hfree j oj hoj hji hjun hnot) (fun cs b => hs i oi cs b hi) (fun cs b => hs j oj cs b hoj) (fun c a w => hQ c a w _ _) hy h1
      have hfree' : ∀ k ok, ops[k]? = some ok → k ≠ i → (listed.setIfInBounds j true).getD k true = false →
          (∀ e ∈ ok.after, Region.binds .any e = true → e.on ≠ i) → oi.apart ops ok = true := fun k ok hk hki hun hno => by
        refine hfree k ok hk hki ?_ hno
        by_cases hjk : j = k
        · subst hjk; exact hjun
        · rw [getD_set_ne true hjk] at hun; exact hun
      have hun : unordB ops j i = true := by
        have : Nat.beq i j = false := by
          cases hb : Nat.beq i j
          · rfl
          · exact absurd (Nat.eq_of_beq_eq_true hb).symm hji
        simp [unordB, this, ready_edges hj hr, ready_edges hr hj]
      refine wpOp_mono (fun a' w' h3 => ⟨hD _ _ _ h3.2.1, ih (listed.setIfInBounds j true) a' w' hfree' (ready_mono hr (Ne.symm hji)) h3.1 ?_ ?_⟩) h2
      · cases hlj : lightAt ops j
        · exact hC j w w' hlj hun h3.2.1
        · rw [h3.2.1.1 hlj]; exact hCw
      · rw [Array.setIfInBounds_comm _ _ hji]
        exact h3.2.2
/-- one operation of the order that was chosen -/
def StepO (P : Program) (ops : Array Oper) (Q : Post) (D : Pledges) (o : Oper) (i : Nat) (K : Pledges → Act → World → Prop) (a : Act) (w : World) : Prop :=
  if lightAt ops i = true then ∃ v, (YieldsIf P ops (fun _ => True) o v a ∧ K D (a.put o.dst v) w) ∨ (∃ C : World → Prop, C w ∧ YieldsIf P ops C o v a ∧ K ((i, C) :: D) (a.put o.dst v) w)
  else if Region.wanted o (yielded ops a.tmps) then o.wp P a w (fun a' w' => Dem ops i D w' ∧ K D a' w') Q ∨ (o.asks P a w ∧ LetsOut Q)
  else Dem ops i D w ∧ K D (a.put o.dst undef) w
/-- an order; where two may come next, and neither only looks, both ways -/
inductive Od where
  | nil
  | cons (i : Nat) (r : Od)
  | fork (i : Nat) (r : Od) (j : Nat) (s : Od)
def Od.of : List Nat → Od → Od
  | [], t => t
  | i :: r, t => .cons i (Od.of r t)
def Od.tail : Od → Od
  | .cons _ r => r
  | r => r
def Od.size : Od → Nat
  | .nil => 0
  | .cons _ r => r.size + 1
  | .fork _ r _ _ => r.size + 1
def wpO (P : Program) (ops : Array Oper) (Q : Post) : Od → Pledges → Act → World → Prop
  | .nil, _, a, w => Q .normal a w
  | .cons i r, D, a, w => ∃ o, ops[i]? = some o ∧ StepO P ops Q D o i (wpO P ops Q r) a w
  | .fork i r j s, D, a, w => (∃ o, ops[i]? = some o ∧ StepO P ops Q D o i (wpO P ops Q r) a w) ∧ (∃ o, ops[j]? = some o ∧ StepO P ops Q D o j (wpO P ops Q s) a w)
theorem heavy_step {i : Nat} {D : Pledges} {K : Pledges → Act → World → Prop} {a : Act} {w : World} {o : Oper} (ho : ops[i]? = some o) (hl : lightAt ops i = false) (hst : StepO P ops Q D o i K a w) {K' : Act → World → Prop} (hk : ∀ a w, K D a w → K' a w) :
    wpOp P ops Q i (fun a' w' => Ask ops D i w w' ∧ K' a' w') a w := by
  unfold StepO at hst
  rw [hl, if_neg (by simp)] at hst
  unfold wpOp
  simp only [ho]
  split
  · rename_i hw
    rw [if_pos hw] at hst
    exact hst.imp (Oper.wp_mono (fun a' w' h => ⟨⟨fun h0 => absurd h0 (by simp [hl]), fun _ => h.1⟩, hk a' w' h.2⟩)) id
  · rename_i hw
    rw [if_neg hw] at hst
    exact ⟨⟨fun h0 => absurd h0 (by simp [hl]), fun _ => hst.1⟩, hk _ _ hst.2⟩
def okD (ops : Array Oper) : Array Bool → Od → Bool
  | listed, .nil => (Region.ready .any ops listed).isEmpty
  | listed, .cons i r => (if lightAt ops i then Region.free .any ops listed i && (Region.ready .any ops listed).contains i else (Region.ready .any ops listed) == [i]) && okD ops (listed.setIfInBounds i true) r
  | listed, .fork i r j s => Region.ready .any ops listed == [i, j] && !lightAt ops i && !lightAt ops j && Nat.beq r.size s.size && okD ops (listed.setIfInBounds i true) r && okD ops (listed.setIfInBounds j true) s
theorem anyN_of_O (hsel : Region.noSelect ops = true) (hQ : ∀ c a w d u, Q (.panic c) (a.put d u) w → Q (.panic c) a w) :
    ∀ (r : Od) (listed : Array Bool) (D : Pledges) (a : Act) (w : World), okD ops listed r = true → wpO P ops Q r D a w → wpAnyN P ops Q D r.size listed a w
  | .nil, listed, D, a, w, hok, h => ⟨by simpa [okD] using hok, h⟩
  | .cons i r, listed, D, a, w, hok, h => by
    obtain ⟨o, ho, hst⟩ := h
    simp only [okD, Bool.and_eq_true] at hok
    obtain ⟨h1, h2⟩ := hok
    have ih := fun D a w => anyN_of_O hsel hQ r (listed.setIfInBounds i true) D a w h2
    cases hl : lightAt ops i
    · rw [hl, if_neg (by simp)] at h1
      have hr : Region.ready .any ops listed = [i] := by simpa using h1
      refine ⟨fun h0 => (by rw [hr] at h0; cases h0), fun j hj => ?_⟩
      rw [hr] at hj
      obtain rfl : j = i := by simpa using hj
      exact heavy_step ho hl hst fun a w h => ih D a w h
    · unfold StepO at hst
      rw [hl, if_pos rfl] at h1 hst
      simp only [Bool.and_eq_true] at h1
      have hr : i ∈ Region.ready .any ops listed := by simpa using h1.2
      obtain ⟨v, ⟨hy, hk⟩ | ⟨C, hCw, hy, hk⟩⟩ := hst
      · exact anyN_first (C := fun _ => True) (D' := D) ho hl hsel hQ (fun _ _ _ h => h) (fun _ _ _ _ _ _ => trivial) r.size listed a w (Region.free_spec ho h1.1) hr hy trivial (ih _ _ _ hk)
      · exact anyN_first (C := C) (D' := (i, C) :: D) ho hl hsel hQ (fun j w w' h => ⟨h.1, fun h0 => (h.2 h0).2⟩) (fun j w w' h0 hu h => (h.2 h0).1 hu) r.size listed a w (Region.free_spec ho h1.1) hr hy hCw (ih _ _ _ hk)
  | .fork i r j s, listed, D, a, w, hok, ⟨⟨o1, ho1, hs1⟩, ⟨o2, ho2, hs2⟩⟩ => by
    simp only [okD, Bool.and_eq_true, Bool.not_eq_true'] at hok
    obtain ⟨⟨⟨⟨⟨hr, hi⟩, hj⟩, hlen⟩, h1⟩, h2⟩ := hok
    have hr' : Region.ready .any ops listed = [i, j] := by simpa using hr
    have hlen' : r.size = s.size := Nat.eq_of_beq_eq_true hlen
    have i1 := fun D a w => anyN_of_O hsel hQ r (listed.setIfInBounds i true) D a w h1
    have i2 := fun D a w => anyN_of_O hsel hQ s (listed.setIfInBounds j true) D a w h2
    refine ⟨fun h0 => (by rw [hr'] at h0; cases h0), fun x hx => ?_⟩
    rw [hr'] at hx
    rcases List.mem_cons.1 hx with rfl | hx
    · exact heavy_step ho1 hi hs1 fun a w h => i1 D a w h
    · obtain rfl : x = j := by simpa using hx
      exact heavy_step ho2 hj hs2 fun a w h => by rw [hlen']; exact i2 D a w h
end sem

theorem Cont.blind {P : Program} {n : Nat} : ∀ (Q : Cont) (c : List PanicEntry) (a : Act) (w : World) (d : Option Tmp) (u : Value), Q.post P n (.panic c) (a.put d u) w → Q.post P n (.panic c) a w
  | .body _ _, _, _, _, d, _, h => by cases d <;> exact h
  | .seq _ k, c, a, w, d, u, h => Cont.blind k c a w d u h
  | .blk _ k, c, a, w, d, u, h => Cont.blind k c a w d u h
  | .loop _ _ _ _ _ k, c, a, w, d, u, h => Cont.blind k c a w d u h
  | .cut _ _ _ k, c, a, w, d, u, h => Cont.blind k c a w d u h
  | .step _ k, c, a, w, d, u, h => Cont.blind k c a w d u h
  | .scope _ _ _ _ _ k, c, a, w, d, u, h => Cont.blind k c a w d u h

def nthO : List Oper → Nat → Option Oper
  | [], _ => none
  | o :: _, 0 => some o
  | _ :: l, i + 1 => nthO l i
theorem nthO_eq : ∀ (l : List Oper) (i : Nat), nthO l i = l[i]?
  | [], i => by simp [nthO]
  | o :: l, 0 => by simp [nthO]
  | o :: l, i + 1 => by simp [nthO, nthO_eq l i]
/-- the rest of the order -/
structure TW (P : Program) (n : Nat) (ops : Array Oper) (D : Pledges) (r : Od) (Q : Cont) (E : Env) (w : World) : Prop where
  go : ∀ a, EnvOk n E a → wpO P ops (Q.post P n) r D a w
/-- its first operation is o -/
structure TO (P : Program) (n : Nat) (ops : Array Oper) (D : Pledges) (o : Oper) (i : Nat) (r : Od) (Q : Cont) (E : Env) (w : World) : Prop where
  go : ∀ a, EnvOk n E a → StepO P ops (Q.post P n) D o i (wpO P ops (Q.post P n) r) a w
/-- the pledges hold here -/
structure DM (ops : Array Oper) (i : Nat) (D : Pledges) (w : World) : Prop where
  is : Dem ops i D w
theorem dm_nil {ops : Array Oper} {i : Nat} {w : World} : DM ops i [] w := ⟨trivial⟩
theorem dm_off {ops : Array Oper} {i j : Nat} {C : World → Prop} {D : Pledges} {w : World} (hu : unordB ops i j = false) (h : DM ops i D w) : DM ops i ((j, C) :: D) w := ⟨⟨fun h0 => absurd h0 (by simp [hu]), h.is⟩⟩
theorem dm_on {ops : Array Oper} {i j : Nat} {C : World → Prop} {D : Pledges} {w : World} (hC : C w) (h : DM ops i D w) : DM ops i ((j, C) :: D) w := ⟨⟨fun _ => hC, h.is⟩⟩

section
variable {P : Program} {n : Nat} {Q : Cont} {E : Env} {w0 w : World} {Z : Nat → Prop} {L : List Assn} {ops : Array Oper} {D : Pledges} {r : Od} {i : Nat} {o : Oper} {v : Value}
variable {d : Nat} {ty : TypeId} {pos : String} {aft : Array Edge} {op : Op}
def drawB (ops : Array Oper) (r : Od) : Bool := Region.noSelect ops && Nat.beq r.size ops.size && okD ops (Array.replicate ops.size false) r
theorem t_draw {id : Nat} (r : Od) (hm : P.follows .mixedOrders = true) (hok : drawB ops r = true) (hst : St w0 Z L w) (h : ∀ w, St w0 Z L w → TW P n ops [] r Q E w) : T P n (.region id ops true) Q E w := ⟨fun a ha => by
  simp only [drawB, Bool.and_eq_true] at hok
  have hl : r.size = ops.size := Nat.eq_of_beq_eq_true hok.1.2
  refine wp_region_any hm (wpAny_of_N (D := []) _ _ _ _ ?_)
  rw [← hl]
  exact anyN_of_O hok.1.1 (Cont.blind Q) r _ [] a _ (hl ▸ hok.2) ((h _ hst.drew).go a ha)⟩
theorem tw_nil (h : N P n Q E w) : TW P n ops D .nil Q E w := ⟨fun a ha => h.go a ha⟩
theorem tw_get (ho : nthO ops.toList i = some o) (h : TO P n ops D o i r Q E w) : TW P n ops D (.cons i r) Q E w := ⟨fun a ha => ⟨o, by rw [← Array.getElem?_toList, ← nthO_eq]; exact ho, h.go a ha⟩⟩
theorem yif_none {C : World → Prop} {o : Oper} {a : Act} (hg : o.guard = none) (h : ∀ w, C w → (execOp a.eval o).run P w = .ok (.value v) w) : YieldsIf P ops C o v a := .inl ⟨by simp [Region.wanted, hg], h⟩
theorem to_yld (hl : lightAt ops i = true) (h : Yld P n ⟨some d, op, ty, pos, aft, none⟩ E v) (hd : Nat.blt d n = true) (k : TW P n ops D r Q ((d, v) :: E) w) : TO P n ops D ⟨some d, op, ty, pos, aft, none⟩ i r Q E w := ⟨fun a ha => by
  unfold StepO
  rw [if_pos hl]
  exact ⟨v, .inl ⟨yif_none rfl fun w _ => h.go a w ha, k.go _ (ha.put hd v)⟩⟩⟩
/-- a load: C is what it asks of the world -/
theorem to_ldC (C : World → Prop) (hl : lightAt ops i = true) (hC : C w) (h : ∀ w, C w → YldAt P n ⟨some d, op, ty, pos, aft, none⟩ E w v) (hd : Nat.blt d n = true) (k : TW P n ops ((i, C) :: D) r Q ((d, v) :: E) w) : TO P n ops D ⟨some d, op, ty, pos, aft, none⟩ i r Q E w := ⟨fun a ha => by
  unfold StepO
  rw [if_pos hl]
  exact ⟨v, .inr ⟨C, hC, yif_none rfl fun w hw => (h w hw).go a ha, k.go _ (ha.put hd v)⟩⟩⟩
theorem to_ld (hl : lightAt ops i = true) (hst : St w0 Z L w) (h : ∀ w, St w0 Z L w → YldAt P n ⟨some d, op, ty, pos, aft, none⟩ E w v) (hd : Nat.blt d n = true) (k : TW P n ops ((i, St w0 Z L) :: D) r Q ((d, v) :: E) w) : TO P n ops D ⟨some d, op, ty, pos, aft, none⟩ i r Q E w :=
  to_ldC (St w0 Z L) hl hst h hd k
/-- what a block holds -/
structure HeapIs (g : Nat) (o : Obj) (w : World) : Prop where
  is : w.heap[g]? = some o
theorem to_ld_box {x : Operand} {t tt : TypeId} {g k : Nat} {off : Nat} {cs : List Value} (hl : lightAt ops i = true) (hst : St w0 Z L w) (hi : L[k]? = some (cellsA g tt cs)) (hx : eev E x = some (.pointer (some ⟨g, off, none⟩))) (ha : aggB P t = some false) (hc : cs[off]? = some v) (hd : Nat.blt d n = true)
    (kk : TW P n ops ((i, HeapIs g (.cells cs.toArray tt (0, 0))) :: D) r Q ((d, v) :: E) w) : TO P n ops D ⟨some d, .load t x, ty, pos, aft, none⟩ i r Q E w :=
  to_ldC (HeapIs g (.cells cs.toArray tt (0, 0))) hl ⟨hst.box hi⟩ (fun w hw => ld_one hx ha (by rw [cell_of_row w g off _ _ _ hw.is]; simpa using hc)) hd kk
/-- an operation that turns the world, or makes memory, or calls -/
def KO (P : Program) (n : Nat) (ops : Array Oper) (D : Pledges) (i : Nat) (r : Od) (Q : Cont) : Act → World → Prop := fun a w => Dem ops i D w ∧ wpO P ops (Q.post P n) r D a w
theorem upon_then {R : Act → World → Prop} {o : Oper} {a : Act} {K : Act → World → Prop} {Q : Post} (h : o.wp P a w K (Exit.then R Q)) : o.wp P a w K Q := by
  unfold Oper.wp at *
  generalize (execOp a.eval o).run P w = x at *
  cases x with
  | ok n w' => cases n <;> exact h
  | halt x w' => cases x <;> exact h
theorem to_heavy (hl : lightAt ops i = false) (h : TL P n ops [o] (.step (KO P n ops D i r Q) Q) E w) : TO P n ops D o i r Q E w := ⟨fun a ha => by
  have h1 := h.go a ha
  unfold StepO
  rw [hl, if_neg (by simp)]
  unfold wpList at h1
  split
  · rename_i hw
    rw [if_pos hw] at h1
    exact h1.imp upon_then id
  · rename_i hw
    rw [if_neg hw] at h1
    exact h1⟩
theorem n_step (hD : DM ops i D w) (h : TW P n ops D r Q E w) : N P n (.step (KO P n ops D i r Q) Q) E w := ⟨fun a ha => ⟨hD.is, h.go a ha⟩⟩

/-! guards -/
variable {dst : Option Tmp} {j dj : Nat} {b b' : Bool}
theorem yielded_of {a : Act} (ha : EnvOk n E a) (hj : (ops[j]?).bind (·.dst) = some dj) (hv : eget E dj = some (.bool b)) : yielded ops a.tmps j = some b := by
  unfold yielded
  rw [hj]
  simp [ha.get _ _ hv]
theorem to_guard_on (hj : (ops[j]?).bind (·.dst) = some dj) (hv : eget E dj = some (.bool b))
    (k : TO P n ops D ⟨dst, op, ty, pos, aft, none⟩ i r Q E w) : TO P n ops D ⟨dst, op, ty, pos, aft, some (j, b)⟩ i r Q E w := ⟨fun a ha => by
  have h := k.go a ha
  have hy := yielded_of ha hj hv
  have hw : Region.wanted ⟨dst, op, ty, pos, aft, some (j, b)⟩ (yielded ops a.tmps) = true := by simp [Region.wanted, hy]
  have hY : ∀ {C : World → Prop} {v : Value}, YieldsIf P ops C ⟨dst, op, ty, pos, aft, none⟩ v a → YieldsIf P ops C ⟨dst, op, ty, pos, aft, some (j, b)⟩ v a := fun h => by
    rcases h with h | h
    · exact .inl ⟨hw, h.2⟩
    · have h3 := h.1; simp [Region.wanted] at h3
  unfold StepO at h ⊢
  split
  · rename_i hl
    rw [if_pos hl] at h
    obtain ⟨v, ⟨h1, h2⟩ | ⟨C, h1, h2, h3⟩⟩ := h
    · exact ⟨v, .inl ⟨hY h1, h2⟩⟩
    · exact ⟨v, .inr ⟨C, h1, hY h2, h3⟩⟩
  · rename_i hl
    rw [if_neg hl] at h
    rw [if_pos (by simp [Region.wanted])] at h
    exact h⟩
theorem to_off {o : Oper} (hl : lightAt ops i = true) (hw : ∀ a, EnvOk n E a → Region.wanted o (yielded ops a.tmps) = false) (hdst : o.dst = some d) (hd : Nat.blt d n = true) (k : TW P n ops D r Q ((d, undef) :: E) w) : TO P n ops D o i r Q E w := ⟨fun a ha => by
  unfold StepO
  rw [if_pos hl, hdst]
  exact ⟨undef, .inl ⟨.inr ⟨hw a ha, rfl⟩, k.go _ (ha.put hd undef)⟩⟩⟩
theorem to_off_heavy {o : Oper} (hl : lightAt ops i = false) (hw : ∀ a, EnvOk n E a → Region.wanted o (yielded ops a.tmps) = false) (hdst : o.dst = some d) (hd : Nat.blt d n = true) (hS : DM ops i D w) (k : TW P n ops D r Q ((d, undef) :: E) w) : TO P n ops D o i r Q E w := ⟨fun a ha => by
  unfold StepO
  rw [if_neg (by simp [hl]), if_neg (by simp [hw a ha]), hdst]
  exact ⟨hS.is, k.go _ (ha.put hd undef)⟩⟩
theorem wanted_off {a : Act} (ha : EnvOk n E a) (hj : (ops[j]?).bind (·.dst) = some dj) (hv : eget E dj = some (.bool b)) (hb : (b == b') = false) : Region.wanted ⟨dst, op, ty, pos, aft, some (j, b')⟩ (yielded ops a.tmps) = false := by
  simp only [Region.wanted, yielded_of ha hj hv]
  cases b <;> cases b' <;> simp_all
theorem to_guard_undef (hl : lightAt ops i = true) (hj : (ops[j]?).bind (·.dst) = some dj) (hv : eget E dj = some undef) (hd : Nat.blt d n = true)
    (k : TW P n ops D r Q ((d, undef) :: E) w) : TO P n ops D ⟨some d, op, ty, pos, aft, some (j, b')⟩ i r Q E w :=
  to_off hl (fun a ha => by
    have hy : yielded ops a.tmps j = none := by
      unfold yielded
      rw [hj]
      simp [ha.get _ _ hv, undef]
    simp [Region.wanted, hy]) rfl hd k
theorem to_guard_t (hl : lightAt ops i = true) (hj : (ops[j]?).bind (·.dst) = some dj) (hv : eget E dj = some (.bool b)) (hd : Nat.blt d n = true)
    (ht : b = true → TO P n ops D ⟨some d, op, ty, pos, aft, none⟩ i r Q ((dj, .bool true) :: E) w) (hf : b = false → TW P n ops D r Q ((d, undef) :: (dj, .bool false) :: E) w) :
    TO P n ops D ⟨some d, op, ty, pos, aft, some (j, true)⟩ i r Q E w := by
  have h0 : ∀ c, eget ((dj, Value.bool c) :: E) dj = some (.bool c) := fun c => by rw [eget_cons, if_pos rfl]
  cases hb : b
  · exact ⟨fun a ha => (to_off (E := (dj, .bool false) :: E) hl (fun a ha => wanted_off ha hj (h0 false) rfl) rfl hd (hf hb)).go a (env_case hv hb ha)⟩
  · exact ⟨fun a ha => (to_guard_on hj (h0 true) (ht hb)).go a (env_case hv hb ha)⟩
theorem to_guard_f (hl : lightAt ops i = true) (hj : (ops[j]?).bind (·.dst) = some dj) (hv : eget E dj = some (.bool b)) (hd : Nat.blt d n = true)
    (hf : b = false → TO P n ops D ⟨some d, op, ty, pos, aft, none⟩ i r Q ((dj, .bool false) :: E) w) (ht : b = true → TW P n ops D r Q ((d, undef) :: (dj, .bool true) :: E) w) :
    TO P n ops D ⟨some d, op, ty, pos, aft, some (j, false)⟩ i r Q E w := by
  have h0 : ∀ c, eget ((dj, Value.bool c) :: E) dj = some (.bool c) := fun c => by rw [eget_cons, if_pos rfl]
  cases hb : b
  · exact ⟨fun a ha => (to_guard_on hj (h0 false) (hf hb)).go a (env_case hv hb ha)⟩
  · exact ⟨fun a ha => (to_off (E := (dj, .bool true) :: E) hl (fun a ha => wanted_off ha hj (h0 true) rfl) rfl hd (ht hb)).go a (env_case hv hb ha)⟩
theorem to_guard_tH (hl : lightAt ops i = false) (hj : (ops[j]?).bind (·.dst) = some dj) (hv : eget E dj = some (.bool b)) (hd : Nat.blt d n = true) (hS : b = false → DM ops i D w)
    (ht : b = true → TO P n ops D ⟨some d, op, ty, pos, aft, none⟩ i r Q ((dj, .bool true) :: E) w) (hf : b = false → TW P n ops D r Q ((d, undef) :: (dj, .bool false) :: E) w) :
    TO P n ops D ⟨some d, op, ty, pos, aft, some (j, true)⟩ i r Q E w := by
  have h0 : ∀ c, eget ((dj, Value.bool c) :: E) dj = some (.bool c) := fun c => by rw [eget_cons, if_pos rfl]
  cases hb : b
  · exact ⟨fun a ha => (to_off_heavy (E := (dj, .bool false) :: E) hl (fun a ha => wanted_off ha hj (h0 false) rfl) rfl hd (hS hb) (hf hb)).go a (env_case hv hb ha)⟩
  · exact ⟨fun a ha => (to_guard_on hj (h0 true) (ht hb)).go a (env_case hv hb ha)⟩
/-- two that may come next: both ways -/
theorem tw_fork {s : Od} {j : Nat} (h1 : TW P n ops D (.cons i r) Q E w) (h2 : TW P n ops D (.cons j s) Q E w) : TW P n ops D (.fork i r j s) Q E w := ⟨fun a ha => ⟨h1.go a ha, h2.go a ha⟩⟩
/-! what kind of goal stands here -/
theorem k_TW (h : TW P n ops D r Q E w) : TW P n ops D r Q E w := h
theorem k_TO {o : Oper} (h : TO P n ops D o i r Q E w) : TO P n ops D o i r Q E w := h
theorem k_draw {id : Nat} {c : Array Oper} (h : T P n (.region id c true) Q E w) : T P n (.region id c true) Q E w := h
section
variable {x y z : Operand} {t t' : TypeId} {b : BinOp} {j : Nat} {bb : Bool}
theorem ko_move (h : TO P n ops D ⟨dst, .move x, ty, pos, aft, none⟩ i r Q E w) : TO P n ops D ⟨dst, .move x, ty, pos, aft, none⟩ i r Q E w := h
theorem ko_assign (h : TO P n ops D ⟨dst, .assign x, ty, pos, aft, none⟩ i r Q E w) : TO P n ops D ⟨dst, .assign x, ty, pos, aft, none⟩ i r Q E w := h
theorem ko_pick (h : TO P n ops D ⟨dst, .pick x y z, ty, pos, aft, none⟩ i r Q E w) : TO P n ops D ⟨dst, .pick x y z, ty, pos, aft, none⟩ i r Q E w := h
theorem ko_nil (h : TO P n ops D ⟨dst, .nilCheck x, ty, pos, aft, none⟩ i r Q E w) : TO P n ops D ⟨dst, .nilCheck x, ty, pos, aft, none⟩ i r Q E w := h
theorem ko_bin (h : TO P n ops D ⟨dst, .binOp b t x y t', ty, pos, aft, none⟩ i r Q E w) : TO P n ops D ⟨dst, .binOp b t x y t', ty, pos, aft, none⟩ i r Q E w := h
theorem ko_fa (h : TO P n ops D ⟨dst, .fieldAddr t x j, ty, pos, aft, none⟩ i r Q E w) : TO P n ops D ⟨dst, .fieldAddr t x j, ty, pos, aft, none⟩ i r Q E w := h
theorem ko_load (h : TO P n ops D ⟨dst, .load t x, ty, pos, aft, none⟩ i r Q E w) : TO P n ops D ⟨dst, .load t x, ty, pos, aft, none⟩ i r Q E w := h
theorem ko_ext (h : TO P n ops D ⟨dst, .extract x j, ty, pos, aft, none⟩ i r Q E w) : TO P n ops D ⟨dst, .extract x j, ty, pos, aft, none⟩ i r Q E w := h
theorem ko_grd (h : TO P n ops D ⟨dst, op, ty, pos, aft, some (j, bb)⟩ i r Q E w) : TO P n ops D ⟨dst, op, ty, pos, aft, some (j, bb)⟩ i r Q E w := h
theorem ko_sl {lo hi mx : Option Operand} (h : TO P n ops D ⟨dst, .slice t x lo hi mx, ty, pos, aft, none⟩ i r Q E w) : TO P n ops D ⟨dst, .slice t x lo hi mx, ty, pos, aft, none⟩ i r Q E w := h
end
end
end Go.Proofs.YtalainpmlonahaaDoor
end
section
/-!
  VALUES WITHOUT POINTERS (bools, integers, arrays and structs of such): reading them, comparing them. No program in sight.
-/
namespace Go.Proofs.YtalainpmlonahaaDoor
open Go.RowKit

theorem mapM_ex {α β : Type} {f : α → Option β} : ∀ {l : List α}, (∀ x ∈ l, ∃ y, f x = some y) → ∃ r, l.mapM f = some r
  | [], _ => ⟨[], by simp⟩
  | x :: l, h => by
    obtain ⟨y, hy⟩ := h x (by simp)
    obtain ⟨r, hr⟩ := mapM_ex (l := l) fun z hz => h z (by simp [hz])
    exact ⟨y :: r, by simp [hy, hr]⟩
theorem mapM_of {α β : Type} {f : α → Option β} : ∀ {l : List α} {r : List β}, l.mapM f = some r → ∀ x ∈ l, ∃ y, f x = some y
  | [], _, _, _, hx => by cases hx
  | z :: l, r, h, x, hx => by
    rw [List.mapM_cons] at h
    simp only [bind, Option.bind_eq_some_iff, pure, Option.some.injEq] at h
    obtain ⟨a, ha, as', has, rfl⟩ := h
    rcases List.mem_cons.1 hx with rfl | hx
    · exact ⟨a, ha⟩
    · exact mapM_of has x hx
theorem mapM_to {α β : Type} {f g : α → Option β} : ∀ {l : List α} {r : List β}, (∀ x ∈ l, ∀ y, f x = some y → g x = some y) → l.mapM f = some r → l.mapM g = some r
  | [], r, _, h => by simpa using h
  | z :: l, r, hfg, h => by
    rw [List.mapM_cons] at h ⊢
    simp only [bind, Option.bind_eq_some_iff, pure, Option.some.injEq] at h ⊢
    obtain ⟨a, ha, as', has, rfl⟩ := h
    exact ⟨a, hfg z (by simp) a ha, as', mapM_to (fun x hx => hfg x (by simp [hx])) has, rfl⟩

section
variable {P : Program}
def KV (P : Program) (t : TypeId) (cs : List Value) : Prop := ∃ D L, P.keyLits D t cs = some L
theorem lits_at : ∀ (m : Nat) {t : TypeId} {D : Nat} {cs : List Value} {L : List Lit}, P.keyTypeAt m t = true → P.keyLits D t cs = some L → P.keyLits m t cs = some L
  | 0, t, D, cs, L, h, _ => by simp [Program.keyTypeAt] at h
  | m + 1, t, 0, cs, L, _, h => by simp [Program.keyLits] at h
  | m + 1, t, D + 1, cs, L, hk, h => by
    unfold Program.keyTypeAt at hk
    unfold Program.keyLits at h ⊢
    cases hu : P.underlying t with
    | none => simp [hu] at hk
    | some kd =>
      cases kd
      case array n e =>
        simp only [hu] at hk h ⊢
        split at h
        · rename_i hl
          rw [if_pos hl]
          simp only [Option.map_eq_some_iff] at h ⊢
          obtain ⟨as, ha, rfl⟩ := h
          exact ⟨as, mapM_to (fun x _ y hy => lits_at m hk hy) ha, rfl⟩
        · cases h
      case struct fs =>
        simp only [hu, Bool.and_eq_true, Bool.not_eq_true'] at hk h ⊢
        split at h
        · rename_i hl
          rw [if_pos hl]
          simp only [Option.map_eq_some_iff] at h ⊢
          obtain ⟨as, ha, rfl⟩ := h
          refine ⟨as, mapM_to (fun f hf y hy => lits_at m ?_ hy) ha, rfl⟩
          have := Array.all_eq_true_iff_forall_mem.1 hk.1.1 f (Array.mem_toList_iff.1 hf)
          simp only [Bool.and_eq_true] at this
          exact this.2
        · cases h
      all_goals (simp only [hu] at h ⊢; first | (cases h; done) | (split at h <;> simp_all))
theorem KV.len {t : TypeId} {fs : Array Field} {cs : List Value} (hu : P.underlying t = some (.struct fs)) (h : KV P t cs) : cs.length = P.cellsOf t := by
  obtain ⟨D, L, h⟩ := h
  cases D with
  | zero => simp [Program.keyLits] at h
  | succ D =>
    unfold Program.keyLits at h
    simp only [hu] at h
    split at h
    · rename_i hl; exact hl.1
    · cases h
theorem KV.field {t : TypeId} {fs : Array Field} {cs : List Value} (hu : P.underlying t = some (.struct fs)) (h : KV P t cs) {i : Nat} {f : Field} (hf : fs[i]? = some f) : KV P f.type ((cs.drop f.offset).take (P.cellsOf f.type)) := by
  obtain ⟨D, L, h⟩ := h
  cases D with
  | zero => simp [Program.keyLits] at h
  | succ D =>
    unfold Program.keyLits at h
    simp only [hu] at h
    split at h
    · simp only [Option.map_eq_some_iff] at h
      obtain ⟨as, ha, rfl⟩ := h
      obtain ⟨y, hy⟩ := mapM_of ha f (by rw [← Array.getElem?_toList] at hf; exact List.mem_of_getElem? hf)
      exact ⟨D, y, hy⟩
    · cases h
theorem KV.part {t ft off m : Nat} {fs : Array Field} {cs : List Value} {i : Nat} (h : KV P t cs) (hu : P.underlying t = some (.struct fs)) (hf : (fs[i]?).map (fun f => (f.type, f.offset, P.cellsOf f.type)) = some (ft, off, m)) : KV P ft ((cs.drop off).take m) := by
  obtain ⟨f, h1, h2⟩ := Option.map_eq_some_iff.1 hf
  simp only [Prod.mk.injEq] at h2
  obtain ⟨rfl, rfl, rfl⟩ := h2
  exact h.field hu h1
theorem KV.mk {t : TypeId} {fs : Array Field} {cs : List Value} {m : Nat} (hk : P.keyTypeAt (m + 1) t = true) (hu : P.underlying t = some (.struct fs)) (hl : cs.length = P.cellsOf t) (h : ∀ f ∈ fs.toList, KV P f.type ((cs.drop f.offset).take (P.cellsOf f.type))) : KV P t cs := by
  unfold Program.keyTypeAt at hk
  simp only [hu, Bool.and_eq_true, Bool.not_eq_true'] at hk
  have hall := fun f hf => Array.all_eq_true_iff_forall_mem.1 hk.1.1 f (Array.mem_toList_iff.1 hf)
  obtain ⟨r, hr⟩ := mapM_ex (l := fs.toList) (f := fun f => P.keyLits m f.type ((cs.drop f.offset).take (P.cellsOf f.type))) fun f hf => by
    obtain ⟨D, L, hL⟩ := h f hf
    have := hall f hf
    simp only [Bool.and_eq_true] at this
    exact ⟨L, lits_at m this.2 hL⟩
  refine ⟨m + 1, r.flatten, ?_⟩
  unfold Program.keyLits
  simp only [hu]
  have hh : (fs.all fun x => x.name != "_") = true := by
    rw [Array.all_eq_true_iff_forall_mem]
    intro f hf
    have := hall f (by simpa using hf)
    simp only [Bool.and_eq_true] at this
    exact this.1
  rw [if_pos ⟨hl, hh⟩, hr]; rfl
theorem KV.int {t : TypeId} {k : IntKind} {n : Int} (hu : P.underlying t = some (.int k)) (hw : (Lit.int k n).wf = true) : KV P t [.int k n] := ⟨1, [.int k n], by simp [Program.keyLits, hu, hw]⟩
theorem KV.bool {t : TypeId} {b : Bool} (hu : P.underlying t = some .bool) : KV P t [.bool b] := ⟨1, [.bool b], by simp [Program.keyLits, hu]⟩
theorem KV.int_inv {t : TypeId} {k : IntKind} {cs : List Value} (hu : P.underlying t = some (.int k)) (h : KV P t cs) : ∃ n, cs = [.int k n] ∧ (Lit.int k n).wf = true := by
  obtain ⟨D, L, h⟩ := h
  cases D with
  | zero => simp [Program.keyLits] at h
  | succ D =>
    unfold Program.keyLits at h
    simp only [hu] at h
    split at h <;> simp_all
theorem KV.bool_inv {t : TypeId} {cs : List Value} (hu : P.underlying t = some .bool) (h : KV P t cs) : ∃ b, cs = [.bool b] := by
  obtain ⟨D, L, h⟩ := h
  cases D with
  | zero => simp [Program.keyLits] at h
  | succ D =>
    unfold Program.keyLits at h
    simp only [hu] at h
    split at h <;> simp_all
theorem KV.array {t e : TypeId} {n : Nat} {cs : List Value} {m : Nat} (hk : P.keyTypeAt (m + 1) t = true) (hu : P.underlying t = some (.array n e)) (hl : cs.length = P.cellsOf t) (h : ∀ i, i < n → KV P e ((cs.drop (i * P.cellsOf e)).take (P.cellsOf e))) : KV P t cs := by
  unfold Program.keyTypeAt at hk
  simp only [hu] at hk
  obtain ⟨r, hr⟩ := mapM_ex (l := List.range n) (f := fun i => P.keyLits m e ((cs.drop (i * P.cellsOf e)).take (P.cellsOf e))) fun i hi => by
    obtain ⟨D, L, hL⟩ := h i (List.mem_range.1 hi)
    exact ⟨L, lits_at m hk hL⟩
  refine ⟨m + 1, r.flatten, ?_⟩
  unfold Program.keyLits
  simp only [hu]
  rw [if_pos hl, hr]; rfl
theorem KV.elem {t e : TypeId} {n : Nat} {cs : List Value} (hu : P.underlying t = some (.array n e)) (h : KV P t cs) {i : Nat} (hi : i < n) : cs.length = P.cellsOf t ∧ KV P e ((cs.drop (i * P.cellsOf e)).take (P.cellsOf e)) := by
  obtain ⟨D, L, h⟩ := h
  cases D with
  | zero => simp [Program.keyLits] at h
  | succ D =>
    unfold Program.keyLits at h
    simp only [hu] at h
    split at h
    · rename_i hl
      simp only [Option.map_eq_some_iff] at h
      obtain ⟨as, ha, rfl⟩ := h
      obtain ⟨y, hy⟩ := mapM_of ha i (List.mem_range.2 hi)
      exact ⟨hl, D, y, hy⟩
    · cases h
/-- what is read of an argument of such a type -/
theorem kv_of_trod {H : Type} {enc : TypeId × Value → H} {w : World} {base : Nat} {sp : Nat → Bool} {held : Bool} : ∀ (m : Nat) {t : TypeId} {fuel : Nat} {cs : List Value} {x : DataW H × List MemPlace}, P.keyTypeAt m t = true →
    DataW.trod enc P w base sp held fuel t cs = some x → KV P t cs
  | 0, t, fuel, cs, x, h, _ => by simp [Program.keyTypeAt] at h
  | m + 1, t, 0, cs, x, _, h => by simp [DataW.trod] at h
  | m + 1, t, fuel + 1, cs, x, hk, h => by
    have hk0 := hk
    unfold Program.keyTypeAt at hk
    unfold DataW.trod at h
    cases hu : P.underlying t with
    | none => simp [hu] at hk
    | some kd =>
      cases kd <;> simp only [hu, Bool.false_eq_true] at hk h
      case bool =>
        split at h <;> first | (rename_i e1; cases e1; done) | skip
        all_goals first | (cases h; done) | skip
        all_goals simp_all
        all_goals first | exact KV.bool hu | skip
      case int q =>
        split at h <;> try (first | (simp_all; done))
        rename_i k' k n e
        split at h
        · rename_i hq
          obtain ⟨rfl, hw⟩ := hq
          simp_all
          exact KV.int hu hw
        · cases h
      case string =>
        split at h <;> try (first | (simp_all; done))
        rename_i s _
        split at h
        · rename_i hs
          exact ⟨1, [.string s.data.toList], by simp [Program.keyLits, hu, hs]⟩
        · cases h
      case array n e =>
        split at h
        · rename_i hl
          simp only [Option.map_eq_some_iff] at h
          obtain ⟨as, ha, rfl⟩ := h
          refine KV.array hk0 hu hl fun i hi => ?_
          obtain ⟨y, hy⟩ := mapM_of ha i (List.mem_range.2 hi)
          exact kv_of_trod m hk hy
        · cases h
      case struct fs =>
        split at h
        · rename_i hl
          simp only [Option.map_eq_some_iff] at h
          obtain ⟨as, ha, rfl⟩ := h
          refine KV.mk hk0 hu hl fun f hf => ?_
          obtain ⟨y, hy⟩ := mapM_of ha f hf
          simp only [Bool.and_eq_true] at hk
          have := Array.all_eq_true_iff_forall_mem.1 hk.1.1 f (Array.mem_toList_iff.1 hf)
          simp only [Bool.and_eq_true] at this
          exact kv_of_trod m this.2 hy
        · cases h

/-! comparing -/
def wideB (P : Program) (t : TypeId) : Bool := match P.underlying t with | some (.array _ _) | some (.struct _) => true | _ => false
def flatB (P : Program) (t : TypeId) : Bool := P.keyTypeAt 10 t && P.tiled 10 t && wideB P t && P.keyType t && !P.eqGuardType P.depth t
theorem flatB_law {t : TypeId} (h : flatB P t = true) : WideMaps.KeyLaw P t := by
  simp only [flatB, Bool.and_eq_true] at h
  exact deep_law (m := 10) (by decide) h.1.1.1.1 h.1.1.1.2 h.1.1.2
theorem KV.key {t : TypeId} {cs : List Value} (hf : flatB P t = true) (h : KV P t cs) : ∃ l, keyOf P t (.agg cs.toArray) = some l := by
  simp only [flatB, Bool.and_eq_true] at hf
  obtain ⟨D, L, hL⟩ := h
  have h1 := lits_at _ (show P.keyTypeAt (P.types.size + 1) t = true from hf.1.2) hL
  have hw : wideB P t = true := hf.1.1.2
  unfold wideB at hw
  unfold keyOf
  have hform : (Value.agg cs.toArray).formed P t = true := by
    cases D with
    | zero => simp [Program.keyLits] at hL
    | succ D =>
      unfold Program.keyLits at hL
      split at hw <;> first | (cases hw; done) | skip
      all_goals (rename_i hu; simp only [hu] at hL; split at hL <;> first | (cases hL; done) | skip)
      all_goals (rename_i hl; simp [Value.formed, hu, hl])
  split
  · rw [hf.1.2, hform]; simp [Value.cells, h1]
  · rw [hf.1.2, hform]; simp [Value.cells, h1]
  · split at hw <;> simp_all
open Classical in
theorem run_eq_flat (w : World) {t : TypeId} {xs ys : List Value} (hf : flatB P t = true) (hx : KV P t xs) (hy : KV P t ys) : (Op.equal t (.agg xs.toArray) (.agg ys.toArray)).run P w = .ok (decide (xs = ys)) w := by
  obtain ⟨lx, h1⟩ := hx.key hf
  obtain ⟨ly, h2⟩ := hy.key hf
  have hl := flatB_law hf
  simp only [flatB, Bool.and_eq_true] at hf
  obtain ⟨r, hr, hiff⟩ := run_equal_deep w (m := 10) (by decide) hf.1.1.1.1 hf.1.1.2 h1 h2
  rw [hr]
  congr 1
  rw [Bool.eq_iff_iff, hiff, decide_eq_true_iff]
  constructor
  · rintro rfl
    simpa using hl.inj h1 h2
  · rintro rfl
    rw [h1] at h2; exact Option.some.inj h2
end

section
variable {P : Program} {n : Nat} {E : Env} {d : Nat} {ty : TypeId} {pos : String} {aft : Array Edge}
open Classical in
theorem y_eqlA {x y : Operand} {xs ys : List Value} {t yt : TypeId} (hx : eev E x = some (.agg xs.toArray)) (hy : eev E y = some (.agg ys.toArray)) (hf : flatB P t = true) (h1 : KV P t xs) (h2 : KV P t ys) :
    Yld P n ⟨some d, .binOp .eql t x y yt, ty, pos, aft, none⟩ E (.bool (decide (xs = ys))) := ⟨fun a w ha => by
  have hg : P.eqGuardType P.depth t = false := by simp only [flatB, Bool.and_eq_true, Bool.not_eq_true'] at hf; exact hf.2
  have := run_eq_flat w hf h1 h2
  simp only [execOp, ha.ev hx, ha.ev hy, Sem.run_bind, run_eqGuard_agg w _ _ _ _ _ _ hg, Result.andThen_ok, binOp, this]; rfl⟩
open Classical in
theorem y_neqA {x y : Operand} {xs ys : List Value} {t yt : TypeId} (hx : eev E x = some (.agg xs.toArray)) (hy : eev E y = some (.agg ys.toArray)) (hf : flatB P t = true) (h1 : KV P t xs) (h2 : KV P t ys) :
    Yld P n ⟨some d, .binOp .neq t x y yt, ty, pos, aft, none⟩ E (.bool (decide (xs ≠ ys))) := ⟨fun a w ha => by
  have hg : P.eqGuardType P.depth t = false := by simp only [flatB, Bool.and_eq_true, Bool.not_eq_true'] at hf; exact hf.2
  have := run_eq_flat w hf h1 h2
  simp only [execOp, ha.ev hx, ha.ev hy, Sem.run_bind, run_eqGuard_agg w _ _ _ _ _ _ hg, Result.andThen_ok, binOp, this]
  simp⟩
end
end Go.Proofs.YtalainpmlonahaaDoor
end
section
/-!
  PARTS OF THE HEAP KNOWN BLOCK BY BLOCK; MAPS; POINTERS THAT ARE COMPARED. No program in sight.
-/
namespace Go.Proofs.YtalainpmlonahaaDoor
open Go.RowKit

/-- the heap of this part, block by block -/
structure eqA (O : Hp) (h : Hp) : Prop where
  eq : h = O
def upd (O : Hp) (b : Nat) (o : Obj) : Hp := fun k => if k = b then some o else O k
theorem upd_self (O : Hp) (b : Nat) (o : Obj) : upd O b o b = some o := by simp [upd]
theorem upd_ne (O : Hp) {b k : Nat} (o : Obj) (h : k ≠ b) : upd O b o k = O k := by simp [upd, h]
theorem upd_dom {O : Hp} {b k : Nat} {o : Obj} (hb : O b ≠ none) : upd O b o k ≠ none ↔ O k ≠ none := by
  by_cases h : k = b
  · subst h; simp [upd, hb]
  · rw [upd_ne _ _ h]
abbrev rowO (t : TypeId) (cs : List Value) : Obj := .cells cs.toArray t (0, 0)

section st
variable {w0 w w' : World} {Z : Nat → Prop} {L : List Assn} {O : Hp}
theorem St.at (h : St w0 Z L w) {i : Nat} (hi : L[i]? = some (eqA O)) {b : Nat} {o : Obj} (ho : O b = some o) : w.heap[b]? = some o := by
  obtain ⟨k, ⟨rfl⟩, hs⟩ := h.get hi
  exact hs b o ho
theorem St.subO (h : St w0 Z L w) {i : Nat} (hi : L[i]? = some (eqA O)) : Sub O w := fun _ _ ho => h.at hi ho
/-- a part of the heap that is borrowed -/
theorem St.lend {O : Hp} (hs : Sub O w) : St w (fun b => O b ≠ none) [eqA O] w :=
  ⟨rfl, Tp.rfl, rfl, Nat.le_refl _, fun _ _ _ => rfl, O, ⟨O, hemp, fun _ => .inr rfl, by funext b; simp [hun, hemp], ⟨rfl⟩, trivial⟩, hs, fun _ h => .inl h⟩
theorem St.put (h : St w0 Z L w) {i : Nat} (hi : L[i]? = some (eqA O)) {r : Nat} {o : Obj} (hr : O r ≠ none) (ho : w'.os = w.os) (ht : (w'.tape, w'.drawn) = (w.tape, w.drawn)) (hu : w'.output = w.output) (hz : w'.heap.size = w.heap.size)
    (hn : w'.heap[r]? = some o) (hk : ∀ b, b ≠ r → w'.heap[b]? = w.heap[b]?) : St w0 Z (eqA (upd O r o) :: L.eraseIdx i) w' := by
  refine h.step hi ho ht hu (by omega) fun k hk' hs => ?_
  obtain ⟨rfl⟩ := hk'
  refine ⟨_, ⟨rfl⟩, fun b ob hb => ?_, fun b hb => .inl ((upd_dom hr).1 hb), fun b _ hb => hk b ?_⟩
  · by_cases e : b = r
    · subst e; rw [upd_self] at hb; cases hb; exact hn
    · rw [upd_ne _ _ e] at hb; rw [hk b e]; exact hs b ob hb
  · rintro rfl; exact hr hb
theorem St.put_row (h : St w0 Z L w) {i : Nat} (hi : L[i]? = some (eqA O)) {r : Nat} {t : TypeId} {cs : List Value} (hr : O r = some (rowO t cs)) (cs' : List Value) :
    St w0 Z (eqA (upd O r (rowO t cs')) :: L.eraseIdx i) (w.setRow r cs'.toArray) :=
  h.put hi (by rw [hr]; simp) rfl rfl rfl (by simp) (setRow_heap w r _ _ t (0, 0) (h.at hi hr)) fun b hb => setRow_other w r b _ hb
theorem St.put_obj (h : St w0 Z L w) {i : Nat} (hi : L[i]? = some (eqA O)) {r : Nat} {o' : Obj} (hr : O r = some o') (o : Obj) :
    St w0 Z (eqA (upd O r o) :: L.eraseIdx i) { w with heap := w.heap.setIfInBounds r o } := by
  have hlt : r < w.heap.size := (Array.getElem?_eq_some_iff.1 (h.at hi hr)).1
  exact h.put hi (by rw [hr]; simp) rfl rfl rfl (by simp) (by simp [hlt]) fun b hb => by simp [Array.getElem?_setIfInBounds_ne (Ne.symm hb)]
/-- a new block joins the part -/
theorem St.join {r : Nat} {o : Obj} (h : St w0 Z (eqA (hone r o) :: L) w) {i : Nat} (hi : L[i]? = some (eqA O)) : O r = none ∧ St w0 Z (eqA (upd O r o) :: L.eraseIdx i) w := by
  obtain ⟨hp, hb, hs, hX⟩ := h.res
  obtain ⟨h1, h2, d, rfl, ⟨rfl⟩, hL⟩ := hb
  obtain ⟨h3, h4, d', rfl, ⟨rfl⟩, hL'⟩ := big_front hi hL
  have hr : h3 r = none := by
    rcases d r with e | e
    · rw [hone_self] at e; cases e
    · exact (hun_none.1 e).1
  have d2 := hdis_hun.1 d.symm
  have he : hun (hone r o) h3 = upd h3 r o := by
    funext b
    by_cases e : b = r
    · subst e; rw [upd_self]; simp [hun, hone_self]
    · rw [upd_ne _ _ e]; simp [hun, hone, e]
  refine ⟨hr, h.os, h.tape, h.output, h.size, h.keep, _, ⟨upd h3 r o, h4, ?_, rfl, ⟨rfl⟩, hL'⟩, ?_, ?_⟩
  · rw [← he]; exact hdis_hun.2 ⟨d2.2.symm, d'⟩
  · rw [← he, hun_assoc]; exact hs
  · rw [← he, hun_assoc]; exact hX
theorem cells_one {g : Nat} {t : TypeId} {cs : List Value} : cellsA g t cs = eqA (hone g (rowO t cs)) := by
  funext h; exact propext ⟨fun ⟨e⟩ => ⟨e⟩, fun ⟨e⟩ => ⟨e⟩⟩
theorem St.ones {g : Nat} {t : TypeId} {cs : List Value} (h : St w0 Z (cellsA g t cs :: L) w) : St w0 Z (eqA (hone g (rowO t cs)) :: L) w := by rw [cells_one] at h; exact h
theorem St.new (h : St w0 Z L w) (o : Obj) : St w0 Z (eqA (hone w.heap.size o) :: L) (w.alloc o) :=
  h.grow rfl rfl rfl (by simp) (fun b hb => Below.heap_alloc w _ b hb) ⟨_, ⟨rfl⟩, Sub.of_one (heap_alloc_new w _), fun b hb => by rw [hone_ne hb]; exact Nat.le_refl _⟩
theorem St.front {A : Assn} (h : St w0 Z L w) {i : Nat} (hi : L[i]? = some A) : St w0 Z (A :: L.eraseIdx i) w := by
  obtain ⟨hp, hb, hs, hX⟩ := h.res
  exact ⟨h.os, h.tape, h.output, h.size, h.keep, hp, big_front hi hb, hs, hX⟩
/-- what is not asked any more -/
theorem St.drop {A : Assn} (h : St w0 Z (A :: L) w) : St w0 Z L w := by
  obtain ⟨hp, hb, hs, hX⟩ := h.res
  obtain ⟨h1, h2, d, rfl, _, hL⟩ := hb
  exact ⟨h.os, h.tape, h.output, h.size, h.keep, h2, hL, hs.right d, fun b hb => hX b fun e => hb (hun_none.1 e).2⟩
end st

/-! maps -/
def kvs (es : List MapEntry) : List (Value × Value) := es.map fun e => (e.key, e.val)
/-- block r is a map with these entries, of keys that may be compared -/
def MapAt (P : Program) (kt : TypeId) (O : Hp) (r : Nat) (l : List (Value × Value)) : Prop := ∃ es clock, O r = some (.map es clock) ∧ kvs es.toList = l ∧ ∀ p ∈ l, ∃ q, keyOf P kt p.1 = some q
open Classical in
noncomputable def mget (l : List (Value × Value)) (k : Value) : Option Value := (l.find? fun p => decide (p.1 = k)).map (·.2)
open Classical in
noncomputable def mput (l : List (Value × Value)) (k v : Value) : List (Value × Value) := if k ∈ l.map (·.1) then l.map (fun p => if p.1 = k then (k, v) else p) else l ++ [(k, v)]
open Classical in
noncomputable def mdel (l : List (Value × Value)) (k : Value) : List (Value × Value) := l.filter fun p => decide (p.1 ≠ k)
theorem mget_some {l : List (Value × Value)} {k v : Value} (hn : (l.map (·.1)).Nodup) : mget l k = some v ↔ (k, v) ∈ l := by
  classical
  unfold mget
  induction l with
  | nil => simp
  | cons p l ih =>
    obtain ⟨a, b⟩ := p
    simp only [List.map_cons, List.nodup_cons] at hn
    rw [List.find?_cons]
    by_cases h : a = k
    · subst h
      simp only [decide_true, Option.map_some, Option.some.injEq, List.mem_cons, Prod.mk.injEq, true_and]
      constructor
      · rintro rfl; exact .inl rfl
      · rintro (h | h)
        · exact h.symm
        · exact absurd (List.mem_map.2 ⟨_, h, rfl⟩) hn.1
    · simp only [h, decide_false, List.mem_cons, Prod.mk.injEq]
      rw [ih hn.2]
      constructor
      · exact .inr
      · rintro (⟨e, _⟩ | h2)
        · exact absurd e.symm h
        · exact h2
theorem mget_none {l : List (Value × Value)} {k : Value} : mget l k = none ↔ k ∉ l.map (·.1) := by
  classical
  unfold mget
  simp only [Option.map_eq_none_iff, List.find?_eq_none, decide_eq_true_eq, List.mem_map, not_exists, not_and]
theorem mdel_len {l : List (Value × Value)} {k : Value} (hn : (l.map (·.1)).Nodup) (hk : k ∈ l.map (·.1)) : (mdel l k).length + 1 = l.length := by
  classical
  unfold mdel
  induction l with
  | nil => simp at hk
  | cons p l ih =>
    simp only [List.map_cons, List.nodup_cons] at hn
    by_cases h : p.1 = k
    · have : ∀ q ∈ l, q.1 ≠ k := fun q hq e => hn.1 (List.mem_map.2 ⟨q, hq, by rw [e, h]⟩)
      rw [List.filter_cons_of_neg (by simp [h]), List.filter_eq_self.2 (fun q hq => by simpa using this q hq)]; simp
    · rw [List.filter_cons_of_pos (by simp [h])]
      have := ih hn.2 (by
        rcases List.mem_cons.1 hk with e | e
        · exact absurd e.symm h
        · exact e)
      simp only [List.length_cons]; omega
theorem mdel_nodup {l : List (Value × Value)} {k : Value} (hn : (l.map (·.1)).Nodup) : ((mdel l k).map (·.1)).Nodup := by
  unfold mdel
  exact hn.sublist (List.filter_sublist.map _)
theorem mem_mdel {l : List (Value × Value)} {k a b : Value} : (a, b) ∈ mdel l k ↔ (a, b) ∈ l ∧ a ≠ k := by
  classical
  unfold mdel
  rw [List.mem_filter]; simp
theorem mput_new {l : List (Value × Value)} {k v : Value} (hk : k ∉ l.map (·.1)) : mput l k v = l ++ [(k, v)] := by
  unfold mput; rw [if_neg hk]
theorem kvs_keys (es : List MapEntry) : (kvs es).map (·.1) = es.map (·.key) := by simp [kvs]
/-- what findKey finds -/
theorem find_kvs {P : Program} {kt : TypeId} {k : Value} (w : World) (hf : flatB P kt = true) {q : Lit} (hk : keyOf P kt k = some q) {es : List MapEntry} (hall : ∀ p ∈ kvs es, ∃ q, keyOf P kt p.1 = some q) (hn : ((kvs es).map (·.1)).Nodup) :
    ((Instr.findKey kt k es).run P w = .ok none w ∧ mget (kvs es) k = none) ∨ ∃ j e, (Instr.findKey kt k es).run P w = .ok (some (j, e.val)) w ∧ es[j]? = some e ∧ e.key = k ∧ mget (kvs es) k = some e.val := by
  rcases (flatB_law hf).find w hk es (fun e he => hall (e.key, e.val) (List.mem_map.2 ⟨e, he, rfl⟩)) with ⟨h1, h2⟩ | ⟨j, e, h1, h2, h3⟩
  · refine .inl ⟨h1, mget_none.2 ?_⟩
    rw [kvs_keys]
    intro hm
    obtain ⟨e, he, hek⟩ := List.mem_map.1 hm
    exact h2 e he hek
  · refine .inr ⟨j, e, h1, h2, h3, (mget_some hn).2 ?_⟩
    subst h3
    exact List.mem_map.2 ⟨e, List.mem_of_getElem? h2, rfl⟩

theorem ld_row {P : Program} {n : Nat} {E : Env} {w0 w : World} {Z : Nat → Prop} {L : List Assn} {d : Nat} {ty : TypeId} {pos : String} {aft : Array Edge} {x : Operand} {t e size g o m cap i : Nat} {xs : List Value} {v : Value} (hst : St w0 Z L w) (hi : L[i]? = some (rowA e size (.slice (some ⟨g, 0, none⟩) m cap) m xs))
    (hx : eev E x = some (.pointer (some ⟨g, o, none⟩))) (ha : aggB P t = some false) (hc : xs[o]? = some v) : YldAt P n ⟨some d, .load t x, ty, pos, aft, none⟩ E w v := by
  obtain ⟨A, c, he, _, _, _, hr⟩ := hst.row hi
  cases he
  obtain ⟨b, o', e1, h1⟩ := hr (by have := (List.getElem?_eq_some_iff.1 hc).1; omega)
  cases e1
  have := h1 o v hc
  rw [Nat.zero_add] at this
  exact ld_one hx ha this
section ops
variable {P : Program} {n : Nat} {Q : Cont} {E : Env} {w0 w : World} {Z : Nat → Prop} {L : List Assn} {O : Hp} {ops : Array Oper} {rest : List Oper}
variable {d : Nat} {ty : TypeId} {pos : String} {aft : Array Edge} {v : Value}
/-! loads and stores -/
theorem ld_at {x : Operand} {t tt : TypeId} {g o i : Nat} {cs : List Value} (hst : St w0 Z L w) (hi : L[i]? = some (eqA O)) (hx : eev E x = some (.pointer (some ⟨g, o, none⟩))) (ha : aggB P t = some false) (hO : O g = some (rowO tt cs)) (hc : cs[o]? = some v) : YldAt P n ⟨some d, .load t x, ty, pos, aft, none⟩ E w v :=
  ld_one hx ha (by rw [cell_of_row w g o _ _ _ (hst.at hi hO)]; simpa using hc)
theorem ld_at_part {x : Operand} {t tt : TypeId} {g o i : Nat} {cs cs' : List Value} (hst : St w0 Z L w) (hi : L[i]? = some (eqA O)) (hx : eev E x = some (.pointer (some ⟨g, o, none⟩))) (ha : aggB P t = some true) (hO : O g = some (rowO tt cs)) (hs : szB P t = some cs'.length) (hp : (cs.drop o).take cs'.length = cs') :
    YldAt P n ⟨some d, .load t x, ty, pos, aft, none⟩ E w (.agg cs'.toArray) :=
  ld_agg hx ha hs fun j u hu => by
    rw [Addr.add_lit, cell_of_row w g _ _ _ _ (hst.at hi hO)]
    have hj : j < cs'.length := (List.getElem?_eq_some_iff.1 hu).1
    rw [← hp, List.getElem?_take_of_lt hj, List.getElem?_drop] at hu
    simpa using hu
theorem tl_store_at {x y : Operand} {t tt : TypeId} {g o i : Nat} {cs : List Value} {u : Value} (hst : St w0 Z L w) (hi : L[i]? = some (eqA O)) (hx : eev E x = some (.pointer (some ⟨g, o, none⟩))) (hy : eev E y = some u) (hO : O g = some (rowO tt cs)) (hs : szB P t = some u.cells.size) (hf : o + u.cells.size ≤ cs.length) (h1 : oneB u.cells.toList = true)
    (k : ∀ w', St w0 Z (eqA (upd O g (rowO tt (splice cs o u.cells.toList))) :: L.eraseIdx i) w' → TL P n ops rest Q E w') : TL P n ops (⟨none, .store t x y, ty, pos, aft, none⟩ :: rest) Q E w :=
  tl_skip (fun a ha => by
    simp only [execOp, ha.ev hx, ha.ev hy, Instr.storeAt, Instr.sureAddr, Sem.run_bind, Sem.run_pure, Result.andThen_ok, run_storeVar hs (hst.at hi hO) (by simpa using hf) h1]; rfl) (k _ (by simpa using hst.put_row hi hO (splice cs o u.cells.toList)))
/-! what stood at the entry, and is not turned -/
theorem ld_old {x : Operand} {t tt : TypeId} {g o : Nat} {cs : List Value} (hst : St w0 no L w) (hx : eev E x = some (.pointer (some ⟨g, o, none⟩))) (ha : aggB P t = some false) (hO : w0.heap[g]? = some (rowO tt cs)) (hc : cs[o]? = some v) : YldAt P n ⟨some d, .load t x, ty, pos, aft, none⟩ E w v :=
  ld_one hx ha (hst.cell (by rw [cell_of_row w0 g o _ _ _ hO]; simpa using hc))
theorem ld_old_part {x : Operand} {t tt : TypeId} {g o : Nat} {cs cs' : List Value} (hst : St w0 no L w) (hx : eev E x = some (.pointer (some ⟨g, o, none⟩))) (ha : aggB P t = some true) (hO : w0.heap[g]? = some (rowO tt cs)) (hs : szB P t = some cs'.length) (hp : (cs.drop o).take cs'.length = cs') :
    YldAt P n ⟨some d, .load t x, ty, pos, aft, none⟩ E w (.agg cs'.toArray) :=
  ld_agg hx ha hs fun j u hu => by
    rw [Addr.add_lit]
    refine hst.cell ?_
    rw [cell_of_row w0 g _ _ _ _ hO]
    have hj : j < cs'.length := (List.getElem?_eq_some_iff.1 hu).1
    rw [← hp, List.getElem?_take_of_lt hj, List.getElem?_drop] at hu
    simpa using hu
/-! pointers that are compared with nil -/
def ptrB (P : Program) (t : TypeId) : Bool := match P.underlying t with | some (.pointer _) => true | _ => false
theorem ptrB_eq {t : TypeId} (h : ptrB P t = true) : P.underlying t = some (.pointer (P.pointee t)) := by
  unfold ptrB at h; unfold Program.pointee
  split at h
  · rename_i e he; rw [he]
  · cases h
theorem guard_ptr (op : BinOp) (t : TypeId) (x y : Operand) (p q : Option Addr) (w : World) : (eqGuard op t x y (.pointer p) (.pointer q)).run P w = .ok () w := by
  cases op <;> rfl
theorem y_eqlP {x y : Operand} {p : Option Addr} {t yt : TypeId} (hx : eev E x = some (.pointer p)) (hy : eev E y = some (.pointer none)) (ht : ptrB P t = true) :
    Yld P n ⟨some d, .binOp .eql t x y yt, ty, pos, aft, none⟩ E (.bool p.isNone) := ⟨fun a w ha => by
  simp only [execOp, ha.ev hx, ha.ev hy, Sem.run_bind, guard_ptr, Result.andThen_ok, run_eql_pointer_nil w t p (ptrB_eq ht)]; rfl⟩
theorem y_neqP {x y : Operand} {p : Option Addr} {t yt : TypeId} (hx : eev E x = some (.pointer p)) (hy : eev E y = some (.pointer none)) (ht : ptrB P t = true) :
    Yld P n ⟨some d, .binOp .neq t x y yt, ty, pos, aft, none⟩ E (.bool (!p.isNone)) := ⟨fun a w ha => by
  simp only [execOp, ha.ev hx, ha.ev hy, Sem.run_bind, guard_ptr, Result.andThen_ok, run_neq_pointer_nil w t p (ptrB_eq ht)]; rfl⟩
theorem guard_map (op : BinOp) (t : TypeId) (x y : Operand) (p q : Option Nat) (w : World) : (eqGuard op t x y (.map p) (.map q)).run P w = .ok () w := by
  cases op <;> rfl
theorem y_eqlM {x y : Operand} {p : Option Nat} {t k e yt : TypeId} (hx : eev E x = some (.map p)) (hy : eev E y = some (.map none)) (ht : P.underlying t = some (.map k e)) :
    Yld P n ⟨some d, .binOp .eql t x y yt, ty, pos, aft, none⟩ E (.bool p.isNone) := ⟨fun a w ha => by
  simp only [execOp, ha.ev hx, ha.ev hy, Sem.run_bind, guard_map, Result.andThen_ok, binOp]
  have := run_equalIn_map_nil w 9999 t k e p ht
  simp [Op.equal, Op.maxDepth, this]⟩
/-- a call that is lent a part of the heap -/
theorem tl_callO {ρ : Type} {val : ρ → Value} {M : ρ → List Assn} {φ : ρ → World → Prop} {f : FuncId} {vs : List Value} {xs : List Operand} {ats : Array TypeId} {i : Nat} (hst : St w0 Z L w) (hi : L[i]? = some (eqA O)) (hb : callB P f = true) (hx : evs E xs = some vs)
    (hc : Sub O w → Calls P f vs.toArray w (Ret w (fun b => O b ≠ none) val M φ)) (hd : Nat.blt d n = true)
    (k : ∀ r w', St w0 Z (M r ++ L.eraseIdx i) w' → φ r w' → TL P n ops rest Q ((d, val r) :: E) w') :
    TL P n ops (⟨some d, .call { callee := .value (.func f), args := xs.toArray, argTypes := ats }, ty, pos, aft, none⟩ :: rest) Q E w := by
  obtain ⟨k0, ⟨rfl⟩, hs⟩ := hst.get hi
  exact tl_callX (first := []) (cap := []) hst rfl hb hx hi (fun k hk b hb => by obtain ⟨rfl⟩ := hk; exact hb) (by simpa using hc hs) hd k
/-! maps -/
theorem tl_makeMap {t : TypeId} (hst : St w0 Z L w) (hd : Nat.blt d n = true)
    (k : ∀ g w', St w0 Z (eqA (hone g (.map #[] 0)) :: L) w' → TL P n ops rest Q ((d, .map (some g)) :: E) w') : TL P n ops (⟨some d, .makeMap t none, ty, pos, aft, none⟩ :: rest) Q E w :=
  tl_run (fun a ha => by
    simp only [execOp, Instr.makeMap, newObj]; rfl) hd (k _ _ (hst.new (.map #[] 0)))
theorem ld_len_map {x : Operand} {t kt et : TypeId} {r i : Nat} {l : List (Value × Value)} (hst : St w0 Z L w) (hi : L[i]? = some (eqA O)) (hx : eev E x = some (.map (some r))) (ht : P.underlying t = some (.map kt et)) (hm : MapAt P kt O r l) :
    YldAt P n ⟨some d, .call { callee := .builtin .len, args := #[x], argTypes := #[t] }, ty, pos, aft, none⟩ E w (.int .i64 l.length) := ⟨fun a ha => by
  obtain ⟨es, clock, hO, rfl, _⟩ := hm
  simp only [execOp, resolve, invoke, builtin, Sem.run_bind, Sem.run_pure, Result.andThen_ok, List.map_toArray, List.map_cons, List.map_nil, ha.ev hx, Builtin.len_]
  simp [run_underlying ht, goInt, MapKept.run_getObj_map (hst.at hi hO), kvs]⟩
theorem ld_lookup {x ix : Operand} {t kt et : TypeId} {r i : Nat} {l : List (Value × Value)} {key : List Value} {z : Value} (hst : St w0 Z L w) (hi : L[i]? = some (eqA O)) (hx : eev E x = some (.map (some r))) (hix : eev E ix = some (.agg key.toArray)) (ht : P.underlying t = some (.map kt et)) (hf : flatB P kt = true) (hm : MapAt P kt O r l) (hn : (l.map (·.1)).Nodup) (hk : KV P kt key) (hz : zeroB P et = some z) :
    YldAt P n ⟨some d, .lookup t x ix true, ty, pos, aft, none⟩ E w (.tuple #[(mget l (.agg key.toArray)).getD z, .bool (mget l (.agg key.toArray)).isSome]) := ⟨fun a ha => by
  obtain ⟨es, clock, hO, rfl, hall⟩ := hm
  obtain ⟨q, hq⟩ := hk.key hf
  have hc := (flatB_law hf).check w es.isEmpty hq
  rcases find_kvs w hf hq hall hn with ⟨h1, h2⟩ | ⟨j, e, h1, h2, h3, h4⟩
  · simp only [execOp, ha.ev hx, ha.ev hix, Instr.lookup, Sem.run_bind, run_underlying ht, Result.andThen_ok, MapKept.run_getObj_map (hst.at hi hO), hc, Sem.run_pure, h1, h2, run_zeroValue hz]; rfl
  · simp only [execOp, ha.ev hx, ha.ev hix, Instr.lookup, Sem.run_bind, run_underlying ht, Result.andThen_ok, MapKept.run_getObj_map (hst.at hi hO), hc, Sem.run_pure, h1, h4]; rfl⟩
theorem ld_lookup_some {x ix : Operand} {t kt et : TypeId} {r i : Nat} {l : List (Value × Value)} {key : List Value} {u z : Value} (hst : St w0 Z L w) (hi : L[i]? = some (eqA O)) (hx : eev E x = some (.map (some r))) (hix : eev E ix = some (.agg key.toArray)) (ht : P.underlying t = some (.map kt et)) (hf : flatB P kt = true) (hm : MapAt P kt O r l) (hn : (l.map (·.1)).Nodup) (hk : KV P kt key) (hz : zeroB P et = some z) (hv : mget l (.agg key.toArray) = some u) :
    YldAt P n ⟨some d, .lookup t x ix true, ty, pos, aft, none⟩ E w (.tuple #[u, .bool true]) := by
  have := ld_lookup (n := n) (d := d) (ty := ty) (pos := pos) (aft := aft) hst hi hx hix ht hf hm hn hk hz
  rwa [hv] at this
theorem ld_lookup_none {x ix : Operand} {t kt et : TypeId} {r i : Nat} {l : List (Value × Value)} {key : List Value} {z : Value} (hst : St w0 Z L w) (hi : L[i]? = some (eqA O)) (hx : eev E x = some (.map (some r))) (hix : eev E ix = some (.agg key.toArray)) (ht : P.underlying t = some (.map kt et)) (hf : flatB P kt = true) (hm : MapAt P kt O r l) (hn : (l.map (·.1)).Nodup) (hk : KV P kt key) (hz : zeroB P et = some z) (hv : mget l (.agg key.toArray) = none) :
    YldAt P n ⟨some d, .lookup t x ix true, ty, pos, aft, none⟩ E w (.tuple #[z, .bool false]) := by
  have := ld_lookup (n := n) (d := d) (ty := ty) (pos := pos) (aft := aft) hst hi hx hix ht hf hm hn hk hz
  rwa [hv] at this
theorem modify_kvs {es : Array MapEntry} {j : Nat} {e : MapEntry} {k v : Value} (hj : es[j]? = some e) (hk : e.key = k) (hn : ((kvs es.toList).map (·.1)).Nodup) :
    kvs (es.modify j fun e => { e with key := k, val := v }).toList = mput (kvs es.toList) k v := by
  classical
  have hj' : es.toList[j]? = some e := by simpa using hj
  have hmem : k ∈ (kvs es.toList).map (·.1) := by
    rw [kvs_keys]; exact List.mem_map.2 ⟨e, List.mem_of_getElem? hj', hk⟩
  unfold mput
  rw [if_pos hmem, Array.toList_modify]
  apply List.ext_getElem?
  intro m
  simp only [kvs, List.getElem?_map, List.getElem?_modify]
  cases hm : es.toList[m]? with
  | none => simp
  | some e' =>
    by_cases hjm : j = m
    · subst hjm
      rw [hj'] at hm; cases hm
      simp [hk]
    · have hne : e'.key ≠ k := fun h => by
        rw [kvs_keys] at hn
        obtain ⟨h1, h1'⟩ := List.getElem?_eq_some_iff.1 hj'
        obtain ⟨h2, h2'⟩ := List.getElem?_eq_some_iff.1 hm
        rcases Nat.lt_or_gt_of_ne hjm with hlt | hlt
        · exact List.pairwise_iff_getElem.1 hn j m (by simpa using h1) (by simpa using h2) hlt (by simp only [List.getElem_map]; rw [h1', h2', hk, h])
        · exact List.pairwise_iff_getElem.1 hn m j (by simpa using h2) (by simpa using h1) hlt (by simp only [List.getElem_map]; rw [h1', h2', hk, h])
      simp [hjm, hne]
theorem tl_mapUpdate {x ix y : Operand} {t kt et : TypeId} {r i : Nat} {l : List (Value × Value)} {key : List Value} {u : Value} (hst : St w0 Z L w) (hi : L[i]? = some (eqA O)) (hx : eev E x = some (.map (some r))) (hix : eev E ix = some (.agg key.toArray)) (hy : eev E y = some u) (ht : P.underlying t = some (.map kt et)) (hf : flatB P kt = true) (hm : MapAt P kt O r l) (hn : (l.map (·.1)).Nodup) (hk : KV P kt key)
    (k : ∀ w' o, MapAt P kt (upd O r o) r (mput l (.agg key.toArray) u) → St w0 Z (eqA (upd O r o) :: L.eraseIdx i) w' → TL P n ops rest Q E w') : TL P n ops (⟨none, .mapUpdate t x ix y, ty, pos, aft, none⟩ :: rest) Q E w := by
  obtain ⟨es, clock, hO, rfl, hall⟩ := hm
  obtain ⟨q, hq⟩ := hk.key hf
  have hc := (flatB_law hf).check w false hq
  have hnew : ∀ p ∈ mput (kvs es.toList) (.agg key.toArray) u, ∃ q, keyOf P kt p.1 = some q := by
    classical
    intro p hp
    unfold mput at hp
    split at hp
    · obtain ⟨p', hp', rfl⟩ := List.mem_map.1 hp
      split
      · exact ⟨q, hq⟩
      · exact hall _ hp'
    · rcases List.mem_append.1 hp with hp | hp
      · exact hall _ hp
      · rw [List.mem_singleton.1 hp]; exact ⟨q, hq⟩
  rcases find_kvs w hf hq hall hn with ⟨h1, h2⟩ | ⟨j, e, h1, h2, h3, h4⟩
  · refine tl_skip (w' := { w with heap := w.heap.setIfInBounds r (.map (es.push { key := .agg key.toArray, val := u, born := clock }) (clock + 1)) }) (fun a ha => ?_) (k _ _ ⟨_, _, upd_self _ _ _, ?_, hnew⟩ (hst.put_obj hi hO _))
    · simp only [execOp, ha.ev hx, ha.ev hix, ha.ev hy, Instr.mapUpdate, Sem.run_bind, run_underlying ht, Result.andThen_ok, MapKept.run_getObj_map (hst.at hi hO), hc, h1, MapKept.run_setObj_map _ (hst.at hi hO)]; rfl
    · unfold mput
      rw [if_neg (mget_none.1 h2)]
      simp [kvs]
  · have h5 : es[j]? = some e := by simpa using h2
    have hs : (Instr.keyThatStays (((es[j]?).map (·.key)).getD (.agg key.toArray)) (.agg key.toArray)).run P w = .ok (.agg key.toArray) w := by
      rw [h5]; simp only [Option.map_some, Option.getD_some, h3]; exact (flatB_law hf).stays w hq
    refine tl_skip (w' := { w with heap := w.heap.setIfInBounds r (.map (es.modify j fun e => { e with key := .agg key.toArray, val := u }) clock) }) (fun a ha => ?_) (k _ _ ⟨_, _, upd_self _ _ _, modify_kvs h5 h3 hn, hnew⟩ (hst.put_obj hi hO _))
    simp only [execOp, ha.ev hx, ha.ev hix, ha.ev hy, Instr.mapUpdate, Sem.run_bind, run_underlying ht, Result.andThen_ok, MapKept.run_getObj_map (hst.at hi hO), hc, h1, hs, MapKept.run_setObj_map _ (hst.at hi hO)]; rfl
theorem erase_kvs {es : Array MapEntry} {j : Nat} {e : MapEntry} {k : Value} (hj : es[j]? = some e) (hk : e.key = k) (hn : ((kvs es.toList).map (·.1)).Nodup) :
    kvs (es.eraseIdxIfInBounds j).toList = mdel (kvs es.toList) k := by
  classical
  have hlt := (Array.getElem?_eq_some_iff.1 hj).1
  have h1 : (es.eraseIdxIfInBounds j).toList = es.toList.eraseIdx j := by simp [Array.eraseIdxIfInBounds, hlt]
  rw [h1]
  have hj' : es.toList[j]? = some e := by simpa using hj
  clear h1 hlt hj
  generalize es.toList = L at *
  unfold mdel
  induction L generalizing j with
  | nil => simp at hj'
  | cons a L ih =>
    simp only [kvs, List.map_cons, List.nodup_cons] at hn
    cases j with
    | zero =>
      simp at hj'; subst hj'
      have : ∀ p ∈ kvs L, p.1 ≠ k := fun p hp h => hn.1 (List.mem_map.2 ⟨p, hp, by rw [h, hk]⟩)
      simp only [List.eraseIdx_zero, List.tail_cons, kvs, List.map_cons]
      rw [List.filter_cons_of_neg (by simp [hk])]
      exact (List.filter_eq_self.2 (fun p hp => by simpa using this p hp)).symm
    | succ j =>
      simp at hj'
      have hne : a.key ≠ k := fun h => hn.1 (by
        have := List.mem_of_getElem? hj'
        rw [h, ← hk]
        exact List.mem_map.2 ⟨(e.key, e.val), List.mem_map.2 ⟨e, this, rfl⟩, rfl⟩)
      simp only [List.eraseIdx_cons_succ, kvs, List.map_cons]
      rw [List.filter_cons_of_pos (by simp [hne])]
      congr 1
      exact ih hn.2 hj'
theorem tl_delete {x ix : Operand} {t kt et xt : TypeId} {r i : Nat} {l : List (Value × Value)} {key : List Value} (hst : St w0 Z L w) (hi : L[i]? = some (eqA O)) (hx : eev E x = some (.map (some r))) (hix : eev E ix = some (.agg key.toArray)) (ht : P.underlying t = some (.map kt et)) (hf : flatB P kt = true) (hm : MapAt P kt O r l) (hn : (l.map (·.1)).Nodup) (hk : KV P kt key)
    (k : ∀ w' o, MapAt P kt (upd O r o) r (mdel l (.agg key.toArray)) → St w0 Z (eqA (upd O r o) :: L.eraseIdx i) w' → TL P n ops rest Q E w') : TL P n ops (⟨none, .call { callee := .builtin .delete, args := #[x, ix], argTypes := #[t, xt] }, ty, pos, aft, none⟩ :: rest) Q E w := by
  obtain ⟨es, clock, hO, rfl, hall⟩ := hm
  obtain ⟨q, hq⟩ := hk.key hf
  have hc := (flatB_law hf).check w es.isEmpty hq
  have hnew : ∀ p ∈ mdel (kvs es.toList) (.agg key.toArray), ∃ q, keyOf P kt p.1 = some q := fun p hp => hall p (List.mem_filter.1 hp).1
  have key : ∀ w', (Builtin.delete_ #[t, xt] ty #[.map (some r), .agg key.toArray]).run P w = .ok (.tuple #[]) w' → ∀ a, EnvOk n E a → (execOp a.eval ⟨none, .call { callee := .builtin .delete, args := #[x, ix], argTypes := #[t, xt] }, ty, pos, aft, none⟩).run P w = .ok (.value (.tuple #[])) w' := by
    intro w' hrun a ha
    simp only [execOp, resolve, invoke, builtin, Sem.run_bind, Sem.run_pure, Result.andThen_ok, List.map_toArray, List.map_cons, List.map_nil, ha.ev hx, ha.ev hix]
    simp [hrun]
  have fin : ∀ w', (∀ a, EnvOk n E a → (execOp a.eval ⟨none, .call { callee := .builtin .delete, args := #[x, ix], argTypes := #[t, xt] }, ty, pos, aft, none⟩).run P w = .ok (.value (.tuple #[])) w') → TL P n ops rest Q E w' → TL P n ops (⟨none, .call { callee := .builtin .delete, args := #[x, ix], argTypes := #[t, xt] }, ty, pos, aft, none⟩ :: rest) Q E w := fun w' h k =>
    tl_eff rfl fun K hK a ha => by
      unfold Oper.wp
      rw [h a ha]
      exact hK _ _ (k.go _ ha)
  rcases find_kvs w hf hq hall hn with ⟨h1, h2⟩ | ⟨j, e, h1, h2, h3, h4⟩
  · refine fin { w with heap := w.heap.setIfInBounds r (.map es clock) } (key _ ?_) (k _ _ ⟨_, _, upd_self _ _ _, ?_, hnew⟩ (hst.put_obj hi hO _))
    · simp [Builtin.delete_, run_underlying ht, MapKept.run_getObj_map (hst.at hi hO), hc, h1, MapKept.run_setObj_map _ (hst.at hi hO), Result.andThen]
    · classical
      have := mget_none.1 h2
      refine (List.filter_eq_self.2 fun p hp => ?_).symm
      simp only [ne_eq, decide_eq_true_eq]
      rintro h
      exact this (List.mem_map.2 ⟨p, hp, h⟩)
  · have h5 : es[j]? = some e := by simpa using h2
    refine fin { w with heap := w.heap.setIfInBounds r (.map (es.eraseIdxIfInBounds j) clock) } (key _ ?_) (k _ _ ⟨_, _, upd_self _ _ _, erase_kvs h5 h3 hn, hnew⟩ (hst.put_obj hi hO _))
    simp [Builtin.delete_, run_underlying ht, MapKept.run_getObj_map (hst.at hi hO), hc, h1, MapKept.run_setObj_map _ (hst.at hi hO), Result.andThen]
theorem tl_clear_map {x : Operand} {t kt et : TypeId} {r i : Nat} {l : List (Value × Value)} (hst : St w0 Z L w) (hi : L[i]? = some (eqA O)) (hx : eev E x = some (.map (some r))) (ht : P.underlying t = some (.map kt et)) (hm : MapAt P kt O r l)
    (k : ∀ w' o, MapAt P kt (upd O r o) r [] → St w0 Z (eqA (upd O r o) :: L.eraseIdx i) w' → TL P n ops rest Q E w') : TL P n ops (⟨none, .call { callee := .builtin .clear, args := #[x], argTypes := #[t] }, ty, pos, aft, none⟩ :: rest) Q E w := by
  obtain ⟨es, clock, hO, rfl, hall⟩ := hm
  have hrun : (Builtin.clear_ #[t] ty #[.map (some r)]).run P w = .ok (.tuple #[]) { w with heap := w.heap.setIfInBounds r (.map #[] clock) } := by
    simp [Builtin.clear_, run_underlying ht, MapKept.run_getObj_map (hst.at hi hO), MapKept.run_setObj_map _ (hst.at hi hO), Result.andThen]
  refine tl_eff rfl fun K hK a ha => ?_
  unfold Oper.wp
  have : (execOp a.eval ⟨none, .call { callee := .builtin .clear, args := #[x], argTypes := #[t] }, ty, pos, aft, none⟩).run P w = .ok (.value (.tuple #[])) { w with heap := w.heap.setIfInBounds r (.map #[] clock) } := by
    simp only [execOp, resolve, invoke, builtin, Sem.run_bind, Sem.run_pure, Result.andThen_ok, List.map_toArray, List.map_cons, List.map_nil, ha.ev hx]
    simp [hrun]
  rw [this]
  exact hK _ _ ((k _ _ ⟨_, _, upd_self _ _ _, rfl, by simp⟩ (hst.put_obj hi hO _)).go _ ha)
end ops
end Go.Proofs.YtalainpmlonahaaDoor
end
