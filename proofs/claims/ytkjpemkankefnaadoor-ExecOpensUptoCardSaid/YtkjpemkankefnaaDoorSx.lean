/-
  STEPS OVER AN ENVIRONMENT: what is known of the slots is a list of pairs; each operation is one lemma. No program in sight.
-/
import Derived.WalkKit
import Derived.OrdersHeld
import Derived.Below
import Derived.Scope
namespace Go.Proofs.YtkjpemkankefnaaDoor
open Go.RowKit

abbrev Env := List (Nat × Value)
def eget : Env → Nat → Option Value
  | [], _ => none
  | (k, v) :: r, d => bif Nat.beq k d then some v else eget r d
def eev (E : Env) : Operand → Option Value
  | .tmp t => eget E t
  | .const v => some v
  | .global g => some (.pointer (some ⟨g, 0, none⟩))
  | .func f => some (.func (.func f) #[] #[])
structure EnvOk (n : Nat) (E : Env) (a : Act) : Prop where
  defers : a.defers = []
  size : a.tmps.size = n
  get : ∀ d v, eget E d = some v → a.tmps[d]? = some v

section
variable {n : Nat} {E : Env} {a : Act}
theorem eget_cons (k : Nat) (v : Value) (r : Env) (d : Nat) : eget ((k, v) :: r) d = if k = d then some v else eget r d := by
  simp only [eget]
  by_cases h : k = d
  · subst h; simp [Nat.beq_refl]
  · have : Nat.beq k d = false := by
      cases hb : Nat.beq k d
      · rfl
      · exact absurd (Nat.eq_of_beq_eq_true hb) h
    rw [this, if_neg h]; rfl
theorem EnvOk.ev (h : EnvOk n E a) {x : Operand} {v : Value} (hx : eev E x = some v) : a.eval x = v := by
  cases x with
  | tmp t => simp only [eev] at hx; have := h.get t v hx; simp [Act.eval, this]
  | const u => simp only [eev, Option.some.injEq] at hx; simp [Act.eval, hx]
  | global g => simp only [eev, Option.some.injEq] at hx; simp [Act.eval, hx]
  | func f => simp only [eev, Option.some.injEq] at hx; simp [Act.eval, hx]
theorem EnvOk.put (h : EnvOk n E a) {d : Nat} (hd : Nat.blt d n = true) (v : Value) : EnvOk n ((d, v) :: E) (a.put (some d) v) := by
  have hd' : d < n := by simpa [Nat.blt_eq] using hd
  refine ⟨h.defers, by simp [Act.put, h.size], fun k u hk => ?_⟩
  rw [eget_cons] at hk
  simp only [Act.put]
  by_cases e : d = k
  · subst e
    rw [if_pos rfl] at hk
    rw [Array.getElem?_setIfInBounds_self_of_lt (by rw [h.size]; exact hd')]; exact hk
  · rw [if_neg e] at hk
    rw [Array.getElem?_setIfInBounds_ne e]; exact h.get k u hk
theorem EnvOk.sub (h : EnvOk n E a) {E' : Env} (hs : ∀ d v, eget E' d = some v → eget E d = some v) : EnvOk n E' a := ⟨h.defers, h.size, fun d v hv => h.get d v (hs d v hv)⟩
end

/-- E' says no more than E -/
def ESub (E : Env) : Env → Prop
  | [] => True
  | (d, v) :: r => eget E d = some v ∧ ESub E r
theorem ESub.get {E : Env} : ∀ {E' : Env}, ESub E E' → ∀ d v, eget E' d = some v → eget E d = some v
  | [], _, d, v, h => by cases h
  | (k, u) :: r, h, d, v, hv => by
    rw [eget_cons] at hv
    by_cases e : k = d
    · subst e; rw [if_pos rfl] at hv; cases hv; exact h.1
    · rw [if_neg e] at hv; exact ESub.get h.2 d v hv

abbrev Post := Exit → Act → World → Prop
/-- what stands behind a piece of code -/
inductive Cont : Type 1 where
  | body (fn : Func) (R : Ending → World → Prop)
  | seq (y : Code) (k : Cont)
  | blk (id : Nat) (k : Cont)
  | loop (σ : Type) (E' : σ → Env) (J : σ → World → Prop) (m : σ → Nat) (s : Nat) (k : Cont)
  | cut (σ : Type) (E' : σ → Env) (J : σ → World → Prop) (k : Cont)
  | step (R : Act → World → Prop) (k : Cont)
  | scope (σ : Type) (E' : Nat → σ → Env) (J : Nat → σ → World → Prop) (m : Nat → σ → Nat) (s : Nat) (k : Cont)
/-- at a goto: J -/
def atGoto (J : Nat → Act → World → Prop) (Q : Post) : Post
  | .goto l, a, w => J l a w
  | e, a, w => Q e a w
def Cont.post (P : Program) (n : Nat) : Cont → Post
  | .body fn R => bodyPost P fn R
  | .seq y k => Exit.then (fun a w => y.wp P (k.post P n) a w) (k.post P n)
  | .blk id k => Exit.inBlock id (k.post P n)
  | .loop _ E' J m s k => Exit.then (fun a w => ∃ x, J x w ∧ EnvOk n (E' x) a ∧ m x < s) (k.post P n)
  | .cut _ E' J k => Exit.then (fun a w => ∃ x, J x w ∧ EnvOk n (E' x) a) (k.post P n)
  | .step R k => Exit.then R (k.post P n)
  | .scope _ E' J m s k => atGoto (fun l a w => ∃ x, J l x w ∧ EnvOk n (E' l x) a ∧ m l x < s) (k.post P n)
/-- the code goes well from every frame of which E is true -/
structure T (P : Program) (n : Nat) (c : Code) (Q : Cont) (E : Env) (w : World) : Prop where
  go : ∀ a, EnvOk n E a → c.wp P (Q.post P n) a w
structure TL (P : Program) (n : Nat) (ops : Array Oper) (l : List Oper) (Q : Cont) (E : Env) (w : World) : Prop where
  go : ∀ a, EnvOk n E a → wpList P ops (Q.post P n) l a w

section control
variable {P : Program} {n : Nat} {Q : Cont} {E : Env} {w : World}
/-- what stands at a normal end, at an exit, at a return -/
structure N (P : Program) (n : Nat) (Q : Cont) (E : Env) (w : World) : Prop where
  go : ∀ a, EnvOk n E a → Q.post P n .normal a w
structure X (P : Program) (n : Nat) (id : Nat) (Q : Cont) (E : Env) (w : World) : Prop where
  go : ∀ a, EnvOk n E a → Q.post P n (.exit id) a w
structure RT (P : Program) (n : Nat) (Q : Cont) (E : Env) (w : World) : Prop where
  go : ∀ a, EnvOk n E a → Q.post P n .ret a w
theorem t_seq {x y : Code} (h : T P n x (.seq y Q) E w) : T P n (.seq x y) Q E w := ⟨fun a ha => wp_seq (h.go a ha)⟩
theorem t_block {id : Nat} {c : Code} (h : T P n c (.blk id Q) E w) : T P n (.block id c) Q E w := ⟨fun a ha => wp_block (h.go a ha)⟩
theorem t_region {id : Nat} {l : List Oper} (h : TL P n l.toArray l Q E w) : T P n (.region id l.toArray false) Q E w := ⟨fun a ha => wp_region_lit (h.go a ha)⟩
theorem t_skip (h : N P n Q E w) : T P n .skip Q E w := ⟨fun a ha => wp_skip (h.go a ha)⟩
theorem t_label {l : Nat} (h : N P n Q E w) : T P n (.label l) Q E w := ⟨fun a ha => wp_label (h.go a ha)⟩
theorem tl_nil {ops : Array Oper} (h : N P n Q E w) : TL P n ops [] Q E w := ⟨fun a ha => wpList_nil (h.go a ha)⟩
theorem n_then {y : Code} (h : T P n y Q E w) : N P n (.seq y Q) E w := ⟨fun a ha => h.go a ha⟩
theorem n_block {id : Nat} (h : N P n Q E w) : N P n (.blk id Q) E w := ⟨fun a ha => h.go a ha⟩
theorem t_exit {id : Nat} (h : X P n id Q E w) : T P n (.exit id) Q E w := ⟨fun a ha => wp_exit (h.go a ha)⟩
theorem x_then {id : Nat} {y : Code} (h : X P n id Q E w) : X P n id (.seq y Q) E w := ⟨fun a ha => h.go a ha⟩
theorem x_block {id : Nat} (h : N P n Q E w) : X P n id (.blk id Q) E w := ⟨fun a ha => by
  show Exit.inBlock id (Q.post P n) (.exit id) a w
  simp only [Exit.inBlock, if_true]; exact h.go a ha⟩
theorem x_block_ne {id id' : Nat} (hne : Nat.beq id' id = false) (h : X P n id' Q E w) : X P n id' (.blk id Q) E w := ⟨fun a ha => by
  show Exit.inBlock id (Q.post P n) (.exit id') a w
  simp only [Exit.inBlock]
  rw [if_neg (fun e => by subst e; simp [Nat.beq_refl] at hne)]; exact h.go a ha⟩
theorem t_ret (h : RT P n Q E w) : T P n .ret Q E w := ⟨fun a ha => wp_ret (h.go a ha)⟩
theorem r_then {y : Code} (h : RT P n Q E w) : RT P n (.seq y Q) E w := ⟨fun a ha => h.go a ha⟩
theorem r_block {id : Nat} (h : RT P n Q E w) : RT P n (.blk id Q) E w := ⟨fun a ha => h.go a ha⟩
theorem t_cond {c : Operand} {x y : Code} {b : Bool} (hc : eev E c = some (.bool b)) (ht : b = true → T P n x Q E w) (hf : b = false → T P n y Q E w) : T P n (.cond c x y) Q E w :=
  ⟨fun a ha => wp_cond_split (ha.ev hc) (fun h => (ht h).go a ha) (fun h => (hf h).go a ha)⟩
theorem t_cond_true {c : Operand} {x y : Code} (hc : eev E c = some (.bool true)) (ht : T P n x Q E w) : T P n (.cond c x y) Q E w := t_cond hc (fun _ => ht) (fun h => by cases h)
theorem t_cond_false {c : Operand} {x y : Code} (hc : eev E c = some (.bool false)) (ht : T P n y Q E w) : T P n (.cond c x y) Q E w := t_cond hc (fun h => by cases h) (fun _ => ht)
theorem t_cond_dec {c : Operand} {x y : Code} {p : Prop} [hp : Decidable p] (hc : eev E c = some (.bool (decide p))) (ht : p → T P n x Q E w) (hf : ¬ p → T P n y Q E w) : T P n (.cond c x y) Q E w :=
  t_cond hc (fun h => ht (of_decide_eq_true h)) (fun h => hf (of_decide_eq_false h))
theorem t_cond_ndec {c : Operand} {x y : Code} {p : Prop} [hp : Decidable p] (hc : eev E c = some (.bool (!decide p))) (ht : ¬ p → T P n x Q E w) (hf : p → T P n y Q E w) : T P n (.cond c x y) Q E w :=
  t_cond hc (fun h => ht (by simpa using h)) (fun h => hf (by simpa using h))
theorem t_cond_not {c : Operand} {x y : Code} {b : Bool} (hc : eev E c = some (.bool (!b))) (ht : b = false → T P n x Q E w) (hf : b = true → T P n y Q E w) : T P n (.cond c x y) Q E w :=
  t_cond hc (fun h => ht (by simpa using h)) (fun h => hf (by simpa using h))
/-- less is known -/
theorem t_sub {c : Code} {E' : Env} (hs : ESub E E') (h : T P n c Q E' w) : T P n c Q E w := ⟨fun a ha => h.go a (ha.sub hs.get)⟩
/-- the ways meet again: J says what is known there -/
theorem t_seq_cut {σ : Type} (E' : σ → Env) (J : σ → World → Prop) {x y : Code} (h : T P n x (.cut σ E' J Q) E w) (k : ∀ s w, J s w → T P n y Q (E' s) w) : T P n (.seq x y) Q E w :=
  ⟨fun a ha => wp_seq (wp_mono (h.go a ha) (fun e a w he => by
    cases e <;> first | exact he | skip
    obtain ⟨s, hj, hs⟩ := he
    exact (k s w hj).go a hs))⟩
theorem n_cut {σ : Type} {E' : σ → Env} {J : σ → World → Prop} (s : σ) (hs : ESub E (E' s)) (hj : J s w) : N P n (.cut σ E' J Q) E w := ⟨fun _ ha => ⟨s, hj, ha.sub hs.get⟩⟩
theorem r_cut {σ : Type} {E' : σ → Env} {J : σ → World → Prop} (h : RT P n Q E w) : RT P n (.cut σ E' J Q) E w := ⟨fun a ha => h.go a ha⟩
theorem x_cut {σ : Type} {E' : σ → Env} {J : σ → World → Prop} {id : Nat} (h : X P n id Q E w) : X P n id (.cut σ E' J Q) E w := ⟨fun a ha => h.go a ha⟩
/-- a loop: at each head the environment is 'E' s', and J says what else is known -/
theorem t_loop {σ : Type} (E' : σ → Env) (J : σ → World → Prop) (m : σ → Nat) {c : Code} (s : σ) (hs : ESub E (E' s)) (hj : J s w)
    (round : ∀ s w, J s w → T P n c (.loop σ E' J m (m s) Q) (E' s) w) : T P n (.loop c) Q E w := by
  refine ⟨fun a ha b kk cs => ?_⟩
  have key : ∀ k s a w, m s = k → J s w → EnvOk n (E' s) a →
      ∃ e a' w', Q.post P n e a' w' ∧ Arrives P (lone (b.at a (.code c :: .inLoop c :: kk)) cs w) b kk cs e a' w' := by
    intro k
    induction k using Nat.strongRecOn with
    | _ k ih =>
      intro s a w hm hj ha
      obtain ⟨e, a₁, w₁, hq, harr⟩ := (round s w hj).go a ha b (.inLoop c :: kk) cs
      cases e with
      | normal =>
        obtain ⟨s', hj', ha', hlt⟩ := hq
        obtain ⟨e₂, a₂, w₂, hq₂, harr₂⟩ := ih (m s') (hm ▸ hlt) s' a₁ w₁ rfl hj' ha'
        exact ⟨e₂, a₂, w₂, hq₂, .of_steps (Steps.trans harr (.one step_inLoop)) harr₂⟩
      | exit id => exact ⟨_, a₁, w₁, hq, .pass (x := .inLoop c) rfl (fun _ _ => .inl (by simp)) harr⟩
      | goto l => exact ⟨_, a₁, w₁, hq, .pass (x := .inLoop c) rfl (fun _ _ => .inl (by simp)) harr⟩
      | ret => exact ⟨_, a₁, w₁, hq, .pass (x := .inLoop c) rfl (fun _ _ => .inl (by simp)) harr⟩
      | panic ch => exact ⟨_, a₁, w₁, hq, .pass (x := .inLoop c) rfl (fun _ _ => .inl (by simp)) harr⟩
      | outgrown => exact ⟨_, a₁, w₁, hq, .pass (x := .inLoop c) rfl (fun _ _ => .inl (by simp)) harr⟩
  obtain ⟨e, a', w', hq, harr⟩ := key _ s a w rfl hj (ha.sub hs.get)
  exact ⟨e, a', w', hq, .of_steps (.one step_loop) harr⟩
theorem n_loop {σ : Type} {E' : σ → Env} {J : σ → World → Prop} {m : σ → Nat} {k : Nat} (s : σ) (hs : ESub E (E' s)) (hj : J s w) (hm : m s < k) : N P n (.loop σ E' J m k Q) E w := ⟨fun _ ha => ⟨s, hj, ha.sub hs.get, hm⟩⟩
theorem r_loop {σ : Type} {E' : σ → Env} {J : σ → World → Prop} {m : σ → Nat} {k : Nat} (h : RT P n Q E w) : RT P n (.loop σ E' J m k Q) E w := ⟨fun a ha => h.go a ha⟩
theorem x_loop {σ : Type} {E' : σ → Env} {J : σ → World → Prop} {m : σ → Nat} {k : Nat} {id : Nat} (h : X P n id Q E w) : X P n id (.loop σ E' J m k Q) E w := ⟨fun a ha => h.go a ha⟩
/-! scopes: jumps -/
structure GT (P : Program) (n : Nat) (l : Nat) (Q : Cont) (E : Env) (w : World) : Prop where
  go : ∀ a, EnvOk n E a → Q.post P n (.goto l) a w
theorem t_goto {l : Nat} (h : GT P n l Q E w) : T P n (.goto l) Q E w := ⟨fun a ha => wp_goto (h.go a ha)⟩
theorem j_then {l : Nat} {y : Code} (h : GT P n l Q E w) : GT P n l (.seq y Q) E w := ⟨fun a ha => h.go a ha⟩
theorem j_block {l id : Nat} (h : GT P n l Q E w) : GT P n l (.blk id Q) E w := ⟨fun a ha => h.go a ha⟩
theorem j_loop {l : Nat} {σ : Type} {E' : σ → Env} {J : σ → World → Prop} {m : σ → Nat} {k : Nat} (h : GT P n l Q E w) : GT P n l (.loop σ E' J m k Q) E w := ⟨fun a ha => h.go a ha⟩
theorem j_cut {l : Nat} {σ : Type} {E' : σ → Env} {J : σ → World → Prop} (h : GT P n l Q E w) : GT P n l (.cut σ E' J Q) E w := ⟨fun a ha => h.go a ha⟩
theorem j_scope {l : Nat} {σ : Type} {E' : Nat → σ → Env} {J : Nat → σ → World → Prop} {m : Nat → σ → Nat} {k : Nat} (x : σ) (hs : ESub E (E' l x)) (hj : J l x w) (hm : m l x < k) : GT P n l (.scope σ E' J m k Q) E w := ⟨fun _ ha => ⟨x, hj, ha.sub hs.get, hm⟩⟩
theorem n_scope {σ : Type} {E' : Nat → σ → Env} {J : Nat → σ → World → Prop} {m : Nat → σ → Nat} {k : Nat} (h : N P n Q E w) : N P n (.scope σ E' J m k Q) E w := ⟨fun a ha => h.go a ha⟩
theorem r_scope {σ : Type} {E' : Nat → σ → Env} {J : Nat → σ → World → Prop} {m : Nat → σ → Nat} {k : Nat} (h : RT P n Q E w) : RT P n (.scope σ E' J m k Q) E w := ⟨fun a ha => h.go a ha⟩
theorem x_scope {σ : Type} {E' : Nat → σ → Env} {J : Nat → σ → World → Prop} {m : Nat → σ → Nat} {k id : Nat} (h : X P n id Q E w) : X P n id (.scope σ E' J m k Q) E w := ⟨fun a ha => h.go a ha⟩
theorem t_scope {σ : Type} (E' : Nat → σ → Env) (J : Nat → σ → World → Prop) (m : Nat → σ → Nat) (s : Nat) {c : Code} (first : T P n c (.scope σ E' J m s Q) E w)
    (pass : ∀ l x w, J l x w → ∃ rest, findLabel c l = some rest ∧ T P n rest (.scope σ E' J m (m l x) Q) (E' l x) w) : T P n (.scope c) Q E w := by
  refine ⟨fun a ha b k cs => ?_⟩
  have key : ∀ k0 l x a w rest, m l x = k0 → findLabel c l = some rest → J l x w → EnvOk n (E' l x) a →
      ∃ e a' w', Q.post P n e a' w' ∧ Arrives P (lone (b.at a (.code rest :: .inScope c :: k)) cs w) b k cs e a' w' := by
    intro k0
    induction k0 using Nat.strongRecOn with
    | _ k0 ih =>
      intro l x a w rest hm hf hj ha
      obtain ⟨rest', hf', hT⟩ := pass l x w hj
      obtain rfl : rest' = rest := Option.some.inj (hf'.symm.trans hf)
      obtain ⟨e, a₁, w₁, hq, harr⟩ := hT.go a ha b (.inScope c :: k) cs
      cases e with
      | normal => exact ⟨.normal, a₁, w₁, hq, Steps.trans harr (.one step_inScope)⟩
      | exit id => exact ⟨.exit id, a₁, w₁, hq, fun k' hk => harr k' (by simp [exitTo, hk])⟩
      | goto l' =>
        obtain ⟨x', hj', ha', hlt⟩ := hq
        obtain ⟨rest₂, hf₂, _⟩ := pass l' x' w₁ hj'
        obtain ⟨e₂, a₂, w₂, hq₂, harr₂⟩ := ih (m l' x') (hm ▸ hlt) l' x' a₁ w₁ rest₂ rfl hf₂ hj' ha'
        exact ⟨e₂, a₂, w₂, hq₂, .of_steps (harr _ (by simp [gotoIn, hf₂])) harr₂⟩
      | ret => exact ⟨_, a₁, w₁, hq, harr⟩
      | panic ch => exact ⟨_, a₁, w₁, hq, harr⟩
      | outgrown => exact ⟨_, a₁, w₁, hq, harr⟩
  obtain ⟨e, a₁, w₁, hq, harr⟩ := first.go a ha b (.inScope c :: k) cs
  cases e with
  | normal => exact ⟨.normal, a₁, w₁, hq, .head step_scope (Steps.trans harr (.one step_inScope))⟩
  | exit id => exact ⟨.exit id, a₁, w₁, hq, fun k' hk => .head step_scope (harr k' (by simp [exitTo, hk]))⟩
  | goto l' =>
    obtain ⟨x', hj', ha', hlt⟩ := hq
    obtain ⟨rest₂, hf₂, _⟩ := pass l' x' w₁ hj'
    obtain ⟨e₂, a₂, w₂, hq₂, harr₂⟩ := key _ l' x' a₁ w₁ rest₂ rfl hf₂ hj' ha'
    exact ⟨e₂, a₂, w₂, hq₂, .of_steps (.head step_scope (harr _ (by simp [gotoIn, hf₂]))) harr₂⟩
  | ret => exact ⟨_, a₁, w₁, hq, .of_steps (.one step_scope) harr⟩
  | panic ch => exact ⟨_, a₁, w₁, hq, .of_steps (.one step_scope) harr⟩
  | outgrown => exact ⟨_, a₁, w₁, hq, .of_steps (.one step_scope) harr⟩
end control

/-! ### operations: what they yield, whatever the world -/
structure Yld (P : Program) (n : Nat) (o : Oper) (E : Env) (v : Value) : Prop where
  go : ∀ a w, EnvOk n E a → (execOp a.eval o).run P w = .ok (.value v) w
/-- in this world -/
structure YldAt (P : Program) (n : Nat) (o : Oper) (E : Env) (w : World) (v : Value) : Prop where
  go : ∀ a, EnvOk n E a → (execOp a.eval o).run P w = .ok (.value v) w

section ops
variable {P : Program} {n : Nat} {Q : Cont} {E : Env} {w : World} {ops : Array Oper} {rest : List Oper}
variable {d : Nat} {ty : TypeId} {pos : String} {aft : Array Edge} {v : Value}

theorem tl_yld {op : Op} (h : Yld P n ⟨some d, op, ty, pos, aft, none⟩ E v) (hd : Nat.blt d n = true) (k : TL P n ops rest Q ((d, v) :: E) w) : TL P n ops (⟨some d, op, ty, pos, aft, none⟩ :: rest) Q E w :=
  ⟨fun a ha => wpList_plain rfl fun K hK => by
    unfold Oper.wp
    rw [h.go a w ha]
    exact hK _ _ (k.go _ (ha.put hd v))⟩
theorem tl_yldAt {op : Op} (h : YldAt P n ⟨some d, op, ty, pos, aft, none⟩ E w v) (hd : Nat.blt d n = true) (k : TL P n ops rest Q ((d, v) :: E) w) : TL P n ops (⟨some d, op, ty, pos, aft, none⟩ :: rest) Q E w :=
  ⟨fun a ha => wpList_plain rfl fun K hK => by
    unfold Oper.wp
    rw [h.go a ha]
    exact hK _ _ (k.go _ (ha.put hd v))⟩
/-- what an operation does to the world: K is reached -/
def Eff (P : Program) (n : Nat) (o : Oper) (E : Env) (w : World) (Q : Cont) (K : Act → World → Prop) : Prop := ∀ a, EnvOk n E a → o.wp P a w K (Q.post P n)
theorem tl_eff {o : Oper} (hg : o.guard = none) (h : ∀ K : Act → World → Prop, (∀ a w, wpList P ops (Q.post P n) rest a w → K a w) → Eff P n o E w Q K) : TL P n ops (o :: rest) Q E w :=
  ⟨fun a ha => wpList_plain hg fun K hK => h K hK a ha⟩

/-! guards -/
theorem tl_guard_on {op : Op} {dst : Option Tmp} {j dj : Nat} {b : Bool} (hj : (ops[j]?).bind (·.dst) = some dj) (hv : eget E dj = some (.bool b))
    (k : TL P n ops (⟨dst, op, ty, pos, aft, none⟩ :: rest) Q E w) : TL P n ops (⟨dst, op, ty, pos, aft, some (j, b)⟩ :: rest) Q E w := ⟨fun a ha => by
  have h := k.go a ha
  have hy : yielded ops a.tmps j = some b := by
    unfold yielded
    rw [hj]
    simp [ha.get _ _ hv]
  unfold wpList at h ⊢
  simp only [Region.wanted, hy, beq_self_eq_true, if_true] at h ⊢
  exact h⟩
theorem tl_guard_off {op : Op} {j dj : Nat} {b b' : Bool} (hj : (ops[j]?).bind (·.dst) = some dj) (hv : eget E dj = some (.bool b)) (hb : (b == b') = false) (hd : Nat.blt d n = true)
    (k : TL P n ops rest Q ((d, undef) :: E) w) : TL P n ops (⟨some d, op, ty, pos, aft, some (j, b')⟩ :: rest) Q E w := ⟨fun a ha => by
  have hy : yielded ops a.tmps j = some b := by
    unfold yielded
    rw [hj]
    simp [ha.get _ _ hv]
  unfold wpList
  have : Region.wanted ⟨some d, op, ty, pos, aft, some (j, b')⟩ (yielded ops a.tmps) = false := by
    simp only [Region.wanted, hy]
    cases b <;> cases b' <;> simp_all
  rw [this]
  exact k.go _ (ha.put hd undef)⟩
theorem tl_guard_off0 {op : Op} {j dj : Nat} {b b' : Bool} (hj : (ops[j]?).bind (·.dst) = some dj) (hv : eget E dj = some (.bool b)) (hb : (b == b') = false)
    (k : TL P n ops rest Q E w) : TL P n ops (⟨none, op, ty, pos, aft, some (j, b')⟩ :: rest) Q E w := ⟨fun a ha => by
  have hy : yielded ops a.tmps j = some b := by
    unfold yielded
    rw [hj]
    simp [ha.get _ _ hv]
  unfold wpList
  have : Region.wanted ⟨none, op, ty, pos, aft, some (j, b')⟩ (yielded ops a.tmps) = false := by
    simp only [Region.wanted, hy]
    cases b <;> cases b' <;> simp_all
  rw [this]
  exact k.go a ha⟩
/-- the guard itself was passed over -/
theorem tl_guard_undef {op : Op} {j dj : Nat} {b' : Bool} (hj : (ops[j]?).bind (·.dst) = some dj) (hv : eget E dj = some undef) (hd : Nat.blt d n = true)
    (k : TL P n ops rest Q ((d, undef) :: E) w) : TL P n ops (⟨some d, op, ty, pos, aft, some (j, b')⟩ :: rest) Q E w := ⟨fun a ha => by
  have hy : yielded ops a.tmps j = none := by
    unfold yielded
    rw [hj]
    simp [ha.get _ _ hv, undef]
  unfold wpList
  have : Region.wanted ⟨some d, op, ty, pos, aft, some (j, b')⟩ (yielded ops a.tmps) = false := by
    simp [Region.wanted, hy]
  rw [this]
  exact k.go _ (ha.put hd undef)⟩
/-- both ways of a slot that holds a truth value -/
theorem tl_split {l : List Oper} {b : Bool} (ht : b = true → TL P n ops l Q E w) (hf : b = false → TL P n ops l Q E w) : TL P n ops l Q E w := by
  cases b
  · exact hf rfl
  · exact ht rfl

/-! ### single operations -/
theorem y_move {x : Operand} (hx : eev E x = some v) : Yld P n ⟨some d, .move x, ty, pos, aft, none⟩ E v := ⟨fun a w ha => by
  simp only [execOp, ha.ev hx]; rfl⟩
theorem y_assign {x : Operand} (hx : eev E x = some v) : Yld P n ⟨some d, .assign x, ty, pos, aft, none⟩ E v := ⟨fun a w ha => by
  simp only [execOp, ha.ev hx]; rfl⟩
theorem y_pick_t {c x y : Operand} (hc : eev E c = some (.bool true)) (hx : eev E x = some v) : Yld P n ⟨some d, .pick c x y, ty, pos, aft, none⟩ E v := ⟨fun a w ha => by
  simp only [execOp, ha.ev hc, ha.ev hx, asBool]; rfl⟩
theorem y_pick_f {c x y : Operand} (hc : eev E c = some (.bool false)) (hy : eev E y = some v) : Yld P n ⟨some d, .pick c x y, ty, pos, aft, none⟩ E v := ⟨fun a w ha => by
  simp only [execOp, ha.ev hc, ha.ev hy, asBool]; rfl⟩
theorem y_extract {x : Operand} {vs : Array Value} {i : Nat} (hx : eev E x = some (.tuple vs)) (hi : vs[i]? = some v) : Yld P n ⟨some d, .extract x i, ty, pos, aft, none⟩ E v := ⟨fun a w ha => by
  simp only [execOp, ha.ev hx, Instr.extract, hi]; rfl⟩
theorem y_bin {op : BinOp} {x y : Operand} {k : IntKind} {i j : Int} {t yt : TypeId} (hx : eev E x = some (.int k i)) (hy : eev E y = some (.int k j)) (hr : binOp op t (.int k i) (.int k j) = pure v) :
    Yld P n ⟨some d, .binOp op t x y yt, ty, pos, aft, none⟩ E v := ⟨fun a w ha => by
  simp only [execOp, ha.ev hx, ha.ev hy, eqGuard_at_int, hr]; rfl⟩
section bin
variable {x y : Operand} {k : IntKind} {i j r : Int} {t yt : TypeId}
theorem y_add (hx : eev E x = some (.int k i)) (hy : eev E y = some (.int k j)) (hr : k.wrap (i + j) = r) : Yld P n ⟨some d, .binOp .add t x y yt, ty, pos, aft, none⟩ E (.int k r) :=
  y_bin hx hy (by rw [binOp_add]; simp only [Op.intArith, hr])
theorem y_sub (hx : eev E x = some (.int k i)) (hy : eev E y = some (.int k j)) (hr : k.wrap (i - j) = r) : Yld P n ⟨some d, .binOp .sub t x y yt, ty, pos, aft, none⟩ E (.int k r) :=
  y_bin hx hy (by rw [binOp_sub]; simp only [Op.intArith, hr])
theorem y_mul (hx : eev E x = some (.int k i)) (hy : eev E y = some (.int k j)) (hr : k.wrap (i * j) = r) : Yld P n ⟨some d, .binOp .mul t x y yt, ty, pos, aft, none⟩ E (.int k r) :=
  y_bin hx hy (by rw [binOp_mul]; simp only [Op.intArith, hr])
theorem y_lss (hx : eev E x = some (.int k i)) (hy : eev E y = some (.int k j)) : Yld P n ⟨some d, .binOp .lss t x y yt, ty, pos, aft, none⟩ E (.bool (decide (i < j))) := y_bin hx hy (binOp_lss _ _ _ _)
theorem y_leq (hx : eev E x = some (.int k i)) (hy : eev E y = some (.int k j)) : Yld P n ⟨some d, .binOp .leq t x y yt, ty, pos, aft, none⟩ E (.bool (decide (i ≤ j))) := y_bin hx hy (binOp_leq _ _ _ _)
theorem y_gtr (hx : eev E x = some (.int k i)) (hy : eev E y = some (.int k j)) : Yld P n ⟨some d, .binOp .gtr t x y yt, ty, pos, aft, none⟩ E (.bool (decide (j < i))) := y_bin hx hy (binOp_gtr _ _ _ _)
theorem y_geq (hx : eev E x = some (.int k i)) (hy : eev E y = some (.int k j)) : Yld P n ⟨some d, .binOp .geq t x y yt, ty, pos, aft, none⟩ E (.bool (decide (j ≤ i))) := y_bin hx hy (binOp_geq _ _ _ _)
theorem y_eql (hx : eev E x = some (.int k i)) (hy : eev E y = some (.int k j)) : Yld P n ⟨some d, .binOp .eql t x y yt, ty, pos, aft, none⟩ E (.bool (decide (i = j))) := y_bin hx hy (by rw [binOp_eql]; congr 2)
theorem y_neq (hx : eev E x = some (.int k i)) (hy : eev E y = some (.int k j)) : Yld P n ⟨some d, .binOp .neq t x y yt, ty, pos, aft, none⟩ E (.bool (decide (i ≠ j))) := y_bin hx hy (by rw [binOp_neq]; congr 2; by_cases h : i = j <;> simp [h])
theorem y_and (hx : eev E x = some (.int k i)) (hy : eev E y = some (.int k j)) (hr : bits .and k i j = r) : Yld P n ⟨some d, .binOp .and t x y yt, ty, pos, aft, none⟩ E (.int k r) := y_bin hx hy (by rw [binOp_and, intBits_and, hr])
theorem y_or (hx : eev E x = some (.int k i)) (hy : eev E y = some (.int k j)) (hr : bits .or k i j = r) : Yld P n ⟨some d, .binOp .or t x y yt, ty, pos, aft, none⟩ E (.int k r) := y_bin hx hy (by rw [binOp_or, intBits_or, hr])
theorem y_xor (hx : eev E x = some (.int k i)) (hy : eev E y = some (.int k j)) (hr : bits .xor k i j = r) : Yld P n ⟨some d, .binOp .xor t x y yt, ty, pos, aft, none⟩ E (.int k r) := y_bin hx hy (by rw [binOp_xor, intBits_xor, hr])
theorem y_andNot (hx : eev E x = some (.int k i)) (hy : eev E y = some (.int k j)) (hr : bits .andNot k i j = r) : Yld P n ⟨some d, .binOp .andNot t x y yt, ty, pos, aft, none⟩ E (.int k r) := y_bin hx hy (by rw [binOp_andNot, intBits_andNot, hr])
theorem y_shr {yk : IntKind} (hx : eev E x = some (.int k i)) (hy : eev E y = some (.int yk j)) (h0 : 0 ≤ j) (hr : i.fdiv (2 ^ min j.toNat k.bits) = r) : Yld P n ⟨some d, .binOp .shr t x y yt, ty, pos, aft, none⟩ E (.int k r) := ⟨fun a w ha => by
  simp only [execOp, ha.ev hx, ha.ev hy, eqGuard_at_int, binOp_shr, Op.shift]
  rw [if_neg (by omega), hr]; rfl⟩
theorem y_shl {yk : IntKind} (hx : eev E x = some (.int k i)) (hy : eev E y = some (.int yk j)) (h0 : 0 ≤ j) (hr : k.wrap (i * 2 ^ min j.toNat k.bits) = r) : Yld P n ⟨some d, .binOp .shl t x y yt, ty, pos, aft, none⟩ E (.int k r) := ⟨fun a w ha => by
  simp only [execOp, ha.ev hx, ha.ev hy, eqGuard_at_int, binOp_shl, Op.shift]
  rw [if_neg (by omega), hr]; rfl⟩
end bin
theorem y_not {x : Operand} {b : Bool} {t : TypeId} (hx : eev E x = some (.bool b)) : Yld P n ⟨some d, .unOp .not t x, ty, pos, aft, none⟩ E (.bool (!b)) := ⟨fun a w ha => by
  simp only [execOp, ha.ev hx]; rfl⟩
theorem y_conv {x : Operand} {k k' : IntKind} {i r : Int} {s t : TypeId} (hx : eev E x = some (.int k' i)) (hs : (P.underlying s).isSome = true) (ht : P.underlying t = some (.int k)) (hr : k.wrap i = r) :
    Yld P n ⟨some d, .convert s t x, ty, pos, aft, none⟩ E (.int k r) := ⟨fun a w ha => by
  obtain ⟨ds, hds⟩ := Option.isSome_iff_exists.1 hs
  simp only [execOp, ha.ev hx, convert, Sem.run_bind, run_underlying hds, run_underlying ht, Result.andThen_ok, Conv.intToInt, hr]
  rfl⟩
theorem y_len {x : Operand} {A : Option Addr} {m c : Nat} {t e : TypeId} (hx : eev E x = some (.slice A m c)) (ht : P.underlying t = some (.slice e)) :
    Yld P n ⟨some d, .call { callee := .builtin .len, args := #[x], argTypes := #[t] }, ty, pos, aft, none⟩ E (.int .i64 m) := ⟨fun a w ha => by
  simp only [execOp, resolve, invoke, builtin, Sem.run_bind, Sem.run_pure, Result.andThen_ok, List.map_toArray, List.map_cons, List.map_nil, ha.ev hx, Builtin.len_]
  simp [run_underlying ht, goInt]⟩
theorem y_cap {x : Operand} {A : Option Addr} {m c : Nat} {t e : TypeId} (hx : eev E x = some (.slice A m c)) (ht : P.underlying t = some (.slice e)) :
    Yld P n ⟨some d, .call { callee := .builtin .cap, args := #[x], argTypes := #[t] }, ty, pos, aft, none⟩ E (.int .i64 c) := ⟨fun a w ha => by
  simp only [execOp, resolve, invoke, builtin, Sem.run_bind, Sem.run_pure, Result.andThen_ok, List.map_toArray, List.map_cons, List.map_nil, ha.ev hx, Builtin.cap_]
  simp [run_underlying ht, goInt]⟩
theorem y_nilCheck {x : Operand} {p : Addr} (hx : eev E x = some (.pointer (some p))) : Yld P n ⟨some d, .nilCheck x, ty, pos, aft, none⟩ E (.pointer (some p)) := ⟨fun a w ha => by
  simp only [execOp, ha.ev hx]; rfl⟩
/-! what kind of goal stands here (they change nothing; they fail fast) -/
theorem k_T {c : Code} (h : T P n c Q E w) : T P n c Q E w := h
theorem k_TL {l : List Oper} (h : TL P n ops l Q E w) : TL P n ops l Q E w := h
theorem k_N (h : N P n Q E w) : N P n Q E w := h
theorem k_X {id : Nat} (h : X P n id Q E w) : X P n id Q E w := h
theorem k_RT (h : RT P n Q E w) : RT P n Q E w := h
section
variable {o : Oper} {dst : Option Tmp} {x y z : Operand} {t t' : TypeId} {b : BinOp} {j : Nat} {bb : Bool} {op : Op}
theorem k_move (h : TL P n ops (⟨dst, .move x, ty, pos, aft, none⟩ :: rest) Q E w) : TL P n ops (⟨dst, .move x, ty, pos, aft, none⟩ :: rest) Q E w := h
theorem k_assign (h : TL P n ops (⟨dst, .assign x, ty, pos, aft, none⟩ :: rest) Q E w) : TL P n ops (⟨dst, .assign x, ty, pos, aft, none⟩ :: rest) Q E w := h
theorem k_pick (h : TL P n ops (⟨dst, .pick x y z, ty, pos, aft, none⟩ :: rest) Q E w) : TL P n ops (⟨dst, .pick x y z, ty, pos, aft, none⟩ :: rest) Q E w := h
theorem k_nil (h : TL P n ops (⟨dst, .nilCheck x, ty, pos, aft, none⟩ :: rest) Q E w) : TL P n ops (⟨dst, .nilCheck x, ty, pos, aft, none⟩ :: rest) Q E w := h
theorem k_bin (h : TL P n ops (⟨dst, .binOp b t x y t', ty, pos, aft, none⟩ :: rest) Q E w) : TL P n ops (⟨dst, .binOp b t x y t', ty, pos, aft, none⟩ :: rest) Q E w := h
theorem k_fa (h : TL P n ops (⟨dst, .fieldAddr t x j, ty, pos, aft, none⟩ :: rest) Q E w) : TL P n ops (⟨dst, .fieldAddr t x j, ty, pos, aft, none⟩ :: rest) Q E w := h
theorem k_load (h : TL P n ops (⟨dst, .load t x, ty, pos, aft, none⟩ :: rest) Q E w) : TL P n ops (⟨dst, .load t x, ty, pos, aft, none⟩ :: rest) Q E w := h
theorem k_ext (h : TL P n ops (⟨dst, .extract x j, ty, pos, aft, none⟩ :: rest) Q E w) : TL P n ops (⟨dst, .extract x j, ty, pos, aft, none⟩ :: rest) Q E w := h
theorem k_grd (h : TL P n ops (⟨dst, op, ty, pos, aft, some (j, bb)⟩ :: rest) Q E w) : TL P n ops (⟨dst, op, ty, pos, aft, some (j, bb)⟩ :: rest) Q E w := h
theorem k_sl {lo hi mx : Option Operand} (h : TL P n ops (⟨dst, .slice t x lo hi mx, ty, pos, aft, none⟩ :: rest) Q E w) : TL P n ops (⟨dst, .slice t x lo hi mx, ty, pos, aft, none⟩ :: rest) Q E w := h
end
end ops
end Go.Proofs.YtkjpemkankefnaaDoor
