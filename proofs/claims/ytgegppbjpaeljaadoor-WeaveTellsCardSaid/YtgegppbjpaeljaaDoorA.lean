/- The walk's frame of this work: a call in its midst ('Run'), what is known of its slots ('Env'), assertions on memory with a footprint ('HP', 'St'). Over any program. -/
import Derived.WalkKit
import Derived.Deep.QuietTactic
import Derived.StillTail
import Derived.Deep.AppendSrc
import Derived.Below
import Derived.KernelRfl
import Derived.Recover
import Derived.OrdersHeld
set_option linter.unusedVariables false
set_option linter.unusedSimpArgs false
namespace Go.X
open Go.RowKit

/-! ### 1. A call in its midst -/
def base (f : FuncId) : Frame := { (default : Frame) with fn := f, kind := .normal }

def Run (P : Program) (f : FuncId) (k : List Item) (a : Act) (w : World) (R : Ending → World → Prop) : Prop :=
  ∀ cs, ∃ e w' fr, R e w' ∧ Comes P (lone ((base f).at a k) cs w) (lone fr cs w') e ∧ fr.fn = f ∧ fr.leaving P w' e

section
variable {P : Program} {f : FuncId} {k : List Item} {a : Act} {w : World} {R : Ending → World → Prop}

theorem Run.step {k' : List Item} {a' : Act} {w' : World} (h : ∀ cs, Go.step P (lone ((base f).at a k) cs w) = .next (lone ((base f).at a' k') cs w')) (hr : Run P f k' a' w' R) : Run P f k a w R := by
  intro cs
  obtain ⟨e, w1, fr, h1, h2, h3⟩ := hr cs
  exact ⟨e, w1, fr, h1, .of_steps (.one (h cs)) h2, h3⟩

theorem Run.skip (h : Run P f k a w R) : Run P f (.code .skip :: k) a w R := h.step (fun _ => step_skip)
theorem Run.seq {x y : Code} (h : Run P f (.code x :: .code y :: k) a w R) : Run P f (.code (.seq x y) :: k) a w R := h.step (fun _ => step_seq)
theorem Run.block {id : Nat} {c : Code} (h : Run P f (.code c :: .inBlock id :: k) a w R) : Run P f (.code (.block id c) :: k) a w R := h.step (fun _ => step_block)
theorem Run.inBlock {id : Nat} (h : Run P f k a w R) : Run P f (.inBlock id :: k) a w R := h.step (fun _ => step_inBlock)
theorem Run.exit {id : Nat} {k' : List Item} (hk : exitTo id k = some k') (h : Run P f k' a w R) : Run P f (.code (.exit id) :: k) a w R := h.step (fun _ => step_exit hk)
theorem Run.inLoop {c : Code} (h : Run P f (.code c :: .inLoop c :: k) a w R) : Run P f (.inLoop c :: k) a w R := h.step (fun _ => step_inLoop)
theorem Run.cond {c : Operand} {x y : Code} {t : Bool} (hc : a.eval c = .bool t) (h : Run P f (.code (if t then x else y) :: k) a w R) : Run P f (.code (.cond c x y) :: k) a w R := h.step (fun _ => step_cond hc)

theorem Run.loop {c : Code} (I : Act → World → Prop) (μ : Act → World → Nat) (h0 : I a w)
    (round : ∀ a w, I a w → (∀ a' w', I a' w' → μ a' w' < μ a w → Run P f (.inLoop c :: k) a' w' R) → Run P f (.code c :: .inLoop c :: k) a w R) : Run P f (.code (.loop c) :: k) a w R := by
  have key : ∀ n a w, μ a w = n → I a w → Run P f (.code c :: .inLoop c :: k) a w R := by
    intro n
    induction n using Nat.strongRecOn with
    | _ n ih =>
      intro a w hn hI
      exact round a w hI (fun a' w' hI' hlt => (ih (μ a' w') (hn ▸ hlt) a' w' rfl hI').inLoop)
  exact (key _ a w rfl h0).step (fun _ => step_loop)

theorem Run.ret {v : Value} {fn : Func} (hf : P.funcs[f]? = some fn) (hd : a.defers = []) (hr : (results fn a.tmps).run P w = .ok v w) (hR : R (.returned v) w) : Run P f (.code .ret :: k) a w R :=
  fun cs => ⟨.returned v, w, _, hR, .one step_ret, rfl, rfl, hd, rfl, fn, hf, hr⟩
theorem Run.fin {v : Value} {fn : Func} (hf : P.funcs[f]? = some fn) (hd : a.defers = []) (hr : (results fn a.tmps).run P w = .ok v w) (hR : R (.returned v) w) : Run P f [] a w R :=
  fun cs => ⟨.returned v, w, _, hR, .one step_end, rfl, rfl, hd, rfl, fn, hf, hr⟩

theorem Run.retD {fn : Func} (hf : P.funcs[f]? = some fn) (h : Leaves P fn a.tmps R a.defers .returning w) : Run P f (.code .ret :: k) a w R := fun cs => by
  obtain ⟨e', w'', fr', hR, hs, hfn, hl⟩ := leaves_steps a.defers .returning w { (base f).at a (.code .ret :: k) with mode := .returning } cs rfl rfl rfl hf rfl h
  exact ⟨e', w'', fr', hR, Comes.of_steps (.one step_ret) hs, hfn, hl⟩

/-- Whatever law there is on a statement. -/
def QK (P : Program) (f : FuncId) (k : List Item) (R : Ending → World → Prop) : Exit → Act → World → Prop
  | .normal, a, w => Run P f k a w R
  | .exit id, a, w => ∃ k', exitTo id k = some k' ∧ Run P f k' a w R
  | .panic chain, a, w => (a.defers = [] ∧ R (.panicked chain) w ∧ ∃ fn, P.funcs[f]? = some fn) ∨ ∃ fn, P.funcs[f]? = some fn ∧ Leaves P fn a.tmps R a.defers (.panicking chain) w
  | .outgrown, _, w => R .outgrown w
  | _, _, _ => False

theorem Run.of_wp {c : Code} (h : c.wp P (QK P f k R) a w) : Run P f (.code c :: k) a w R := by
  intro cs
  obtain ⟨e, a', w', hq, harr⟩ := h (base f) k cs
  cases e with
  | normal =>
    obtain ⟨e2, w2, fr, h1, h2, h3⟩ := hq cs
    exact ⟨e2, w2, fr, h1, .of_steps harr h2, h3⟩
  | exit id =>
    obtain ⟨k', hk', hq⟩ := hq
    obtain ⟨e2, w2, fr, h1, h2, h3⟩ := hq cs
    exact ⟨e2, w2, fr, h1, .of_steps (harr k' hk') h2, h3⟩
  | goto l => exact hq.elim
  | ret => exact hq.elim
  | panic chain =>
    obtain ⟨todo, hs⟩ := harr
    rcases hq with ⟨hd, hR, fn, hf⟩ | ⟨fn, hf, hl⟩
    · exact ⟨.panicked chain, w', _, hR, hs, rfl, rfl, hd, fn, hf⟩
    · obtain ⟨e', w'', fr', hR, hs', hfn, hl'⟩ := leaves_steps a'.defers (.panicking chain) w' { (base f).at a' todo with mode := .panicking chain } cs rfl rfl rfl hf rfl hl
      exact ⟨e', w'', fr', hR, Comes.of_steps hs hs', hfn, hl'⟩
  | outgrown => exact ⟨.outgrown, w', base f, hq, harr.resolve_left (by simp [base]), rfl, trivial⟩

theorem calls_of_run {fn : Func} {c : Code} {args : Array Value} (hf : P.funcs[f]? = some fn) (hb : fn.body = some c)
    (h : Run P f [.code c] { tmps := args ++ Array.replicate (fn.ntmps - args.size) undef, defers := [] } w R) : Calls P f args w R := by
  intro cs
  have henter : Frame.enter P f args .normal = (base f).at { tmps := args ++ Array.replicate (fn.ntmps - args.size) undef, defers := [] } [.code c] := by
    simp [Frame.enter, Frame.at, hf, hb, base]
  rw [henter]
  exact h cs
end

/-! ### 2. What is known of the slots -/
structure Ent where
  d : Nat
  c : Bool
  v : Value
abbrev Env := List Ent
def Env.find : Env → Nat → Option (Bool × Value)
  | [], _ => none
  | ⟨d, c, v⟩ :: r, k => match Nat.beq d k with
    | true => some (c, v)
    | false => Env.find r k
/-- Slot d holds v; where c is false: it was passed over. -/
def cval (c : Bool) (v : Value) : Value := match c with | true => v | false => undef

structure Cx where
  P : Program
  f : FuncId
  n : Nat
  ds : List Deferred

def Fits (cx : Cx) (e : Env) (a : Act) : Prop := a.tmps.size = cx.n ∧ a.defers = cx.ds ∧ ∀ d c v, Env.find e d = some (c, v) → a.tmps.getD d undef = cval c v

theorem Fits.put {cx : Cx} {e : Env} {a : Act} (h : Fits cx e a) {d : Nat} {c : Bool} {v : Value} (hd : d < cx.n) : Fits cx (⟨d, c, v⟩ :: e) (a.put (some d) (cval c v)) := by
  obtain ⟨h1, h2, h3⟩ := h
  refine ⟨by simp [Act.put, h1], h2, ?_⟩
  intro d' c' v' hf
  simp only [Env.find] at hf
  have hsz : d < a.tmps.size := by omega
  cases hb : Nat.beq d d' with
  | true =>
    have e := Nat.eq_of_beq_eq_true hb
    subst e
    rw [hb] at hf
    simp only [Option.some.injEq, Prod.mk.injEq] at hf
    obtain ⟨rfl, rfl⟩ := hf
    simp [Act.put, Array.getD_eq_getD_getElem?, hsz]
  | false =>
    rw [hb] at hf
    have hne : d ≠ d' := by
      intro e
      rw [e, Nat.beq_refl] at hb
      cases hb
    rw [← h3 d' c' v' hf]
    simp [Act.put, Array.getD_eq_getD_getElem?, Array.getElem?_setIfInBounds, hne]
theorem Fits.put_none {cx : Cx} {e : Env} {a : Act} (h : Fits cx e a) {v : Value} : Fits cx e (a.put none v) := h
/-- A slot whose value is not wanted any more. -/
theorem Fits.sub {cx : Cx} {e e' : Env} {a : Act} (h : Fits cx e a) (hs : ∀ d c v, Env.find e' d = some (c, v) → Env.find e d = some (c, v)) : Fits cx e' a := ⟨h.1, h.2.1, fun d c v hf => h.2.2 d c v (hs d c v hf)⟩

def opd (e : Env) : Operand → Option (Bool × Value)
  | .tmp t => Env.find e t
  | .const v => some (true, v)
  | .global g => some (true, .pointer (some ⟨g, 0, none⟩))
  | .func f => some (true, .func (.func f) #[] #[])

theorem opd_eval {cx : Cx} {e : Env} {a : Act} (h : Fits cx e a) {x : Operand} {c : Bool} {v : Value} (ho : opd e x = some (c, v)) (hc : c = true) : a.eval x = v := by
  subst hc
  cases x with
  | tmp t => exact h.2.2 t true v ho
  | const u => simp only [opd, Option.some.injEq, Prod.mk.injEq] at ho; exact ho.2
  | global g => simp only [opd, Option.some.injEq, Prod.mk.injEq] at ho; exact ho.2
  | func g => simp only [opd, Option.some.injEq, Prod.mk.injEq] at ho; exact ho.2

/-- Under which condition an operation is carried out. -/
def gcond (e : Env) (ops : List Oper) : Option (Nat × Bool) → Option Bool
  | none => some true
  | some (j, want) => match ops[j]? with
    | some o => match o.dst with
      | some d => match Env.find e d with
        | some (c, .bool b) => some (c && (b == want))
        | _ => none
      | none => none
    | none => none

theorem wanted_of {cx : Cx} {e : Env} {a : Act} (h : Fits cx e a) {ops : List Oper} {o : Oper} {g : Bool} (hg : gcond e ops o.guard = some g) : Region.wanted o (yielded ops.toArray a.tmps) = g := by
  unfold Region.wanted
  cases hgu : o.guard with
  | none => rw [hgu] at hg; simpa [gcond] using hg
  | some jw =>
    obtain ⟨j, want⟩ := jw
    rw [hgu] at hg
    simp only [gcond] at hg
    cases ho' : ops[j]? with
    | none => rw [ho'] at hg; cases hg
    | some o' =>
    rw [ho'] at hg
    cases hd : o'.dst with
    | none => simp only [hd] at hg; cases hg
    | some d =>
    simp only [hd] at hg
    cases hf : Env.find e d with
    | none => rw [hf] at hg; cases hg
    | some cb =>
    obtain ⟨c, b0⟩ := cb
    rw [hf] at hg
    cases b0 <;> first | (simp only [] at hg; cases hg; done) | skip
    rename_i b
    have hv := h.2.2 d c _ hf
    simp only [Option.some.injEq] at hg
    subst hg
    have hy : yielded ops.toArray a.tmps j = if c then some b else none := by
      unfold yielded
      have hs : ((ops.toArray[j]?).bind (·.dst)) = some d := by simp [ho', hd]
      rw [hs]
      simp only [Option.bind_some]
      cases hd2 : a.tmps[d]? with
      | none =>
        simp only [Array.getD_eq_getD_getElem?, hd2, Option.getD_none] at hv
        cases c <;> simp [cval, undef] at hv ⊢
      | some u =>
        simp only [Array.getD_eq_getD_getElem?, hd2, Option.getD_some] at hv
        subst hv
        cases c <;> simp [cval, undef]
    show (yielded ops.toArray a.tmps j == some want) = (c && (b == want))
    rw [hy]
    cases c <;> cases b <;> cases want <;> rfl

/-! ### 3. Memory: assertions with a footprint -/
structure HP where
  holds : World → (Nat → Prop) → Prop
  move : ∀ {w w' : World} {F : Nat → Prop}, holds w F → (∀ k, F k → w'.heap[k]? = w.heap[k]?) → holds w' F
  live : ∀ {w : World} {F : Nat → Prop} {k : Nat}, holds w F → F k → k < w.heap.size

def Sats : List HP → World → (Nat → Prop) → Prop
  | [], _, _ => True
  | A :: r, w, F => ∃ F1 F2 : Nat → Prop, (∀ k, F1 k → F k) ∧ (∀ k, F2 k → F k) ∧ (∀ k, F1 k → ¬ F2 k) ∧ A.holds w F1 ∧ Sats r w F2

theorem Sats.mono : ∀ {L : List HP} {w : World} {F F' : Nat → Prop}, Sats L w F → (∀ k, F k → F' k) → Sats L w F'
  | [], _, _, _, _, _ => trivial
  | _ :: _, _, _, _, ⟨F1, F2, h1, h2, h3, h4, h5⟩, h => ⟨F1, F2, fun k hk => h k (h1 k hk), fun k hk => h k (h2 k hk), h3, h4, h5⟩
theorem Sats.move : ∀ {L : List HP} {w w' : World} {F : Nat → Prop}, Sats L w F → (∀ k, F k → w'.heap[k]? = w.heap[k]?) → Sats L w' F
  | [], _, _, _, _, _ => trivial
  | A :: _, _, _, _, ⟨F1, F2, h1, h2, h3, h4, h5⟩, h => ⟨F1, F2, h1, h2, h3, A.move h4 (fun k hk => h k (h1 k hk)), h5.move (fun k hk => h k (h2 k hk))⟩
/-- The footprint may be taken as that of the parts alone: live blocks. -/
theorem Sats.live : ∀ {L : List HP} {w : World} {F : Nat → Prop}, Sats L w F → ∃ F', (∀ k, F' k → F k ∧ k < w.heap.size) ∧ Sats L w F'
  | [], _, _, _ => ⟨fun _ => False, fun _ h => h.elim, trivial⟩
  | A :: _, _, _, ⟨F1, F2, h1, h2, h3, h4, h5⟩ => by
    obtain ⟨F3, g1, g2⟩ := h5.live
    refine ⟨fun k => F1 k ∨ F3 k, ?_, F1, F3, fun k hk => .inl hk, fun k hk => .inr hk, fun k hk hk' => h3 k hk (g1 k hk').1, h4, g2⟩
    rintro k (hk | hk)
    · exact ⟨h1 k hk, A.live h4 hk⟩
    · exact ⟨h2 k (g1 k hk).1, (g1 k hk).2⟩

/-- L without its entry A. -/
inductive Rem : HP → List HP → List HP → Prop
  | here {A : HP} {L : List HP} : Rem A (A :: L) L
  | there {A B : HP} {L L' : List HP} (h : Rem A L L') : Rem A (B :: L) (B :: L')

theorem Sats.rem {A : HP} {L L' : List HP} (h : Rem A L L') : ∀ {w : World} {F : Nat → Prop}, Sats L w F → Sats (A :: L') w F := by
  induction h with
  | here => exact fun h => h
  | @there B L L' h ih =>
    rintro w F ⟨F1, F2, h1, h2, h3, h4, h5⟩
    obtain ⟨G1, G2, g1, g2, g3, g4, g5⟩ := ih h5
    exact ⟨G1, fun k => F1 k ∨ G2 k, fun k hk => h2 k (g1 k hk), fun k hk => hk.elim (h1 k) (fun hk => h2 k (g2 k hk)),
      fun k hk hk' => hk'.elim (fun hk' => h3 k hk' (g1 k hk)) (g3 k hk), g4, F1, G2, fun k hk => .inl hk, fun k hk => .inr hk, fun k hk hk' => h3 k hk (g2 k hk'), h4, g5⟩
/-- L1 out of L: what is left is L2. -/
inductive Rems : List HP → List HP → List HP → Prop
  | nil {L : List HP} : Rems [] L L
  | cons {A : HP} {L1 L L' L2 : List HP} (h : Rem A L L') (h' : Rems L1 L' L2) : Rems (A :: L1) L L2
theorem Sats.rems {L1 L L2 : List HP} (h : Rems L1 L L2) : ∀ {w : World} {F : Nat → Prop}, Sats L w F → Sats (L1 ++ L2) w F := by
  induction h with
  | nil => exact fun h => h
  | @cons A L1 L L' L2 h h' ih =>
    intro w F hs
    obtain ⟨F1, F2, h1, h2, h3, h4, h5⟩ := hs.rem h
    exact ⟨F1, F2, h1, h2, h3, h4, ih h5⟩
theorem Sats.split : ∀ {L1 L2 : List HP} {w : World} {F : Nat → Prop}, Sats (L1 ++ L2) w F → ∃ F1 F2 : Nat → Prop, (∀ k, F1 k → F k) ∧ (∀ k, F2 k → F k) ∧ (∀ k, F1 k → ¬ F2 k) ∧ Sats L1 w F1 ∧ Sats L2 w F2
  | [], _, _, F, h => ⟨fun _ => False, F, fun _ h => h.elim, fun _ h => h, fun _ h => h.elim, trivial, h⟩
  | _ :: _, _, _, _, ⟨F1, F2, h1, h2, h3, h4, h5⟩ => by
    obtain ⟨G1, G2, g1, g2, g3, g4, g5⟩ := h5.split
    exact ⟨fun k => F1 k ∨ G1 k, G2, fun k hk => hk.elim (h1 k) (fun hk => h2 k (g1 k hk)), fun k hk => h2 k (g2 k hk), fun k hk hk' => hk.elim (fun hk => h3 k hk (g2 k hk')) (fun hk => g3 k hk hk'),
      ⟨F1, G1, fun k hk => .inl hk, fun k hk => .inr hk, fun k hk hk' => h3 k hk (g1 k hk'), h4, g4⟩, g5⟩
theorem Sats.join : ∀ {L1 L2 : List HP} {w : World} {F1 F2 F : Nat → Prop}, Sats L1 w F1 → Sats L2 w F2 → (∀ k, F1 k → F k) → (∀ k, F2 k → F k) → (∀ k, F1 k → ¬ F2 k) → Sats (L1 ++ L2) w F
  | [], _, _, _, _, _, _, h2, _, h, _ => h2.mono h
  | _ :: _, _, _, _, _, _, ⟨G1, G2, g1, g2, g3, g4, g5⟩, h2, a, b, c =>
    ⟨G1, fun k => G2 k ∨ _, fun k hk => a k (g1 k hk), fun k hk => hk.elim (fun hk => a k (g2 k hk)) (b k), fun k hk hk' => hk'.elim (g3 k hk) (c k (g1 k hk)), g4,
      Sats.join g5 h2 (fun k hk => .inl hk) (fun k hk => .inr hk) (fun k hk hk' => c k (g2 k hk) hk')⟩

/-- From w0 on: blocks of w0 outside S are as they were. -/
structure Mod (S : Nat → Prop) (w0 w : World) : Prop where
  os : w.os = w0.os
  tape : w.tape = w0.tape
  output : w.output = w0.output
  size : w0.heap.size ≤ w.heap.size
  block : ∀ k, k < w0.heap.size → ¬ S k → w.heap[k]? = w0.heap[k]?
theorem Mod.refl (S : Nat → Prop) (w : World) : Mod S w w := ⟨rfl, rfl, rfl, Nat.le_refl _, fun _ _ _ => rfl⟩
theorem Mod.trans {S S' : Nat → Prop} {w0 w w' : World} (h : Mod S w0 w) (k : Mod S' w w') (hs : ∀ b, S' b → S b ∨ w0.heap.size ≤ b) : Mod S w0 w' :=
  ⟨k.os.trans h.os, k.tape.trans h.tape, k.output.trans h.output, Nat.le_trans h.size k.size, fun b hb hn => (k.block b (Nat.lt_of_lt_of_le hb h.size) (fun hs' => (hs b hs').elim hn (fun h1 => by omega))).trans (h.block b hb hn)⟩
theorem Mod.of_below {w w' : World} (h : Below w.heap.size w w') (S : Nat → Prop) : Mod S w w' := ⟨h.os, h.tape, h.output, h.size, fun k hk _ => h.block k hk⟩
theorem Mod.below {w w' : World} {S : Nat → Prop} (h : Mod S w w') (hS : ∀ k, ¬ S k) : Below w.heap.size w w' := ⟨h.os, h.tape, h.output, h.size, fun k hk => h.block k hk (hS k)⟩

structure St (w0 : World) (S : Nat → Prop) (L : List HP) (w : World) : Prop where
  mod : Mod S w0 w
  sat : ∃ F : Nat → Prop, (∀ k, F k → k < w.heap.size ∧ (S k ∨ w0.heap.size ≤ k)) ∧ Sats L w F

/-- Nothing owned, nothing to be written. -/
def noS : Nat → Prop := fun _ => False
theorem St.nil (w : World) : St w noS [] w := ⟨Mod.refl _ _, fun _ => False, fun _ h => h.elim, trivial⟩
theorem St.below {w0 w : World} {L : List HP} (h : St w0 noS L w) : Below w0.heap.size w0 w := h.mod.below (fun _ h => h)
theorem St.rems {w0 w : World} {S : Nat → Prop} {L1 L L2 : List HP} (h : St w0 S L w) (hr : Rems L1 L L2) : St w0 S (L1 ++ L2) w := ⟨h.mod, let ⟨F, a, b⟩ := h.sat; ⟨F, a, b.rems hr⟩⟩
theorem St.drop {w0 w : World} {S : Nat → Prop} {L1 L2 : List HP} (h : St w0 S (L1 ++ L2) w) : St w0 S L1 w := ⟨h.mod, by
  obtain ⟨F, a, b⟩ := h.sat
  obtain ⟨F1, F2, h1, _, _, h4, _⟩ := b.split
  exact ⟨F1, fun k hk => a k (h1 k hk), h4⟩⟩
theorem St.drop1 {w0 w : World} {S : Nat → Prop} {A : HP} {L2 : List HP} (h : St w0 S (A :: L2) w) : St w0 S L2 w := ⟨h.mod, by
  obtain ⟨F, a, F1, F2, h1, h2, _, _, h5⟩ := h.sat
  exact ⟨F2, fun k hk => a k (h2 k hk), h5⟩⟩
/-- What needs no memory of the call's own. -/
theorem St.head {w0 w : World} {S : Nat → Prop} {A : HP} {L : List HP} (h : St w0 S (A :: L) w) : ∃ F, A.holds w F := by
  obtain ⟨F, a, F1, F2, h1, h2, _, h4, h5⟩ := h.sat
  exact ⟨F1, h4⟩

/-- THE FRAME: a part of what is owned is handed to a callee. -/
theorem St.frame {w0 w w' : World} {S : Nat → Prop} {L1 L2 L1' : List HP} (h : St w0 S (L1 ++ L2) w) :
    ∃ S1 : Nat → Prop, St w S1 L1 w ∧ (∀ k, S1 k → S k ∨ w0.heap.size ≤ k) ∧ ∀ w' L1', St w S1 L1' w' → St w0 S (L1' ++ L2) w' := by
  obtain ⟨F, hF, hs⟩ := h.sat
  obtain ⟨F1, F2, h1, h2, h3, h4, h5⟩ := hs.split
  refine ⟨F1, ⟨Mod.refl _ _, F1, fun k hk => ⟨(hF k (h1 k hk)).1, .inl hk⟩, h4⟩, fun k hk => (hF k (h1 k hk)).2, ?_⟩
  intro w' L1' h'
  obtain ⟨G, hG, hs'⟩ := h'.sat
  have hm : Mod S w0 w' := h.mod.trans h'.mod (fun k hk => (hF k (h1 k hk)).2)
  refine ⟨hm, fun k => G k ∨ F2 k, ?_, ?_⟩
  · rintro k (hk | hk)
    · refine ⟨(hG k hk).1, ?_⟩
      rcases (hG k hk).2 with h6 | h6
      · exact (hF k (h1 k h6)).2
      · exact .inr (Nat.le_trans h.mod.size h6)
    · exact ⟨Nat.lt_of_lt_of_le (hF k (h2 k hk)).1 h'.mod.size, (hF k (h2 k hk)).2⟩
  · refine Sats.join hs' (h5.move (fun k hk => ?_)) (fun k hk => .inl hk) (fun k hk => .inr hk) (fun k hk hk' => ?_)
    · exact h'.mod.block k (hF k (h2 k hk)).1 (fun hk' => h3 k hk' hk)
    · rcases (hG k hk).2 with h6 | h6
      · exact h3 k h6 hk'
      · exact absurd (hF k (h2 k hk')).1 (by omega)

/-- A fact that outlives whatever is done outside S. -/
def Stable (w0 : World) (S : Nat → Prop) (φ : World → Prop) : Prop := ∀ w, Mod S w0 w → φ w
theorem Stable.at_ {w0 w : World} {S : Nat → Prop} {φ : World → Prop} {L : List HP} (h : Stable w0 S φ) (hs : St w0 S L w) : φ w := h w hs.mod
theorem Stable.from_ {w0 w : World} {S S1 : Nat → Prop} {φ : World → Prop} {L : List HP} (h : Stable w0 S φ) (hs : St w0 S L w) (h1 : ∀ k, S1 k → S k ∨ w0.heap.size ≤ k) : Stable w S1 φ :=
  fun w' hw' => h w' (hs.mod.trans hw' h1)
theorem Stable.of_below {w0 : World} {φ : World → Prop} (h : ∀ w, Below w0.heap.size w0 w → φ w) : Stable w0 noS φ := fun w hw => h w (hw.below (fun _ h => h))

/-! the assertions -/
def HP.blk (b : Nat) (o : Obj) : HP where
  holds w F := (∀ k, F k → k = b) ∧ F b ∧ w.heap[b]? = some o
  move := fun ⟨h1, h2, h3⟩ hm => ⟨h1, h2, (hm b h2).trans h3⟩
  live := fun ⟨h1, h2, h3⟩ hk => by rw [h1 _ hk]; exact (Array.getElem?_eq_some_iff.1 h3).1
def HP.pure (φ : Prop) : HP where
  holds w F := (∀ k, ¬ F k) ∧ φ
  move := fun h _ => h
  live := fun h hk => (h.1 _ hk).elim
def HP.ex {α : Type} (A : α → HP) : HP where
  holds w F := ∃ x, (A x).holds w F
  move := fun ⟨x, h⟩ hm => ⟨x, (A x).move h hm⟩
  live := fun ⟨x, h⟩ hk => (A x).live h hk
def HP.star (L : List HP) : HP where
  holds w F := (∀ k, F k → k < w.heap.size) ∧ Sats L w F
  move := fun {w w' F} ⟨h1, h2⟩ hm => ⟨fun k hk => by
    have := hm k hk
    have h := h1 k hk
    rcases Nat.lt_or_ge k w'.heap.size with h' | h'
    · exact h'
    · rw [Array.getElem?_eq_none h', eq_comm, Array.getElem?_eq_none_iff] at this; omega, h2.move hm⟩
  live := fun ⟨h1, _⟩ hk => h1 _ hk

theorem St.star {w0 w : World} {S : Nat → Prop} {L L2 : List HP} : St w0 S (HP.star L :: L2) w ↔ St w0 S (L ++ L2) w := by
  constructor
  · rintro ⟨hm, F, hF, F1, F2, h1, h2, h3, ⟨_, h4⟩, h5⟩
    exact ⟨hm, F, hF, Sats.join h4 h5 h1 h2 h3⟩
  · rintro ⟨hm, F, hF, hs⟩
    obtain ⟨F1, F2, h1, h2, h3, h4, h5⟩ := hs.split
    exact ⟨hm, F, hF, F1, F2, h1, h2, h3, ⟨fun k hk => (hF k (h1 k hk)).1, h4⟩, h5⟩
theorem St.ex {w0 w : World} {S : Nat → Prop} {α : Type} {A : α → HP} {L2 : List HP} : St w0 S (HP.ex A :: L2) w ↔ ∃ x, St w0 S (A x :: L2) w := by
  constructor
  · rintro ⟨hm, F, hF, F1, F2, h1, h2, h3, ⟨x, h4⟩, h5⟩
    exact ⟨x, hm, F, hF, F1, F2, h1, h2, h3, h4, h5⟩
  · rintro ⟨x, hm, F, hF, F1, F2, h1, h2, h3, h4, h5⟩
    exact ⟨hm, F, hF, F1, F2, h1, h2, h3, ⟨x, h4⟩, h5⟩
theorem St.pure {w0 w : World} {S : Nat → Prop} {φ : Prop} {L2 : List HP} : St w0 S (HP.pure φ :: L2) w ↔ φ ∧ St w0 S L2 w := by
  constructor
  · rintro ⟨hm, F, hF, F1, F2, h1, h2, h3, h4, h5⟩
    exact ⟨h4.2, hm, F2, fun k hk => hF k (h2 k hk), h5⟩
  · rintro ⟨hφ, hm, F, hF, hs⟩
    exact ⟨hm, F, hF, fun _ => False, F, fun _ h => h.elim, fun _ h => h, fun _ h => h.elim, ⟨fun _ h => h, hφ⟩, hs⟩

theorem St.blk_at {w0 w : World} {S : Nat → Prop} {b : Nat} {o : Obj} {L L' : List HP} (h : St w0 S L w) (hr : Rem (HP.blk b o) L L') : w.heap[b]? = some o := by
  obtain ⟨F, hF, hs⟩ := h.sat
  obtain ⟨F1, F2, h1, h2, h3, h4, h5⟩ := hs.rem hr
  exact h4.2.2

theorem St.drew {w0 w : World} {S : Nat → Prop} {L : List HP} (h : St w0 S L w) (n : Nat) : St w0 S L { w with drawn := n } := by
  obtain ⟨F, hF, hs⟩ := h.sat
  exact ⟨⟨h.mod.os, h.mod.tape, h.mod.output, h.mod.size, h.mod.block⟩, F, hF, hs.move (fun _ _ => rfl)⟩

/-- A new block. -/
theorem St.alloc {w0 w : World} {S : Nat → Prop} {L : List HP} (h : St w0 S L w) (o : Obj) : w0.heap.size ≤ w.heap.size ∧ St w0 S (HP.blk w.heap.size o :: L) (w.alloc o) := by
  refine ⟨h.mod.size, ?_⟩
  obtain ⟨F, hF, hs⟩ := h.sat
  have hb : Below w.heap.size w (w.alloc o) := (Below.refl _ w).alloc (Nat.le_refl _) o
  refine ⟨h.mod.trans (Mod.of_below hb noS) (fun _ h => h.elim), fun k => k = w.heap.size ∨ F k, ?_, fun k => k = w.heap.size, F, fun k hk => .inl hk, fun k hk => .inr hk, ?_, ?_, hs.move (fun k hk => hb.block k (hF k hk).1)⟩
  · rintro k (rfl | hk)
    · exact ⟨by simp, .inr h.mod.size⟩
    · exact ⟨by have := (hF k hk).1; simp; omega, (hF k hk).2⟩
  · rintro k rfl hk
    exact absurd (hF _ hk).1 (by omega)
  · exact ⟨fun _ h => h, rfl, by show (w.heap.push o)[w.heap.size]? = _; simp⟩

/-- A block of the call's own is written. -/
theorem St.write {w0 w w' : World} {S : Nat → Prop} {b : Nat} {o o' : Obj} {L L' : List HP} (h : St w0 S L w) (hr : Rem (HP.blk b o) L L')
    (h1 : w'.os = w.os) (h2 : w'.tape = w.tape) (h3 : w'.output = w.output) (h4 : w'.heap.size = w.heap.size) (h5 : ∀ k, k ≠ b → w'.heap[k]? = w.heap[k]?) (h6 : w'.heap[b]? = some o') : St w0 S (HP.blk b o' :: L') w' := by
  obtain ⟨F, hF, hs⟩ := h.sat
  obtain ⟨F1, F2, g1, g2, g3, g4, g5⟩ := hs.rem hr
  refine ⟨⟨h1.trans h.mod.os, h2.trans h.mod.tape, h3.trans h.mod.output, by rw [h4]; exact h.mod.size, fun k hk hn => ?_⟩, F, fun k hk => by rw [h4]; exact hF k hk, F1, F2, g1, g2, g3, ⟨g4.1, g4.2.1, h6⟩, g5.move (fun k hk => ?_)⟩
  · by_cases e : k = b
    · subst e
      rcases (hF k (g1 k g4.2.1)).2 with h7 | h7
      · exact absurd h7 hn
      · omega
    · exact (h5 k e).trans (h.mod.block k hk hn)
  · refine h5 k (fun e => ?_)
    subst e
    exact g3 k g4.2.1 hk
end Go.X
