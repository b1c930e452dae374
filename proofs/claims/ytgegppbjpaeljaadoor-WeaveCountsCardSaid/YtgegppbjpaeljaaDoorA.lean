/- The walk's frame of this work: a call in its midst ('Run'), what is known of its slots ('Env'), assertions on memory with a footprint ('HP', 'St'). Over any program. -/
import Derived.WalkKit
import Derived.Deep.QuietTactic
import Derived.StillTail
import Derived.Deep.AppendSrc
import Derived.Below
import Derived.KernelRfl
import Derived.Recover
import Derived.OrdersHeld
import Derived.OrdersIn
import Derived.TacticsIn
import Derived.RangeFuncWrites
import Derived.RangeFuncCalls
set_option linter.unusedVariables false
set_option linter.unusedSimpArgs false
namespace Go.X
open Go.RowKit

/-! ### 1. A call in its midst; a round of a range over a function in its midst -/
/-- Whose frame it is: a call's of f, or a round's within f. -/
structure Fr where
  f : FuncId
  rnd : Option Nat := none
instance {n : Nat} : OfNat Fr n := ⟨⟨n, none⟩⟩
instance : Coe Nat Fr := ⟨fun f => ⟨f, none⟩⟩
def base (f : FuncId) : Frame := { (default : Frame) with fn := f, kind := .normal }

def Run (P : Program) (F : Fr) (k : List Item) (a : Act) (w : World) (R : Ending → World → Prop) : Prop :=
  match F.rnd with
  | none => ∀ cs, ∃ e w' fr, R e w' ∧ Comes P (lone ((base F.f).atR a k) cs w) (lone fr cs w') e ∧ fr.fn = F.f ∧ fr.leaving P w' e
  | some l => ∀ (b : Frame) (k0 : List Item) (cs : List Frame), b.roundOf = some l → ∃ a' w', R (.returned (.tuple #[])) w' ∧ Steps P (lone (b.atR a (k ++ k0)) cs w) (lone (b.atR a' k0) cs w')

theorem exitTo_append {id : Nat} {k0 : List Item} : ∀ {k k' : List Item}, exitTo id k = some k' → exitTo id (k ++ k0) = some (k' ++ k0)
  | [], _, h => by cases h
  | x :: r, k', h => by
    cases x <;> first
      | (simp only [exitTo, List.cons_append] at h ⊢
         split at h
         · rename_i hc
           rw [if_pos hc]
           simp only [Option.some.injEq] at h
           rw [h]
         · rename_i hc
           rw [if_neg hc]
           exact exitTo_append h)
      | (simp only [exitTo, List.cons_append] at h ⊢
         exact exitTo_append h)

section
variable {P : Program} {f : Fr} {k : List Item} {a : Act} {w : World} {R : Ending → World → Prop}

theorem Run.step {k' : List Item} {a' : Act} {w' : World} (h : ∀ (b : Frame) k0 cs, Go.step P (lone (b.atR a (k ++ k0)) cs w) = .next (lone (b.atR a' (k' ++ k0)) cs w')) (hr : Run P f k' a' w' R) : Run P f k a w R := by
  unfold Run at *
  split
  · rename_i hf
    rw [hf] at hr
    intro cs
    obtain ⟨e, w1, fr, h1, h2, h3⟩ := hr cs
    have h0 := h (base f.f) [] cs
    rw [List.append_nil, List.append_nil] at h0
    exact ⟨e, w1, fr, h1, .of_steps (.one h0) h2, h3⟩
  · rename_i hf
    rw [hf] at hr
    intro b k0 cs hb
    obtain ⟨a1, w1, h1, h2⟩ := hr b k0 cs hb
    exact ⟨a1, w1, h1, .head (h b k0 cs) h2⟩

theorem Run.skip (h : Run P f k a w R) : Run P f (.code .skip :: k) a w R := h.step (fun _ _ _ => stepR_skip)
theorem Run.seq {x y : Code} (h : Run P f (.code x :: .code y :: k) a w R) : Run P f (.code (.seq x y) :: k) a w R := h.step (fun _ _ _ => stepR_seq)
theorem Run.block {id : Nat} {c : Code} (h : Run P f (.code c :: .inBlock id :: k) a w R) : Run P f (.code (.block id c) :: k) a w R := h.step (fun _ _ _ => stepR_block)
theorem Run.inBlock {id : Nat} (h : Run P f k a w R) : Run P f (.inBlock id :: k) a w R := h.step (fun _ _ _ => stepR_inBlock)
theorem Run.exit {id : Nat} {k' : List Item} (hk : exitTo id k = some k') (h : Run P f k' a w R) : Run P f (.code (.exit id) :: k) a w R := h.step (fun _ _ _ => stepR_exit (exitTo_append hk))
theorem Run.inLoop {c : Code} (h : Run P f (.code c :: .inLoop c :: k) a w R) : Run P f (.inLoop c :: k) a w R := h.step (fun _ _ _ => stepR_inLoop)
theorem Run.cond {c : Operand} {x y : Code} {t : Bool} (hc : a.eval c = .bool t) (h : Run P f (.code (if t then x else y) :: k) a w R) : Run P f (.code (.cond c x y) :: k) a w R := h.step (fun _ _ _ => stepR_cond hc)

theorem Run.loop {c : Code} (I : Act → World → Prop) (μ : Act → World → Nat) (h0 : I a w)
    (round : ∀ a w, I a w → (∀ a' w', I a' w' → μ a' w' < μ a w → Run P f (.inLoop c :: k) a' w' R) → Run P f (.code c :: .inLoop c :: k) a w R) : Run P f (.code (.loop c) :: k) a w R := by
  have key : ∀ n a w, μ a w = n → I a w → Run P f (.code c :: .inLoop c :: k) a w R := by
    intro n
    induction n using Nat.strongRecOn with
    | _ n ih =>
      intro a w hn hI
      exact round a w hI (fun a' w' hI' hlt => (ih (μ a' w') (hn ▸ hlt) a' w' rfl hI').inLoop)
  exact (key _ a w rfl h0).step (fun _ _ _ => stepR_loop)

theorem base_at {f : FuncId} {a : Act} {k : List Item} : (base f).atR a k = (base f).at a k := Frame.atR_of_none rfl a k
theorem Run.ret {v : Value} {fn : Func} (hn : f.rnd = none) (hf : P.funcs[f.f]? = some fn) (hd : a.defers = []) (hr : (results fn a.tmps).run P w = .ok v w) (hR : R (.returned v) w) : Run P f (.code .ret :: k) a w R := by
  unfold Run
  rw [hn]
  intro cs
  rw [base_at]
  exact ⟨.returned v, w, _, hR, .one step_ret, rfl, rfl, hd, rfl, fn, hf, hr⟩
theorem Run.fin {v : Value} {fn : Func} (hn : f.rnd = none) (hf : P.funcs[f.f]? = some fn) (hd : a.defers = []) (hr : (results fn a.tmps).run P w = .ok v w) (hR : R (.returned v) w) : Run P f [] a w R := by
  unfold Run
  rw [hn]
  intro cs
  rw [base_at]
  exact ⟨.returned v, w, _, hR, .one step_end, rfl, rfl, hd, rfl, fn, hf, hr⟩
/-- A round's end. -/
theorem Run.finR {l : Nat} (hn : f.rnd = some l) (hR : R (.returned (.tuple #[])) w) : Run P f [] a w R := by
  unfold Run
  rw [hn]
  intro b k0 cs _
  exact ⟨a, w, hR, .refl _ _⟩

theorem Run.retD {fn : Func} (hn : f.rnd = none) (hf : P.funcs[f.f]? = some fn) (h : Leaves P fn a.tmps R a.defers .returning w) : Run P f (.code .ret :: k) a w R := by
  unfold Run
  rw [hn]
  intro cs
  rw [base_at]
  obtain ⟨e', w'', fr', hR, hs, hfn, hl⟩ := leaves_steps a.defers .returning w { (base f.f).at a (.code .ret :: k) with mode := .returning } cs rfl rfl rfl hf rfl h
  exact ⟨e', w'', fr', hR, Comes.of_steps (.one step_ret) hs, hfn, hl⟩

/-- Whatever law there is on a statement. -/
def QK (P : Program) (f : Fr) (k : List Item) (R : Ending → World → Prop) : Exit → Act → World → Prop
  | .normal, a, w => Run P f k a w R
  | .exit id, a, w => ∃ k', exitTo id k = some k' ∧ Run P f k' a w R
  | .panic chain, a, w => f.rnd = none ∧ ((a.defers = [] ∧ R (.panicked chain) w ∧ ∃ fn, P.funcs[f.f]? = some fn) ∨ ∃ fn, P.funcs[f.f]? = some fn ∧ Leaves P fn a.tmps R a.defers (.panicking chain) w)
  | .outgrown, _, w => f.rnd = none ∧ R .outgrown w
  | _, _, _ => False

theorem Run.of_wp {c : Code} (hn : f.rnd = none) (h : c.wp P (QK P f k R) a w) : Run P f (.code c :: k) a w R := by
  unfold Run
  rw [hn]
  intro cs
  rw [base_at]
  obtain ⟨e, a', w', hq, harr⟩ := h (base f.f) k cs
  have hrun : ∀ {k' : List Item} {a' : Act} {w' : World}, Run P f k' a' w' R → ∃ e w2 fr, R e w2 ∧ Comes P (lone ((base f.f).at a' k') cs w') (lone fr cs w2) e ∧ fr.fn = f.f ∧ fr.leaving P w2 e := fun hq => by
    unfold Run at hq
    rw [hn] at hq
    have := hq cs
    rwa [base_at] at this
  cases e with
  | normal =>
    obtain ⟨e2, w2, fr, h1, h2, h3⟩ := hrun hq
    exact ⟨e2, w2, fr, h1, .of_steps harr h2, h3⟩
  | exit id =>
    obtain ⟨k', hk', hq⟩ := hq
    obtain ⟨e2, w2, fr, h1, h2, h3⟩ := hrun hq
    exact ⟨e2, w2, fr, h1, .of_steps (harr k' hk') h2, h3⟩
  | goto l => exact hq.elim
  | ret => exact hq.elim
  | panic chain =>
    obtain ⟨todo, hs⟩ := harr
    rcases hq.2 with ⟨hd, hR, fn, hf⟩ | ⟨fn, hf, hl⟩
    · exact ⟨.panicked chain, w', _, hR, hs, rfl, rfl, hd, fn, hf⟩
    · obtain ⟨e', w'', fr', hR, hs', hfn, hl'⟩ := leaves_steps a'.defers (.panicking chain) w' { (base f.f).at a' todo with mode := .panicking chain } cs rfl rfl rfl hf rfl hl
      exact ⟨e', w'', fr', hR, Comes.of_steps hs hs', hfn, hl'⟩
  | outgrown => exact ⟨.outgrown, w', base f.f, hq.2, harr.resolve_left (by simp [base]), rfl, trivial⟩

theorem Run.of_wpIn {c : Code} {n l : Nat} (hn : f.rnd = some l) (h : c.wpIn (Fence.wide.inRound l) n P (QK P f k R) a w) : Run P f (.code c :: k) a w R := by
  unfold Run
  rw [hn]
  intro b k0 cs hb
  obtain ⟨e, a', w', hq, harr⟩ := h b (k ++ k0) cs hb trivial (fun _ h => by cases h)
  have hrun : ∀ {k' : List Item} {a' : Act} {w' : World}, Run P f k' a' w' R → ∃ a2 w2, R (.returned (.tuple #[])) w2 ∧ Steps P (lone (b.atR a' (k' ++ k0)) cs w') (lone (b.atR a2 k0) cs w2) := fun hq => by
    unfold Run at hq
    rw [hn] at hq
    exact hq b k0 cs hb
  cases e with
  | normal =>
    obtain ⟨a2, w2, h1, h2⟩ := hrun hq
    exact ⟨a2, w2, h1, (StepsIn.steps harr).trans h2⟩
  | exit id =>
    obtain ⟨k', hk', hq⟩ := hq
    obtain ⟨a2, w2, h1, h2⟩ := hrun hq
    exact ⟨a2, w2, h1, (StepsIn.steps (harr.1 _ (exitTo_append hk'))).trans h2⟩
  | goto l => exact hq.elim
  | ret => exact hq.elim
  | panic chain => exact absurd hq.1 (by rw [hn]; exact fun h => by cases h)
  | outgrown => exact absurd hq.1 (by rw [hn]; exact fun h => by cases h)

/-- What a round may do inside a region: no deferred call. -/
def noDefer (l : List Oper) : Bool := l.all fun o => match o.op with | .defer _ => false | _ => true
theorem noDefer_at {l : List Oper} (h : noDefer l = true) {o : Oper} (ho : o ∈ l) : ∀ c, o.op ≠ .defer c := by
  intro c hc
  have := List.all_eq_true.1 h o ho
  rw [hc] at this
  cases this
theorem Oper.in_round {o : Oper} {l n : Nat} {K : Act → World → Prop} {Q : Exit → Act → World → Prop} (hd : ∀ c, o.op ≠ .defer c) (h : o.wp P a w K Q) : o.wpIn (Fence.wide.inRound l) n P a w K Q := by
  refine ⟨fun _ _ => trivial, ?_⟩
  rw [Oper.semAt_eq _ _ _ hd]
  unfold Oper.wp at h
  generalize (execOp a.eval o).run P w = r at *
  cases r with
  | ok x w' =>
    cases x with
    | enter g args => exact ⟨fun h => (by cases h), CallsIn.inRound l (callsIn_wide.2 h)⟩
    | row row args =>
      refine ⟨fun h => (by cases h), fun c cs hr => ?_⟩
      obtain ⟨v, w2, h1, h2⟩ := h c cs
      exact ⟨v, w2, h1, (stepsIn_wide.2 h2 : StepsIn (Machine.fenced P Fence.wide) P _ _)⟩
    | _ => first | exact h | exact h.elim
  | halt x w' => cases x <;> first | exact h | exact h.elim
theorem wpList_in {ops : Array Oper} {l n : Nat} {Q : Exit → Act → World → Prop} (hQ : ¬ LetsOut Q) : ∀ {r : List Oper} {a : Act} {w : World}, (∀ o, o ∈ r → ∀ c, o.op ≠ .defer c) → wpList P ops Q r a w → wpListIn (Fence.wide.inRound l) n P ops Q r a w
  | [], _, _, _, h => h
  | o :: r, a, w, hd, h => by
    unfold wpList at h
    unfold wpListIn
    split
    · rename_i hw
      rw [if_pos hw] at h
      rcases h with h | h
      · exact Oper.in_round (hd o (List.mem_cons_self ..)) (Oper.wp_mono (fun a' w' h' => wpList_in hQ (fun o ho => hd o (List.mem_cons_of_mem _ ho)) h') h)
      · exact absurd h.2 hQ
    · rename_i hw
      rw [if_neg hw] at h
      exact ⟨fun _ _ => trivial, wpList_in hQ (fun o ho => hd o (List.mem_cons_of_mem _ ho)) h⟩
theorem wpAny_in {ops : Array Oper} {l n : Nat} {md : Region.Mode} {Q : Exit → Act → World → Prop} (hQ : ¬ LetsOut Q) (hd : ∀ (i : Nat) (o : Oper), ops[i]? = some o → ∀ c, o.op ≠ .defer c) : ∀ {m : Nat} {listed : Array Bool} {a : Act} {w : World}, wpAny P md ops Q m listed a w → wpAnyIn (Fence.wide.inRound l) n P md ops Q m listed a w
  | 0, _, _, _, h => h
  | m + 1, listed, a, w, h => by
    refine ⟨h.1, fun i hi => ?_⟩
    have h2 := h.2 i hi
    unfold wpOp at h2
    unfold wpOpIn
    cases ho : ops[i]? with
    | none => rw [ho] at h2; exact wpAny_in hQ hd h2
    | some o =>
      rw [ho] at h2
      simp only at h2 ⊢
      split
      · rename_i hw
        rw [if_pos hw] at h2
        rcases h2 with h2 | h2
        · exact Oper.in_round (hd i o ho) (Oper.wp_mono (fun a' w' h' => wpAny_in hQ hd h') h2)
        · exact absurd h2.2 hQ
      · rename_i hw
        rw [if_neg hw] at h2
        exact ⟨fun _ _ => trivial, wpAny_in hQ hd h2⟩
theorem QK.noOut {l : Nat} (hn : f.rnd = some l) : ¬ LetsOut (QK P f k R) := fun ⟨_, _, h⟩ => by rw [h.1] at hn; cases hn
theorem Run.of_list {id : Nat} {l : List Oper} (hnd : f.rnd = none ∨ noDefer l = true) (h : wpList P l.toArray (QK P f k R) l a w) : Run P f (.code (.region id l.toArray false) :: k) a w R := by
  cases hn : f.rnd with
  | none => exact Run.of_wp hn (wp_region_lit h)
  | some r =>
    have hd := hnd.resolve_left (by rw [hn]; exact fun h => by cases h)
    exact Run.of_wpIn (n := 0) hn (wpIn_region_lit (wpList_in (QK.noOut hn) (fun o ho => noDefer_at hd ho) h))
theorem Run.of_any {id : Nat} {l : List Oper} (hm : P.follows .mixedOrders = true) (hnd : f.rnd = none ∨ noDefer l = true) (h : wpAny P .any l.toArray (QK P f k R) l.toArray.size (Array.replicate l.toArray.size false) a { w with drawn := w.drawn + 1 }) : Run P f (.code (.region id l.toArray true) :: k) a w R := by
  cases hn : f.rnd with
  | none => exact Run.of_wp hn (wp_region_any hm h)
  | some r =>
    have hd := hnd.resolve_left (by rw [hn]; exact fun h => by cases h)
    exact Run.of_wpIn (n := 0) hn (wpIn_region_any hm (wpAny_in (QK.noOut hn) (fun i o ho => noDefer_at hd (by have := List.mem_of_getElem? (by simpa using ho : l[i]? = some o); exact this)) h))

/-- A round begins. -/
theorem Run.beginRound {l : Nat} {w' : World} (hn : f.rnd = some l) (hb : (Instr.beginRound l).run P w = .ok () w') (h : Run P f k a w' R) : Run P f (.beginRound :: k) a w R := by
  unfold Run at *
  rw [hn] at h ⊢
  intro b k0 cs hro
  obtain ⟨a', w2, h1, h2⟩ := h b k0 cs hro
  exact ⟨a', w2, h1, .head (stepR_beginRound hro hb) h2⟩
/-- A round's contract. -/
theorem Run.round {l n : Nat} {g : FuncId} {R' : Ending → World → Prop} {assign body : Code} {tmps : Array Value} (hn : f.rnd = some l) (h : Run P f [.code assign, .beginRound, .code body] { tmps := tmps, defers := [] } w R)
    (he : ∀ w', R (.returned (.tuple #[])) w' → ∃ w2, (Instr.endRound l none).run P w' = .ok (.bool true) w2 ∧ R' (.returned (.bool true)) w2) : RoundIn Fence.wide n P l g tmps assign body w R' := by
  refine ⟨trivial, fun c cs hr => ?_⟩
  unfold Run at h
  rw [hn] at h
  let b : Frame := { (default : Frame) with fn := g, kind := .normal, roundOf := some l }
  have hb0 : Frame.round l g tmps assign body .normal = b.atR { tmps := tmps, defers := [] } [.code assign, .beginRound, .code body] := by
    simp [Frame.round, Frame.atR, b]
  obtain ⟨a', w', h1, h2⟩ := h b [] (c :: cs) rfl
  obtain ⟨w2, h3, h4⟩ := he w' h1
  refine ⟨.returned (.bool true), w2, h4, ?_⟩
  rw [hb0]
  exact stepsIn_wide.2 (h2.trans (.one (stepR_round_end rfl rfl h3)))
/-- A range over a function. -/
theorem Run.rangeFunc {g : Operand} {ps : Array Tmp} {assign body : Code} {gf : Nat} {lb : Array Value} (hn : f.rnd = none) (hg : a.eval g = .func (.func gf) #[] lb) (eg : ∀ args w, (callFunc gf args).run P w = .ok (.enter gf args) w)
    (h : ∀ fn : FuncId, Calls P gf (#[.func (.yield (w.heap.size + 1)) #[] #[]] ++ lb) ((w.alloc (.deferred (some []))).alloc (.loop { state := .ready, pending := none, fn, tmps := a.tmps, params := ps, assign, body, defers := w.heap.size }))
      (fun e w3 => (∃ v, e = .returned v) ∧ ∃ r, w3.heap[w.heap.size + 1]? = some (.loop r) ∧ r.state ≠ .busy ∧ r.pending = none ∧ Run P f k { a with defers := { target := .collected w.heap.size, args := #[] } :: a.defers } (w3.putObj (w.heap.size + 1) (.loop { r with state := .exhausted })) R)) :
    Run P f (.code (.rangeFunc g ps assign body) :: k) a w R := by
  have key : (Code.rangeFunc g ps assign body).wpIn Fence.wide 0 P (QK P f k R) a w := by
    refine wpIn_rangeFunc (fun fn _ => ?_)
    obtain ⟨W1, hW1⟩ : ∃ W1, (w.alloc (.deferred (some []))).alloc (.loop { state := .ready, pending := none, fn, tmps := a.tmps, params := ps, assign, body, defers := w.heap.size }) = W1 := ⟨_, rfl⟩
    have h0 := h fn
    rw [hW1] at h0
    refine ⟨w.heap.size + 1, [{ target := .collected w.heap.size, args := #[] }], W1, { target := .fn (.func gf) lb, args := #[.func (.yield (w.heap.size + 1)) #[] #[]] }, W1, gf,
      #[.func (.yield (w.heap.size + 1)) #[] #[]] ++ lb, W1, ?_, ?_, fun _ _ => trivial, ?_, ?_, ?_⟩
    · rw [← hW1]; exact run_enterLoop_outer _ _ _ _ _
    · simp only [resolve, hg]
      simp [go_sem]
    · simp [invoke, go_sem, eg]
    · intro h; cases h
    · refine callsIn_wide.2 (Calls.mono h0 ?_)
      rintro e w3 ⟨⟨v, rfl⟩, r, h1, h2, h3, h4⟩
      exact ⟨none, _, (run_endLoop (P := P) h1 h2).trans (congrArg (fun p => Result.ok p _) h3), h4⟩
  exact Run.of_wp hn (wpIn_wide.1 key)
theorem Run.retM {v : Value} {fn : Func} {r : Nat} {w' : World} (hn : f.rnd = none) (hf : P.funcs[f.f]? = some fn) (hd : a.defers = [{ target := .collected r, args := #[] }]) (ht : (Instr.takeDeferred r).run P w = .ok [] w') (hr : (results fn a.tmps).run P w' = .ok v w') (hR : R (.returned v) w') : Run P f (.code .ret :: k) a w R := by
  unfold Run
  rw [hn]
  intro cs
  rw [base_at]
  obtain ⟨e', w'', fr', hR, hs, hfn, hl⟩ := leaves_stepsInM (F := Fence.wide) (n := 0) a.defers .returning w { (base f.f).at a (.code .ret :: k) with mode := .returning } cs rfl rfl rfl hf rfl trivial (fun _ h => by cases h) (R := R) (by
    rw [hd]
    exact ⟨(fun h => by cases h), .inl ⟨r, w', rfl, ht, v, hr, hR⟩⟩)
  exact ⟨e', w'', fr', hR, Comes.of_steps (.one step_ret) (comesIn_wide.1 hs), hfn, hl⟩

theorem calls_of_run {fn : Func} {c : Code} {args : Array Value} (hn : f.rnd = none) (hf : P.funcs[f.f]? = some fn) (hb : fn.body = some c)
    (h : Run P f [.code c] { tmps := args ++ Array.replicate (fn.ntmps - args.size) undef, defers := [] } w R) : Calls P f.f args w R := by
  intro cs
  have henter : Frame.enter P f.f args .normal = (base f.f).atR { tmps := args ++ Array.replicate (fn.ntmps - args.size) undef, defers := [] } [.code c] := by
    simp [Frame.enter, Frame.atR, hf, hb, base]
    rfl
  rw [henter]
  unfold Run at h
  rw [hn] at h
  exact h cs
end

/-! ### 2. What is known of the slots -/
structure Ent where
  d : Nat
  c : Bool
  v : Value
abbrev Env := List Ent
def Env.find : Env → Nat → Option (Bool × Value)
  | [], _ => none
  | ⟨d, c, v⟩ :: r, k => match Nat.beq d k with
    | true => some (c, v)
    | false => Env.find r k
/-- Slot d holds v; where c is false: it was passed over. -/
def cval (c : Bool) (v : Value) : Value := match c with | true => v | false => undef

structure Cx where
  P : Program
  f : Fr
  n : Nat
  ds : List Deferred

def Fits (cx : Cx) (e : Env) (a : Act) : Prop := a.tmps.size = cx.n ∧ a.defers = cx.ds ∧ ∀ d c v, Env.find e d = some (c, v) → a.tmps.getD d undef = cval c v

theorem Fits.put {cx : Cx} {e : Env} {a : Act} (h : Fits cx e a) {d : Nat} {c : Bool} {v : Value} (hd : d < cx.n) : Fits cx (⟨d, c, v⟩ :: e) (a.put (some d) (cval c v)) := by
  obtain ⟨h1, h2, h3⟩ := h
  refine ⟨by simp [Act.put, h1], h2, ?_⟩
  intro d' c' v' hf
  simp only [Env.find] at hf
  have hsz : d < a.tmps.size := by omega
  cases hb : Nat.beq d d' with
  | true =>
    have e := Nat.eq_of_beq_eq_true hb
    subst e
    rw [hb] at hf
    simp only [Option.some.injEq, Prod.mk.injEq] at hf
    obtain ⟨rfl, rfl⟩ := hf
    simp [Act.put, Array.getD_eq_getD_getElem?, hsz]
  | false =>
    rw [hb] at hf
    have hne : d ≠ d' := by
      intro e
      rw [e, Nat.beq_refl] at hb
      cases hb
    rw [← h3 d' c' v' hf]
    simp [Act.put, Array.getD_eq_getD_getElem?, Array.getElem?_setIfInBounds, hne]
theorem Fits.put_none {cx : Cx} {e : Env} {a : Act} (h : Fits cx e a) {v : Value} : Fits cx e (a.put none v) := h
/-- A slot whose value is not wanted any more. -/
theorem Fits.sub {cx : Cx} {e e' : Env} {a : Act} (h : Fits cx e a) (hs : ∀ d c v, Env.find e' d = some (c, v) → Env.find e d = some (c, v)) : Fits cx e' a := ⟨h.1, h.2.1, fun d c v hf => h.2.2 d c v (hs d c v hf)⟩

def opd (e : Env) : Operand → Option (Bool × Value)
  | .tmp t => Env.find e t
  | .const v => some (true, v)
  | .global g => some (true, .pointer (some ⟨g, 0, none⟩))
  | .func f => some (true, .func (.func f) #[] #[])

theorem opd_eval {cx : Cx} {e : Env} {a : Act} (h : Fits cx e a) {x : Operand} {c : Bool} {v : Value} (ho : opd e x = some (c, v)) (hc : c = true) : a.eval x = v := by
  subst hc
  cases x with
  | tmp t => exact h.2.2 t true v ho
  | const u => simp only [opd, Option.some.injEq, Prod.mk.injEq] at ho; exact ho.2
  | global g => simp only [opd, Option.some.injEq, Prod.mk.injEq] at ho; exact ho.2
  | func g => simp only [opd, Option.some.injEq, Prod.mk.injEq] at ho; exact ho.2

/-- Under which condition an operation is carried out. -/
def gcond (e : Env) (ops : List Oper) : Option (Nat × Bool) → Option Bool
  | none => some true
  | some (j, want) => match ops[j]? with
    | some o => match o.dst with
      | some d => match Env.find e d with
        | some (c, .bool b) => some (c && (b == want))
        | _ => none
      | none => none
    | none => none

theorem wanted_of {cx : Cx} {e : Env} {a : Act} (h : Fits cx e a) {ops : List Oper} {o : Oper} {g : Bool} (hg : gcond e ops o.guard = some g) : Region.wanted o (yielded ops.toArray a.tmps) = g := by
  unfold Region.wanted
  cases hgu : o.guard with
  | none => rw [hgu] at hg; simpa [gcond] using hg
  | some jw =>
    obtain ⟨j, want⟩ := jw
    rw [hgu] at hg
    simp only [gcond] at hg
    cases ho' : ops[j]? with
    | none => rw [ho'] at hg; cases hg
    | some o' =>
    rw [ho'] at hg
    cases hd : o'.dst with
    | none => simp only [hd] at hg; cases hg
    | some d =>
    simp only [hd] at hg
    cases hf : Env.find e d with
    | none => rw [hf] at hg; cases hg
    | some cb =>
    obtain ⟨c, b0⟩ := cb
    rw [hf] at hg
    cases b0 <;> first | (simp only [] at hg; cases hg; done) | skip
    rename_i b
    have hv := h.2.2 d c _ hf
    simp only [Option.some.injEq] at hg
    subst hg
    have hy : yielded ops.toArray a.tmps j = if c then some b else none := by
      unfold yielded
      have hs : ((ops.toArray[j]?).bind (·.dst)) = some d := by simp [ho', hd]
      rw [hs]
      simp only [Option.bind_some]
      cases hd2 : a.tmps[d]? with
      | none =>
        simp only [Array.getD_eq_getD_getElem?, hd2, Option.getD_none] at hv
        cases c <;> simp [cval, undef] at hv ⊢
      | some u =>
        simp only [Array.getD_eq_getD_getElem?, hd2, Option.getD_some] at hv
        subst hv
        cases c <;> simp [cval, undef]
    show (yielded ops.toArray a.tmps j == some want) = (c && (b == want))
    rw [hy]
    cases c <;> cases b <;> cases want <;> rfl

/-! ### 3. Memory: assertions with a footprint -/
structure HP where
  holds : World → (Nat → Prop) → Prop
  move : ∀ {w w' : World} {F : Nat → Prop}, holds w F → (∀ k, F k → w'.heap[k]? = w.heap[k]?) → holds w' F
  live : ∀ {w : World} {F : Nat → Prop} {k : Nat}, holds w F → F k → k < w.heap.size

def Sats : List HP → World → (Nat → Prop) → Prop
  | [], _, _ => True
  | A :: r, w, F => ∃ F1 F2 : Nat → Prop, (∀ k, F1 k → F k) ∧ (∀ k, F2 k → F k) ∧ (∀ k, F1 k → ¬ F2 k) ∧ A.holds w F1 ∧ Sats r w F2

theorem Sats.mono : ∀ {L : List HP} {w : World} {F F' : Nat → Prop}, Sats L w F → (∀ k, F k → F' k) → Sats L w F'
  | [], _, _, _, _, _ => trivial
  | _ :: _, _, _, _, ⟨F1, F2, h1, h2, h3, h4, h5⟩, h => ⟨F1, F2, fun k hk => h k (h1 k hk), fun k hk => h k (h2 k hk), h3, h4, h5⟩
theorem Sats.move : ∀ {L : List HP} {w w' : World} {F : Nat → Prop}, Sats L w F → (∀ k, F k → w'.heap[k]? = w.heap[k]?) → Sats L w' F
  | [], _, _, _, _, _ => trivial
  | A :: _, _, _, _, ⟨F1, F2, h1, h2, h3, h4, h5⟩, h => ⟨F1, F2, h1, h2, h3, A.move h4 (fun k hk => h k (h1 k hk)), h5.move (fun k hk => h k (h2 k hk))⟩
/-- The footprint may be taken as that of the parts alone: live blocks. -/
theorem Sats.live : ∀ {L : List HP} {w : World} {F : Nat → Prop}, Sats L w F → ∃ F', (∀ k, F' k → F k ∧ k < w.heap.size) ∧ Sats L w F'
  | [], _, _, _ => ⟨fun _ => False, fun _ h => h.elim, trivial⟩
  | A :: _, _, _, ⟨F1, F2, h1, h2, h3, h4, h5⟩ => by
    obtain ⟨F3, g1, g2⟩ := h5.live
    refine ⟨fun k => F1 k ∨ F3 k, ?_, F1, F3, fun k hk => .inl hk, fun k hk => .inr hk, fun k hk hk' => h3 k hk (g1 k hk').1, h4, g2⟩
    rintro k (hk | hk)
    · exact ⟨h1 k hk, A.live h4 hk⟩
    · exact ⟨h2 k (g1 k hk).1, (g1 k hk).2⟩

/-- L without its entry A. -/
inductive Rem : HP → List HP → List HP → Prop
  | here {A : HP} {L : List HP} : Rem A (A :: L) L
  | there {A B : HP} {L L' : List HP} (h : Rem A L L') : Rem A (B :: L) (B :: L')

theorem Sats.rem {A : HP} {L L' : List HP} (h : Rem A L L') : ∀ {w : World} {F : Nat → Prop}, Sats L w F → Sats (A :: L') w F := by
  induction h with
  | here => exact fun h => h
  | @there B L L' h ih =>
    rintro w F ⟨F1, F2, h1, h2, h3, h4, h5⟩
    obtain ⟨G1, G2, g1, g2, g3, g4, g5⟩ := ih h5
    exact ⟨G1, fun k => F1 k ∨ G2 k, fun k hk => h2 k (g1 k hk), fun k hk => hk.elim (h1 k) (fun hk => h2 k (g2 k hk)),
      fun k hk hk' => hk'.elim (fun hk' => h3 k hk' (g1 k hk)) (g3 k hk), g4, F1, G2, fun k hk => .inl hk, fun k hk => .inr hk, fun k hk hk' => h3 k hk (g2 k hk'), h4, g5⟩
/-- L1 out of L: what is left is L2. -/
inductive Rems : List HP → List HP → List HP → Prop
  | nil {L : List HP} : Rems [] L L
  | cons {A : HP} {L1 L L' L2 : List HP} (h : Rem A L L') (h' : Rems L1 L' L2) : Rems (A :: L1) L L2
theorem Sats.rems {L1 L L2 : List HP} (h : Rems L1 L L2) : ∀ {w : World} {F : Nat → Prop}, Sats L w F → Sats (L1 ++ L2) w F := by
  induction h with
  | nil => exact fun h => h
  | @cons A L1 L L' L2 h h' ih =>
    intro w F hs
    obtain ⟨F1, F2, h1, h2, h3, h4, h5⟩ := hs.rem h
    exact ⟨F1, F2, h1, h2, h3, h4, ih h5⟩
theorem Sats.split : ∀ {L1 L2 : List HP} {w : World} {F : Nat → Prop}, Sats (L1 ++ L2) w F → ∃ F1 F2 : Nat → Prop, (∀ k, F1 k → F k) ∧ (∀ k, F2 k → F k) ∧ (∀ k, F1 k → ¬ F2 k) ∧ Sats L1 w F1 ∧ Sats L2 w F2
  | [], _, _, F, h => ⟨fun _ => False, F, fun _ h => h.elim, fun _ h => h, fun _ h => h.elim, trivial, h⟩
  | _ :: _, _, _, _, ⟨F1, F2, h1, h2, h3, h4, h5⟩ => by
    obtain ⟨G1, G2, g1, g2, g3, g4, g5⟩ := h5.split
    exact ⟨fun k => F1 k ∨ G1 k, G2, fun k hk => hk.elim (h1 k) (fun hk => h2 k (g1 k hk)), fun k hk => h2 k (g2 k hk), fun k hk hk' => hk.elim (fun hk => h3 k hk (g2 k hk')) (fun hk => g3 k hk hk'),
      ⟨F1, G1, fun k hk => .inl hk, fun k hk => .inr hk, fun k hk hk' => h3 k hk (g1 k hk'), h4, g4⟩, g5⟩
theorem Sats.join : ∀ {L1 L2 : List HP} {w : World} {F1 F2 F : Nat → Prop}, Sats L1 w F1 → Sats L2 w F2 → (∀ k, F1 k → F k) → (∀ k, F2 k → F k) → (∀ k, F1 k → ¬ F2 k) → Sats (L1 ++ L2) w F
  | [], _, _, _, _, _, _, h2, _, h, _ => h2.mono h
  | _ :: _, _, _, _, _, _, ⟨G1, G2, g1, g2, g3, g4, g5⟩, h2, a, b, c =>
    ⟨G1, fun k => G2 k ∨ _, fun k hk => a k (g1 k hk), fun k hk => hk.elim (fun hk => a k (g2 k hk)) (b k), fun k hk hk' => hk'.elim (g3 k hk) (c k (g1 k hk)), g4,
      Sats.join g5 h2 (fun k hk => .inl hk) (fun k hk => .inr hk) (fun k hk hk' => c k (g2 k hk) hk')⟩

/-- From w0 on: blocks of w0 outside S are as they were. -/
structure Mod (S : Nat → Prop) (w0 w : World) : Prop where
  os : w.os = w0.os
  tape : w.tape = w0.tape
  output : w.output = w0.output
  size : w0.heap.size ≤ w.heap.size
  block : ∀ k, k < w0.heap.size → ¬ S k → w.heap[k]? = w0.heap[k]?
theorem Mod.refl (S : Nat → Prop) (w : World) : Mod S w w := ⟨rfl, rfl, rfl, Nat.le_refl _, fun _ _ _ => rfl⟩
theorem Mod.trans {S S' : Nat → Prop} {w0 w w' : World} (h : Mod S w0 w) (k : Mod S' w w') (hs : ∀ b, S' b → S b ∨ w0.heap.size ≤ b) : Mod S w0 w' :=
  ⟨k.os.trans h.os, k.tape.trans h.tape, k.output.trans h.output, Nat.le_trans h.size k.size, fun b hb hn => (k.block b (Nat.lt_of_lt_of_le hb h.size) (fun hs' => (hs b hs').elim hn (fun h1 => by omega))).trans (h.block b hb hn)⟩
theorem Mod.of_below {w w' : World} (h : Below w.heap.size w w') (S : Nat → Prop) : Mod S w w' := ⟨h.os, h.tape, h.output, h.size, fun k hk _ => h.block k hk⟩
theorem Mod.below {w w' : World} {S : Nat → Prop} (h : Mod S w w') (hS : ∀ k, ¬ S k) : Below w.heap.size w w' := ⟨h.os, h.tape, h.output, h.size, fun k hk => h.block k hk (hS k)⟩

structure St (w0 : World) (S : Nat → Prop) (L : List HP) (w : World) : Prop where
  mod : Mod S w0 w
  sat : ∃ F : Nat → Prop, (∀ k, F k → k < w.heap.size ∧ (S k ∨ w0.heap.size ≤ k)) ∧ Sats L w F

/-- Nothing owned, nothing to be written. -/
def noS : Nat → Prop := fun _ => False
theorem St.nil (w : World) : St w noS [] w := ⟨Mod.refl _ _, fun _ => False, fun _ h => h.elim, trivial⟩
theorem St.below {w0 w : World} {L : List HP} (h : St w0 noS L w) : Below w0.heap.size w0 w := h.mod.below (fun _ h => h)
theorem St.rems {w0 w : World} {S : Nat → Prop} {L1 L L2 : List HP} (h : St w0 S L w) (hr : Rems L1 L L2) : St w0 S (L1 ++ L2) w := ⟨h.mod, let ⟨F, a, b⟩ := h.sat; ⟨F, a, b.rems hr⟩⟩
theorem St.drop {w0 w : World} {S : Nat → Prop} {L1 L2 : List HP} (h : St w0 S (L1 ++ L2) w) : St w0 S L1 w := ⟨h.mod, by
  obtain ⟨F, a, b⟩ := h.sat
  obtain ⟨F1, F2, h1, _, _, h4, _⟩ := b.split
  exact ⟨F1, fun k hk => a k (h1 k hk), h4⟩⟩
theorem St.drop1 {w0 w : World} {S : Nat → Prop} {A : HP} {L2 : List HP} (h : St w0 S (A :: L2) w) : St w0 S L2 w := ⟨h.mod, by
  obtain ⟨F, a, F1, F2, h1, h2, _, _, h5⟩ := h.sat
  exact ⟨F2, fun k hk => a k (h2 k hk), h5⟩⟩
/-- What needs no memory of the call's own. -/
theorem St.head {w0 w : World} {S : Nat → Prop} {A : HP} {L : List HP} (h : St w0 S (A :: L) w) : ∃ F, A.holds w F := by
  obtain ⟨F, a, F1, F2, h1, h2, _, h4, h5⟩ := h.sat
  exact ⟨F1, h4⟩

/-- THE FRAME: a part of what is owned is handed to a callee. -/
theorem St.frame {w0 w w' : World} {S : Nat → Prop} {L1 L2 L1' : List HP} (h : St w0 S (L1 ++ L2) w) :
    ∃ S1 : Nat → Prop, St w S1 L1 w ∧ (∀ k, S1 k → S k ∨ w0.heap.size ≤ k) ∧ ∀ w' L1', St w S1 L1' w' → St w0 S (L1' ++ L2) w' := by
  obtain ⟨F, hF, hs⟩ := h.sat
  obtain ⟨F1, F2, h1, h2, h3, h4, h5⟩ := hs.split
  refine ⟨F1, ⟨Mod.refl _ _, F1, fun k hk => ⟨(hF k (h1 k hk)).1, .inl hk⟩, h4⟩, fun k hk => (hF k (h1 k hk)).2, ?_⟩
  intro w' L1' h'
  obtain ⟨G, hG, hs'⟩ := h'.sat
  have hm : Mod S w0 w' := h.mod.trans h'.mod (fun k hk => (hF k (h1 k hk)).2)
  refine ⟨hm, fun k => G k ∨ F2 k, ?_, ?_⟩
  · rintro k (hk | hk)
    · refine ⟨(hG k hk).1, ?_⟩
      rcases (hG k hk).2 with h6 | h6
      · exact (hF k (h1 k h6)).2
      · exact .inr (Nat.le_trans h.mod.size h6)
    · exact ⟨Nat.lt_of_lt_of_le (hF k (h2 k hk)).1 h'.mod.size, (hF k (h2 k hk)).2⟩
  · refine Sats.join hs' (h5.move (fun k hk => ?_)) (fun k hk => .inl hk) (fun k hk => .inr hk) (fun k hk hk' => ?_)
    · exact h'.mod.block k (hF k (h2 k hk)).1 (fun hk' => h3 k hk' hk)
    · rcases (hG k hk).2 with h6 | h6
      · exact h3 k h6 hk'
      · exact absurd (hF k (h2 k hk')).1 (by omega)

/-- A fact that outlives whatever is done outside S. -/
def Stable (w0 : World) (S : Nat → Prop) (φ : World → Prop) : Prop := ∀ w, Mod S w0 w → φ w
theorem Stable.at_ {w0 w : World} {S : Nat → Prop} {φ : World → Prop} {L : List HP} (h : Stable w0 S φ) (hs : St w0 S L w) : φ w := h w hs.mod
theorem Stable.from_ {w0 w : World} {S S1 : Nat → Prop} {φ : World → Prop} {L : List HP} (h : Stable w0 S φ) (hs : St w0 S L w) (h1 : ∀ k, S1 k → S k ∨ w0.heap.size ≤ k) : Stable w S1 φ :=
  fun w' hw' => h w' (hs.mod.trans hw' h1)
theorem Stable.of_below {w0 : World} {φ : World → Prop} (h : ∀ w, Below w0.heap.size w0 w → φ w) : Stable w0 noS φ := fun w hw => h w (hw.below (fun _ h => h))

/-! the assertions -/
def HP.blk (b : Nat) (o : Obj) : HP where
  holds w F := (∀ k, F k → k = b) ∧ F b ∧ w.heap[b]? = some o
  move := fun ⟨h1, h2, h3⟩ hm => ⟨h1, h2, (hm b h2).trans h3⟩
  live := fun ⟨h1, h2, h3⟩ hk => by rw [h1 _ hk]; exact (Array.getElem?_eq_some_iff.1 h3).1
def HP.pure (φ : Prop) : HP where
  holds w F := (∀ k, ¬ F k) ∧ φ
  move := fun h _ => h
  live := fun h hk => (h.1 _ hk).elim
def HP.ex {α : Type} (A : α → HP) : HP where
  holds w F := ∃ x, (A x).holds w F
  move := fun ⟨x, h⟩ hm => ⟨x, (A x).move h hm⟩
  live := fun ⟨x, h⟩ hk => (A x).live h hk
def HP.star (L : List HP) : HP where
  holds w F := (∀ k, F k → k < w.heap.size) ∧ Sats L w F
  move := fun {w w' F} ⟨h1, h2⟩ hm => ⟨fun k hk => by
    have := hm k hk
    have h := h1 k hk
    rcases Nat.lt_or_ge k w'.heap.size with h' | h'
    · exact h'
    · rw [Array.getElem?_eq_none h', eq_comm, Array.getElem?_eq_none_iff] at this; omega, h2.move hm⟩
  live := fun ⟨h1, _⟩ hk => h1 _ hk

theorem St.star {w0 w : World} {S : Nat → Prop} {L L2 : List HP} : St w0 S (HP.star L :: L2) w ↔ St w0 S (L ++ L2) w := by
  constructor
  · rintro ⟨hm, F, hF, F1, F2, h1, h2, h3, ⟨_, h4⟩, h5⟩
    exact ⟨hm, F, hF, Sats.join h4 h5 h1 h2 h3⟩
  · rintro ⟨hm, F, hF, hs⟩
    obtain ⟨F1, F2, h1, h2, h3, h4, h5⟩ := hs.split
    exact ⟨hm, F, hF, F1, F2, h1, h2, h3, ⟨fun k hk => (hF k (h1 k hk)).1, h4⟩, h5⟩
theorem St.ex {w0 w : World} {S : Nat → Prop} {α : Type} {A : α → HP} {L2 : List HP} : St w0 S (HP.ex A :: L2) w ↔ ∃ x, St w0 S (A x :: L2) w := by
  constructor
  · rintro ⟨hm, F, hF, F1, F2, h1, h2, h3, ⟨x, h4⟩, h5⟩
    exact ⟨x, hm, F, hF, F1, F2, h1, h2, h3, h4, h5⟩
  · rintro ⟨x, hm, F, hF, F1, F2, h1, h2, h3, h4, h5⟩
    exact ⟨hm, F, hF, F1, F2, h1, h2, h3, ⟨x, h4⟩, h5⟩
theorem St.pure {w0 w : World} {S : Nat → Prop} {φ : Prop} {L2 : List HP} : St w0 S (HP.pure φ :: L2) w ↔ φ ∧ St w0 S L2 w := by
  constructor
  · rintro ⟨hm, F, hF, F1, F2, h1, h2, h3, h4, h5⟩
    exact ⟨h4.2, hm, F2, fun k hk => hF k (h2 k hk), h5⟩
  · rintro ⟨hφ, hm, F, hF, hs⟩
    exact ⟨hm, F, hF, fun _ => False, F, fun _ h => h.elim, fun _ h => h, fun _ h => h.elim, ⟨fun _ h => h, hφ⟩, hs⟩

theorem St.blk_at {w0 w : World} {S : Nat → Prop} {b : Nat} {o : Obj} {L L' : List HP} (h : St w0 S L w) (hr : Rem (HP.blk b o) L L') : w.heap[b]? = some o := by
  obtain ⟨F, hF, hs⟩ := h.sat
  obtain ⟨F1, F2, h1, h2, h3, h4, h5⟩ := hs.rem hr
  exact h4.2.2

theorem St.drew {w0 w : World} {S : Nat → Prop} {L : List HP} (h : St w0 S L w) (n : Nat) : St w0 S L { w with drawn := n } := by
  obtain ⟨F, hF, hs⟩ := h.sat
  exact ⟨⟨h.mod.os, h.mod.tape, h.mod.output, h.mod.size, h.mod.block⟩, F, hF, hs.move (fun _ _ => rfl)⟩

/-- A new block. -/
theorem St.alloc {w0 w : World} {S : Nat → Prop} {L : List HP} (h : St w0 S L w) (o : Obj) : w0.heap.size ≤ w.heap.size ∧ St w0 S (HP.blk w.heap.size o :: L) (w.alloc o) := by
  refine ⟨h.mod.size, ?_⟩
  obtain ⟨F, hF, hs⟩ := h.sat
  have hb : Below w.heap.size w (w.alloc o) := (Below.refl _ w).alloc (Nat.le_refl _) o
  refine ⟨h.mod.trans (Mod.of_below hb noS) (fun _ h => h.elim), fun k => k = w.heap.size ∨ F k, ?_, fun k => k = w.heap.size, F, fun k hk => .inl hk, fun k hk => .inr hk, ?_, ?_, hs.move (fun k hk => hb.block k (hF k hk).1)⟩
  · rintro k (rfl | hk)
    · exact ⟨by simp, .inr h.mod.size⟩
    · exact ⟨by have := (hF k hk).1; simp; omega, (hF k hk).2⟩
  · rintro k rfl hk
    exact absurd (hF _ hk).1 (by omega)
  · exact ⟨fun _ h => h, rfl, by show (w.heap.push o)[w.heap.size]? = _; simp⟩

/-- A block of the call's own is written. -/
theorem St.write {w0 w w' : World} {S : Nat → Prop} {b : Nat} {o o' : Obj} {L L' : List HP} (h : St w0 S L w) (hr : Rem (HP.blk b o) L L')
    (h1 : w'.os = w.os) (h2 : w'.tape = w.tape) (h3 : w'.output = w.output) (h4 : w'.heap.size = w.heap.size) (h5 : ∀ k, k ≠ b → w'.heap[k]? = w.heap[k]?) (h6 : w'.heap[b]? = some o') : St w0 S (HP.blk b o' :: L') w' := by
  obtain ⟨F, hF, hs⟩ := h.sat
  obtain ⟨F1, F2, g1, g2, g3, g4, g5⟩ := hs.rem hr
  refine ⟨⟨h1.trans h.mod.os, h2.trans h.mod.tape, h3.trans h.mod.output, by rw [h4]; exact h.mod.size, fun k hk hn => ?_⟩, F, fun k hk => by rw [h4]; exact hF k hk, F1, F2, g1, g2, g3, ⟨g4.1, g4.2.1, h6⟩, g5.move (fun k hk => ?_)⟩
  · by_cases e : k = b
    · subst e
      rcases (hF k (g1 k g4.2.1)).2 with h7 | h7
      · exact absurd h7 hn
      · omega
    · exact (h5 k e).trans (h.mod.block k hk hn)
  · refine h5 k (fun e => ?_)
    subst e
    exact g3 k g4.2.1 hk
end Go.X
