/- The rules of the walk's frame: control, plain operations, memory, calls. Over any program. -/
import Derived.Test.YtgegppbjpaeljaaDoorA
set_option linter.unusedVariables false
set_option linter.unusedSimpArgs false
namespace Go.X
open Go.RowKit

def X (cx : Cx) (k : List Item) (e : Env) (σ : World → Prop) (R : Ending → World → Prop) : Prop := ∀ a w, Fits cx e a → σ w → Run cx.P cx.f k a w R
/-! ### a region in any order, the reads first -/
/-- It turns the world (or may). -/
def loud (o : Oper) : Bool :=
  match o.op with
  | .alloc _ | .box _ _ | .store _ _ _ | .buildSlice _ _ _ | .makeSlice _ _ _ | .mapUpdate _ _ _ _ | .makeMap _ _ | .panic _ => true
  | .call c => (match c.callee with | .builtin .append => true | .builtin .copy => true | .builtin _ => false | _ => true)
  | _ => false
/-- It is carried out in its place: it turns the world, or is told to be. -/
def ld (fs : List Nat) (o : Oper) : Bool := loud o || (match o.dst with | some d => fs.contains d | none => false)
def QK0 (P : Program) (f : Fr) (k : List Item) (R : Ending → World → Prop) : Exit → Act → World → Prop
  | .normal, a, w => Run P f k a w R
  | .exit id, a, w => ∃ k', exitTo id k = some k' ∧ Run P f k' a w R
  | .panic chain, a, w => f.rnd = none ∧ a.defers = [] ∧ R (.panicked chain) w ∧ ∃ fn, P.funcs[f.f]? = some fn
  | .outgrown, _, w => f.rnd = none ∧ R .outgrown w
  | _, _, _ => False
theorem QK0.up {P : Program} {f : Fr} {k : List Item} {R : Ending → World → Prop} : ∀ {e : Exit} {a : Act} {w : World}, QK0 P f k R e a w → QK P f k R e a w
  | .normal, _, _, h => h
  | .exit _, _, _, h => h
  | .panic _, _, _, h => ⟨h.1, .inl h.2⟩
  | .outgrown, _, _, h => h
  | .goto _, _, _, h => h
  | .ret, _, _, h => h
def permL (l : List Oper) : List Nat → List Oper
  | [] => []
  | i :: r => l.getD i default :: permL l r
theorem wpOp_up {P : Program} {ops : Array Oper} {Q Q1 : Exit → Act → World → Prop} (hQ : ∀ e a w, Q e a w → Q1 e a w) {i : Nat} {K : Act → World → Prop} {a : Act} {w : World} (h : wpOp P ops Q i K a w) : wpOp P ops Q1 i K a w := by
  have hl : LetsOut Q → LetsOut Q1 := fun ⟨a, w, h⟩ => ⟨a, w, hQ _ _ _ h⟩
  unfold wpOp at *
  cases ho : ops[i]? with
  | none => rw [ho] at h; exact h
  | some o =>
    rw [ho] at h
    simp only at h ⊢
    split
    · rename_i hw
      rw [if_pos hw] at h
      rcases h with h | ⟨h1, h2⟩
      · refine .inl ?_
        unfold Oper.wp at *
        generalize (execOp a.eval o).run P w = r at *
        cases r with
        | ok n w' =>
          cases n <;> simp only [Oper.upon] at h ⊢ <;> first | exact h | exact Calls.mono h (fun e w'' he => by cases e <;> first | exact he | exact hQ _ _ _ he | exact hl he)
        | halt x w' => cases x <;> simp only [Oper.upon] at h ⊢ <;> exact hQ _ _ _ h
      · exact .inr ⟨h1, hl h2⟩
    · rename_i hw
      rw [if_neg hw] at h
      exact h
/-- The first part of a region, in whatever order, S behind every operation; then Fin. -/
def wpAnyT (P : Program) (ops : Array Oper) (Q : Exit → Act → World → Prop) (S : World → Prop) (tl : Nat → Bool) (Fin : Array Bool → Act → World → Prop) : Nat → Array Bool → Act → World → Prop
  | 0, listed, a, w => (∀ j, j ∈ Region.ready .any ops listed → tl j = true) ∧ Fin listed a w
  | n + 1, listed, a, w => Region.ready .any ops listed ≠ [] ∧ ∀ i, i ∈ Region.ready .any ops listed → wpOp P ops Q i (fun a' w' => S w' ∧ wpAnyT P ops Q S tl Fin n (listed.setIfInBounds i true) a' w') a w
section
variable {P : Program} {ops : Array Oper} {Q Q1 : Exit → Act → World → Prop} {S : World → Prop} {tl : Nat → Bool} {Fin : Array Bool → Act → World → Prop}
theorem wpAnyT.any {m : Nat} (hQ : ∀ e a w, Q e a w → Q1 e a w) (hF : ∀ listed a w, Fin listed a w → wpAny P .any ops Q1 m listed a w) : ∀ (n : Nat) (listed : Array Bool) (a : Act) (w : World), wpAnyT P ops Q S tl Fin n listed a w → wpAny P .any ops Q1 (n + m) listed a w
  | 0, _, _, _, h => by rw [Nat.zero_add]; exact hF _ _ _ h.2
  | n + 1, _, _, _, h => by
    rw [Nat.add_right_comm]
    exact ⟨fun h0 => absurd h0 h.1, fun i hi => wpOp_up hQ (wpOp_mono (fun a' w' h' => wpAnyT.any hQ hF n _ a' w' h'.2) (h.2 i hi))⟩
/-- A read of the first part may be taken first. -/
theorem wpAnyT.first {i : Nat} {o : Oper} {v : Value} (hi : ops[i]? = some o) (hsel : ∀ (j : Nat) (o : Oper) cs b, ops[j]? = some o → o.op ≠ .select cs b)
    (hQ : ∀ c a w, Q (.panic c) (a.put o.dst v) w → Q (.panic c) a w) (hbar : ∀ j oj, ops[j]? = some oj → tl j = true → ∃ e, e ∈ oj.after ∧ Region.binds .any e = true ∧ e.on = i) : ∀ (n : Nat) (listed : Array Bool) (a : Act) (w : World),
      (∀ j oj, ops[j]? = some oj → j ≠ i → listed.getD j true = false → (∀ e ∈ oj.after, Region.binds .any e = true → e.on ≠ i) → o.apart ops oj = true) →
      i ∈ Region.ready .any ops listed → YieldsIf P ops S o v a → S w → wpAnyT P ops Q S tl Fin n (listed.setIfInBounds i true) (a.put o.dst v) w → wpAnyT P ops Q S tl Fin (n + 1) listed a w := by
  intro n
  induction n with
  | zero =>
    intro listed a w _ hr hy hS H
    refine ⟨fun h => (by rw [h] at hr; cases hr), fun j hj => ?_⟩
    by_cases hji : j = i
    · subst hji
      exact hy.wpOp hi hS ⟨hS, H⟩
    · have h1 := H.1 j (ready_mono hj hji)
      obtain ⟨hjun, oj, hoj, hall⟩ := mem_ready.1 hj
      obtain ⟨e, he, hb, heq⟩ := hbar j oj hoj h1
      have h2 := hall e he hb
      have h0 := (mem_ready.1 hr).1
      rw [heq] at h2
      rcases Nat.lt_or_ge i listed.size with h' | h'
      · simp [h'] at h0 h2; rw [h0] at h2; cases h2
      · simp [Array.getElem?_eq_none h'] at h2
  | succ n ih =>
    intro listed a w hfree hr hy hS H
    refine ⟨fun h => (by rw [h] at hr; cases hr), fun j hj => ?_⟩
    by_cases hji : j = i
    · subst hji
      exact hy.wpOp hi hS ⟨hS, H⟩
    · obtain ⟨hjun, oj, hoj, hall⟩ := mem_ready.1 hj
      have hnot : ∀ e ∈ oj.after, Region.binds .any e = true → e.on ≠ i := fun e he hb heq => by
        have h1 := hall e he hb
        have h0 := (mem_ready.1 hr).1
        rw [heq] at h1
        rcases Nat.lt_or_ge i listed.size with h' | h'
        · simp [h'] at h0 h1; rw [h0] at h1; cases h1
        · simp [Array.getElem?_eq_none h'] at h1
      have h2 := wpOp_putIf hoj (hfree j oj hoj hji hjun hnot) (fun cs b => hsel i o cs b hi) (fun cs b => hsel j oj cs b hoj) hQ hy (H.2 j (ready_mono hj hji))
      have hfree' : ∀ k ok, ops[k]? = some ok → k ≠ i → (listed.setIfInBounds j true).getD k true = false → (∀ e ∈ ok.after, Region.binds .any e = true → e.on ≠ i) → o.apart ops ok = true := fun k ok hk hki hun hno => by
        refine hfree k ok hk hki ?_ hno
        by_cases hjk : j = k
        · subst hjk; exact hjun
        · rw [getD_set_ne true hjk] at hun; exact hun
      refine wpOp_mono (fun a' w' h3 => ⟨h3.2.1, ih (listed.setIfInBounds j true) a' w' hfree' (ready_mono hr (Ne.symm hji)) h3.1 h3.2.1 ?_⟩) h2
      rw [Array.setIfInBounds_comm _ _ hji]
      exact h3.2.2
end
/-- The last operations come in one order. -/
def tailB (ops : Array Oper) : List Nat → Array Bool → Bool
  | [], listed => (Region.ready .any ops listed).isEmpty
  | i :: r, listed => Region.ready .any ops listed == [i] && (ops[i]?).isSome && tailB ops r (listed.setIfInBounds i true)
theorem tail_sound {P : Program} {l0 : List Oper} {Q : Exit → Act → World → Prop} : ∀ (τ : List Nat) (listed : Array Bool) (a : Act) (w : World), tailB l0.toArray τ listed = true → wpList P l0.toArray Q (permL l0 τ) a w → wpAny P .any l0.toArray Q τ.length listed a w
  | [], listed, a, w, hB, h => ⟨by simpa [tailB] using hB, h⟩
  | i :: r, listed, a, w, hB, h => by
    simp only [tailB, Bool.and_eq_true, beq_iff_eq] at hB
    obtain ⟨⟨hr, hs⟩, hB⟩ := hB
    cases ho : l0.toArray[i]? with
    | none => rw [ho] at hs; cases hs
    | some o =>
      have hg : l0.getD i default = o := by
        have : l0[i]? = some o := by simpa using ho
        simp [List.getD, this]
      simp only [permL, hg] at h
      refine ⟨fun h0 => (by rw [hr] at h0; cases h0), fun j hj => ?_⟩
      rw [hr] at hj
      obtain rfl := List.mem_singleton.1 hj
      unfold wpList at h
      unfold wpOp
      simp only [ho]
      split
      · rename_i hw
        rw [if_pos hw] at h
        exact h.imp (Oper.wp_mono fun a' w' h' => tail_sound r _ a' w' hB h') id
      · rename_i hw
        rw [if_neg hw] at h
        exact tail_sound r _ _ _ hB h
def wpPerm (P : Program) (ops : Array Oper) (Q Q1 : Exit → Act → World → Prop) (S : World → Prop) (fs : List Nat) (tail : List Oper) : List Oper → Act → World → Prop
  | [], a, w => wpList P ops Q1 tail a w
  | o :: r, a, w => (∃ v, YieldsIf P ops S o v a ∧ wpPerm P ops Q Q1 S fs tail r (a.put o.dst v) w) ∨
      (ld fs o = true ∧ (if Region.wanted o (yielded ops a.tmps) then o.wp P a w (fun a' w' => S w' ∧ wpPerm P ops Q Q1 S fs tail r a' w') Q else wpPerm P ops Q Q1 S fs tail r (a.put o.dst undef) w))
def barB (ops : Array Oper) (τ : List Nat) (i : Nat) : Bool := τ.all fun j => match ops[j]? with
  | some oj => oj.after.any fun e => Region.binds .any e && Nat.beq e.on i
  | none => true
def permB (ops : Array Oper) (fs τ : List Nat) : List Nat → Array Bool → Bool
  | [], listed => (Region.ready .any ops listed).all (fun j => τ.contains j) && tailB ops τ listed
  | i :: r, listed => (match ops[i]? with
      | some o => (match ld fs o with | true => Region.ready .any ops listed == [i] | false => (Region.ready .any ops listed).contains i && Region.free .any ops listed i && barB ops τ i)
      | none => false) && permB ops fs τ r (listed.setIfInBounds i true)
theorem wpPerm_sound {P : Program} {l0 : List Oper} {fs τ : List Nat} {Q Q1 : Exit → Act → World → Prop} {S : World → Prop} (hsel : Region.noSelect l0.toArray = true) (hQ : ∀ (o : Oper) v c a w, Q (.panic c) (a.put o.dst v) w → Q (.panic c) a w) :
    ∀ (π : List Nat) (listed : Array Bool) (a : Act) (w : World), permB l0.toArray fs τ π listed = true → S w → wpPerm P l0.toArray Q Q1 S fs (permL l0 τ) (permL l0 π) a w → wpAnyT P l0.toArray Q S (fun j => τ.contains j) (fun listed a w => tailB l0.toArray τ listed = true ∧ wpList P l0.toArray Q1 (permL l0 τ) a w) π.length listed a w
  | [], listed, a, w, hB, _, h => by
    simp only [permB, Bool.and_eq_true, List.all_eq_true] at hB
    exact ⟨hB.1, hB.2, h⟩
  | i :: r, listed, a, w, hB, hS, h => by
    simp only [permB, Bool.and_eq_true] at hB
    obtain ⟨hi, hB⟩ := hB
    cases ho : l0.toArray[i]? with
    | none => rw [ho] at hi; cases hi
    | some o =>
      simp only [ho] at hi
      have hg : l0.getD i default = o := by
        have : l0[i]? = some o := by simpa using ho
        simp [List.getD, this]
      simp only [permL, hg] at h
      have ih := wpPerm_sound (P := P) (S := S) (fs := fs) (τ := τ) (Q1 := Q1) hsel hQ r (listed.setIfInBounds i true)
      cases hl : ld fs o with
      | true =>
        simp only [hl] at hi
        have hr : Region.ready .any l0.toArray listed = [i] := by simpa using hi
        refine ⟨by rw [hr]; simp, fun j hj => ?_⟩
        rw [hr] at hj
        obtain rfl := List.mem_singleton.1 hj
        rcases h with ⟨v, hy, h⟩ | ⟨_, h⟩
        · exact hy.wpOp ho hS ⟨hS, ih _ _ hB hS h⟩
        · unfold wpOp
          simp only [ho]
          split
          · rename_i hw
            rw [if_pos hw] at h
            exact .inl (Oper.wp_mono (fun a' w' h' => ⟨h'.1, ih _ _ hB h'.1 h'.2⟩) h)
          · rename_i hw
            rw [if_neg hw] at h
            exact ⟨hS, ih _ _ hB hS h⟩
      | false =>
        simp only [hl] at hi
        simp only [Bool.and_eq_true] at hi
        obtain ⟨⟨hi1, hi2⟩, hi3⟩ := hi
        rcases h with ⟨v, hy, h⟩ | ⟨h, _⟩
        · refine wpAnyT.first ho (Region.noSelect_spec hsel) (hQ o v) ?_ _ listed a w (Region.free_spec ho hi2) (by simpa using hi1) hy hS (ih _ _ hB hS h)
          intro j oj hj htl
          have h5 := List.all_eq_true.1 hi3 j (by simpa using htl)
          simp only [hj, Array.any_eq_true, Bool.and_eq_true] at h5
          obtain ⟨q, hq, h6, h7⟩ := h5
          exact ⟨_, Array.getElem_mem hq, h6, Nat.eq_of_beq_eq_true h7⟩
        · rw [hl] at h; cases h
def permOk (l : List Oper) (fs τ π : List Nat) : Bool := Region.noSelect l.toArray && Nat.beq (π.length + τ.length) l.length && permB l.toArray fs τ π (Array.replicate l.length false)
theorem wp_of_perm {P : Program} {id : Nat} {l : List Oper} {Q0 Q1 : Exit → Act → World → Prop} {S : World → Prop} {a : Act} {w : World} (fs τ π : List Nat) (hm : P.follows .mixedOrders = true) (hB : permOk l fs τ π = true) (hQ : ∀ (o : Oper) v c a w, Q0 (.panic c) (a.put o.dst v) w → Q0 (.panic c) a w) (hup : ∀ e a w, Q0 e a w → Q1 e a w) (hS : S { w with drawn := w.drawn + 1 })
    (h : wpPerm P l.toArray Q0 Q1 S fs (permL l τ) (permL l π) a { w with drawn := w.drawn + 1 }) : (Code.region id l.toArray true).wp P Q1 a w := by
  simp only [permOk, Bool.and_eq_true] at hB
  obtain ⟨⟨h1, h2⟩, h3⟩ := hB
  have hlen := Nat.eq_of_beq_eq_true h2
  have h4 := wpPerm_sound (P := P) (Q := Q0) (Q1 := Q1) (S := S) h1 hQ π _ a _ h3 hS h
  have h5 := wpAnyT.any (m := τ.length) (Q1 := Q1) hup (fun listed a w h => tail_sound τ listed a w h.1 h.2) _ _ _ _ h4
  rw [hlen] at h5
  exact wp_region_any hm (by simpa using h5)
theorem run_of_perm {cx : Cx} {id : Nat} {l : List Oper} {k : List Item} {R : Ending → World → Prop} {S : World → Prop} {a : Act} {w : World} (fs τ π : List Nat) (hm : cx.P.follows .mixedOrders = true) (hnd : cx.f.rnd = none ∨ noDefer l = true) (hB : permOk l fs τ π = true) (hS : S { w with drawn := w.drawn + 1 })
    (h : wpPerm cx.P l.toArray (QK0 cx.P cx.f k R) (QK cx.P cx.f k R) S fs (permL l τ) (permL l π) a { w with drawn := w.drawn + 1 }) : Run cx.P cx.f (.code (.region id l.toArray true) :: k) a w R := by
  simp only [permOk, Bool.and_eq_true] at hB
  obtain ⟨⟨h1, h2⟩, h3⟩ := hB
  have hlen := Nat.eq_of_beq_eq_true h2
  have h4 := wpPerm_sound (P := cx.P) (Q := QK0 cx.P cx.f k R) (Q1 := QK cx.P cx.f k R) (S := S) h1 (fun o v c a w hq => by cases hd : o.dst <;> simpa [QK0, Act.put, hd] using hq) π _ a _ h3 hS h
  have h5 := wpAnyT.any (m := τ.length) (Q1 := QK cx.P cx.f k R) (fun _ _ _ h => h.up) (fun listed a w h => tail_sound τ listed a w h.1 h.2) _ _ _ _ h4
  rw [hlen] at h5
  exact Run.of_any hm hnd (by simpa using h5)

/-- How a region is gone through: in its order; in any order, the world standing still, then its last operations in their order; in any order, quietly. -/
inductive Md where
  | seq
  | still (tail : List Oper)
  | quiet
  | held (fs : List Nat) (tail : List Oper) (ρ : World → Prop)
  | inn
def Md.calls : Md → Prop
  | .still _ => False
  | .held _ _ _ => False
  | .inn => False
  | _ => True
def XO (cx : Cx) (md : Md) (ops l : List Oper) (k : List Item) (e : Env) (σ : World → Prop) (R : Ending → World → Prop) : Prop :=
  match md with
  | .seq => ∀ a w, Fits cx e a → σ w → wpList cx.P ops.toArray (QK cx.P cx.f k R) l a w
  | .still tail => ∀ a w, Fits cx e a → σ w → wpStill cx.P ops.toArray w (fun a' => wpList cx.P ops.toArray (QK cx.P cx.f k R) tail a' w) l a
  | .quiet => ∀ a, Fits cx e a → wpQuiet cx.P ops.toArray σ (fun a' => ∀ w', σ w' → QK cx.P cx.f k R .normal a' w') l a
  | .held fs tail ρ => ∀ a w, Fits cx e a → ρ w → σ w → wpPerm cx.P ops.toArray (QK0 cx.P cx.f k R) (QK cx.P cx.f k R) σ fs tail l a w
  | .inn => ∀ a w, Fits cx e a → σ w → wpListIn Fence.wide 0 cx.P ops.toArray (QK cx.P cx.f k R) l a w

section
variable {cx : Cx} {k : List Item} {e : Env} {σ σ' : World → Prop} {R : Ending → World → Prop}

/-! ### control -/
theorem X.skip (h : X cx k e σ R) : X cx (.code .skip :: k) e σ R := fun a w hf hs => (h a w hf hs).skip
theorem X.seq {x y : Code} (h : X cx (.code x :: .code y :: k) e σ R) : X cx (.code (.seq x y) :: k) e σ R := fun a w hf hs => (h a w hf hs).seq
theorem X.block {id : Nat} {c : Code} (h : X cx (.code c :: .inBlock id :: k) e σ R) : X cx (.code (.block id c) :: k) e σ R := fun a w hf hs => (h a w hf hs).block
theorem X.inBlock {id : Nat} (h : X cx k e σ R) : X cx (.inBlock id :: k) e σ R := fun a w hf hs => (h a w hf hs).inBlock
theorem X.exit {id : Nat} {k' : List Item} (hk : exitTo id k = some k') (h : X cx k' e σ R) : X cx (.code (.exit id) :: k) e σ R := fun a w hf hs => (h a w hf hs).exit hk
theorem X.cond {c : Operand} {x y : Code} {t : Bool} (hc : opd e c = some (true, .bool t)) (ht : t = true → X cx (.code x :: k) e σ R) (hf : t = false → X cx (.code y :: k) e σ R) : X cx (.code (.cond c x y) :: k) e σ R := by
  intro a w hfit hs
  refine Run.cond (opd_eval hfit hc rfl) ?_
  cases t with
  | true => exact ht rfl a w hfit hs
  | false => exact hf rfl a w hfit hs
theorem X.condT {c : Operand} {x y : Code} {t : Bool} (hc : opd e c = some (true, .bool t)) (h : t = true) (ht : X cx (.code x :: k) e σ R) : X cx (.code (.cond c x y) :: k) e σ R := X.cond hc (fun _ => ht) (fun h' => by rw [h] at h'; cases h')
theorem X.condF {c : Operand} {x y : Code} {t : Bool} (hc : opd e c = some (true, .bool t)) (h : t = false) (hf : X cx (.code y :: k) e σ R) : X cx (.code (.cond c x y) :: k) e σ R := X.cond hc (fun h' => by rw [h] at h'; cases h') (fun _ => hf)

inductive Sub : Env → Env → Prop
  | nil {e : Env} : Sub [] e
  | cons {x : Ent} {r e : Env} {v : Value} (hf : Env.find e x.d = some (x.c, v)) (hv : v = x.v) (h : Sub r e) : Sub (x :: r) e
theorem Sub.find {e' e : Env} (h : Sub e' e) : ∀ d c v, Env.find e' d = some (c, v) → Env.find e d = some (c, v) := by
  induction h with
  | nil => intro d c v hf; cases hf
  | @cons x r e v hf hv h ih =>
    intro d c v' h'
    obtain ⟨xd, xc, xv⟩ := x
    dsimp only at hf hv
    simp only [Env.find] at h'
    cases hb : Nat.beq xd d with
    | true =>
      rw [hb] at h'
      have := Nat.eq_of_beq_eq_true hb
      subst this
      simp only [Option.some.injEq, Prod.mk.injEq] at h'
      obtain ⟨rfl, rfl⟩ := h'
      rw [hf, hv]
    | false => rw [hb] at h'; exact ih d c v' h'
theorem X.sub {e' : Env} (hs : Sub e' e) (h : X cx k e' σ R) : X cx k e σ R := fun a w hf hw => h a w (hf.sub hs.find) hw
theorem X.st (hs : ∀ w, σ w → σ' w) (h : X cx k e σ' R) : X cx k e σ R := fun a w hf hw => h a w hf (hs w hw)
theorem X.stE {α : Type} {φ : α → Prop} {σ' : α → World → Prop} (hs : ∀ w, σ w → ∃ x, φ x ∧ σ' x w) (h : ∀ x, φ x → X cx k e (σ' x) R) : X cx k e σ R :=
  fun a w hf hw => let ⟨x, hx, hw'⟩ := hs w hw; h x hx a w hf hw'
/-- What holds of the memory may be used. -/
theorem X.fact {φ : Prop} (hs : ∀ w, σ w → φ) (h : φ → X cx k e σ R) : X cx k e σ R := fun a w hf hw => h (hs w hw) a w hf hw

theorem X.loop {c : Code} {γ : Type} (φ : γ → Prop) (E : γ → Env) (σ' : γ → World → Prop) (μ : γ → Nat) (x0 : γ) (h0 : φ x0) (hE : Sub (E x0) e) (hσ : ∀ w, σ w → σ' x0 w)
    (round : ∀ x, φ x → (∀ x', φ x' → μ x' < μ x → X cx (.inLoop c :: k) (E x') (σ' x') R) → X cx (.code c :: .inLoop c :: k) (E x) (σ' x) R) : X cx (.code (.loop c) :: k) e σ R := by
  have key : ∀ n x, μ x = n → φ x → X cx (.code c :: .inLoop c :: k) (E x) (σ' x) R := by
    intro n
    induction n using Nat.strongRecOn with
    | _ n ih =>
      intro x hn hx
      exact round x hx (fun x' hx' hlt a w hf hs => (ih (μ x') (hn ▸ hlt) x' rfl hx' a w hf hs).inLoop)
  intro a w hf hs
  exact (key _ x0 rfl h0 a w (hf.sub hE.find) (hσ w hs)).step (fun _ _ _ => stepR_loop)

theorem X.region {id : Nat} {l : List Oper} (h : XO cx .seq l l k e σ R) (hnd : cx.f.rnd = none ∨ noDefer l = true := by first | exact .inl rfl | exact .inr rfl) : X cx (.code (.region id l.toArray false) :: k) e σ R :=
  fun a w hf hs => Run.of_list hnd (h a w hf hs)

theorem X.ret0 {fn : Func} (hf : cx.P.funcs[cx.f.f]? = some fn) (hR : ∀ w, σ w → R (.returned (.tuple #[])) w) (hd : cx.ds = [] := by rfl) (hnr : cx.f.rnd = none := by rfl) (hr : fn.results = #[] := by rfl) : X cx (.code .ret :: k) e σ R :=
  fun a w hfit hs => Run.ret hnr hf (hfit.2.1.trans hd) (results_none hr _ _ _) (hR w hs)
theorem X.fin0 {fn : Func} (hf : cx.P.funcs[cx.f.f]? = some fn) (hR : ∀ w, σ w → R (.returned (.tuple #[])) w) (hd : cx.ds = [] := by rfl) (hnr : cx.f.rnd = none := by rfl) (hr : fn.results = #[] := by rfl) : X cx [] e σ R :=
  fun a w hfit hs => Run.fin hnr hf (hfit.2.1.trans hd) (results_none hr _ _ _) (hR w hs)
theorem X.ret1 {fn : Func} {t : Nat} {v : Value} (hf : cx.P.funcs[cx.f.f]? = some fn) (hR : ∀ w, σ w → R (.returned v) w) (hd : cx.ds = [] := by rfl) (hnr : cx.f.rnd = none := by rfl) (hr : fn.results = #[.tmp t] := by rfl) (hv : Env.find e t = some (true, v) := by rfl) : X cx (.code .ret :: k) e σ R :=
  fun a w hfit hs => Run.ret hnr hf (hfit.2.1.trans hd) (by rw [results_tmp hr, show a.tmps.getD t undef = v from hfit.2.2 t true v hv]) (hR w hs)
theorem X.ret2 {fn : Func} {t u : Nat} {v v2 : Value} (hf : cx.P.funcs[cx.f.f]? = some fn) (hR : ∀ w, σ w → R (.returned (.tuple #[v, v2])) w) (hd : cx.ds = [] := by rfl) (hnr : cx.f.rnd = none := by rfl) (hr : fn.results = #[.tmp t, .tmp u] := by rfl) (hv : Env.find e t = some (true, v) := by rfl) (hv2 : Env.find e u = some (true, v2) := by rfl) : X cx (.code .ret :: k) e σ R :=
  fun a w hfit hs => Run.ret hnr hf (hfit.2.1.trans hd) (by rw [results_tmp2 hr, show a.tmps.getD t undef = v from hfit.2.2 t true v hv, show a.tmps.getD u undef = v2 from hfit.2.2 u true v2 hv2]) (hR w hs)

/-- A round's end. -/
theorem X.finR {l : Nat} (hR : ∀ w, σ w → R (.returned (.tuple #[])) w) (hnr : cx.f.rnd = some l := by rfl) : X cx [] e σ R := fun a w _ hs => Run.finR hnr (hR w hs)

def argEnv : Nat → List Value → Env
  | _, [] => []
  | i, v :: r => ⟨i, true, v⟩ :: argEnv (i + 1) r
theorem argEnv_find : ∀ (vs : List Value) (i d : Nat) (c : Bool) (v : Value), Env.find (argEnv i vs) d = some (c, v) → c = true ∧ i ≤ d ∧ vs[d - i]? = some v
  | [], _, _, _, _, h => by cases h
  | u :: r, i, d, c, v, h => by
    simp only [argEnv, Env.find] at h
    cases hb : Nat.beq i d with
    | true =>
      rw [hb] at h
      have := Nat.eq_of_beq_eq_true hb
      subst this
      simp only [Option.some.injEq, Prod.mk.injEq] at h
      obtain ⟨rfl, rfl⟩ := h
      simp
    | false =>
      rw [hb] at h
      obtain ⟨h1, h2, h3⟩ := argEnv_find r (i + 1) d c v h
      refine ⟨h1, by omega, ?_⟩
      rw [show d - i = (d - (i + 1)) + 1 from by omega]
      simpa using h3

theorem calls_of_X {fn : Func} {c : Code} {w : World} (cx : Cx) (args : List Value) (hf : cx.P.funcs[cx.f.f]? = some fn) (hσ : σ w) (h : X cx [.code c] (argEnv 0 args) σ R) (hb : fn.body = some c := by rfl) (hn : fn.ntmps = cx.n := by rfl) (hd : cx.ds = [] := by rfl) (hl0 : Nat.ble args.length cx.n = true := by rfl) (hnr : cx.f.rnd = none := by rfl) :
    Calls cx.P cx.f.f args.toArray w R := by
  have hl := Nat.le_of_ble_eq_true hl0
  refine calls_of_run hnr hf hb (h _ w ⟨?_, hd.symm, ?_⟩ hσ)
  · simp; omega
  · intro d c v hfind
    obtain ⟨rfl, _, h3⟩ := argEnv_find args 0 d c v hfind
    have hlt : d < args.length := (List.getElem?_eq_some_iff.1 (by simpa using h3)).1
    have h3' : args[d] = v := (List.getElem?_eq_some_iff.1 (by simpa using h3)).2
    have hlt' : d < (args.toArray ++ Array.replicate (fn.ntmps - args.toArray.size) undef).size := by simp; omega
    simp [Array.getD_eq_getD_getElem?, cval, Array.getElem?_append, hlt, h3']

/-! ### operations that give a value and leave the world alone -/
def OpV (cx : Cx) (e : Env) (g : Bool) (σ : World → Prop) (o : Oper) (v : Value) : Prop := ∀ a w, Fits cx e a → g = true → σ w → (execOp a.eval o).run cx.P w = .ok (.value v) w

variable {ops rest : List Oper} {o : Oper} {g : Bool} {d : Nat} {v : Value}
theorem XO.nil (h : X cx k e σ R) : XO cx .seq ops [] k e σ R := fun a w hf hs => h a w hf hs
theorem XO.nilS {tail : List Oper} (h : XO cx .seq ops tail k e σ R) : XO cx (.still tail) ops [] k e σ R := fun a w hf hs => h a w hf hs
theorem XO.nilH {fs : List Nat} {tail : List Oper} {ρ : World → Prop} (h : XO cx .seq ops tail k e ρ R) : XO cx (.held fs tail ρ) ops [] k e σ R := fun a w hf hρ _ => h a w hf hρ
theorem XO.nilQ (h : X cx k e σ R) : XO cx .quiet ops [] k e σ R := fun a hf w hs => h a w hf hs
theorem XO.val {md : Md} (hg : gcond e ops o.guard = some g) (hd : o.dst = some d) (hn : Nat.ble (d + 1) cx.n = true) (hv : OpV cx e g σ o v) (next : XO cx md ops rest k (⟨d, g, v⟩ :: e) σ R) : XO cx md ops (o :: rest) k e σ R := by
  have hn' : d < cx.n := Nat.le_of_ble_eq_true hn
  cases md with
  | seq =>
    intro a w hf hs
    have hw := wanted_of hf hg
    cases g with
    | true =>
      have hr := hv a w hf rfl hs
      have hnext := next (a.put (some d) v) w (hf.put (c := true) hn') hs
      unfold wpList
      rw [if_pos hw]
      refine .inl ?_
      unfold Oper.wp
      rw [hr, Oper.upon_value, hd]
      exact hnext
    | false =>
      have hnext := next (a.put (some d) undef) w (hf.put (c := false) hn') hs
      unfold wpList
      rw [if_neg (by rw [hw]; simp), hd]
      exact hnext
  | still tail =>
    intro a w hf hs
    have hw := wanted_of hf hg
    cases g with
    | true =>
      have hr := hv a w hf rfl hs
      have hnext := next (a.put (some d) v) w (hf.put (c := true) hn') hs
      unfold wpStill
      rw [if_pos hw]
      unfold Oper.still
      rw [hr, Oper.stillUpon_value, hd]
      exact hnext
    | false =>
      have hnext := next (a.put (some d) undef) w (hf.put (c := false) hn') hs
      unfold wpStill
      rw [if_neg (by rw [hw]; simp), hd]
      exact hnext
  | quiet =>
    intro a hf
    have hw := wanted_of hf hg
    cases g with
    | true =>
      have hnext := next (a.put (some d) v) (hf.put (c := true) hn')
      unfold wpQuiet
      rw [if_pos hw]
      refine ⟨v, fun w hs => ?_, by rw [hd]; exact hnext⟩
      unfold Oper.quietAt
      rw [hv a w hf rfl hs]
      exact ⟨rfl, rfl⟩
    | false =>
      have hnext := next (a.put (some d) undef) (hf.put (c := false) hn')
      unfold wpQuiet
      rw [if_neg (by rw [hw]; simp), hd]
      exact hnext
  | held fs tail ρ =>
    intro a w hf hρ hs
    have hw := wanted_of hf hg
    unfold wpPerm
    cases g with
    | true =>
      have hnext := next (a.put (some d) v) w (hf.put (c := true) hn') hρ hs
      exact .inl ⟨v, .inl ⟨hw, fun w' hs' => hv a w' hf rfl hs'⟩, by rw [hd]; exact hnext⟩
    | false =>
      have hnext := next (a.put (some d) undef) w (hf.put (c := false) hn') hρ hs
      exact .inl ⟨undef, .inr ⟨hw, rfl⟩, by rw [hd]; exact hnext⟩
  | inn =>
    intro a w hf hs
    have hw := wanted_of hf hg
    unfold wpListIn
    cases g with
    | true =>
      have hnext := next (a.put (some d) v) w (hf.put (c := true) hn') hs
      rw [if_pos hw]
      refine ⟨fun _ _ => trivial, ?_⟩
      rw [show o.semAt Fence.wide.round a.eval = execOp a.eval o from rfl, hv a w hf rfl hs, Oper.uponIn_value, hd]
      exact hnext
    | false =>
      have hnext := next (a.put (some d) undef) w (hf.put (c := false) hn') hs
      rw [if_neg (by rw [hw]; simp), hd]
      exact ⟨fun _ _ => trivial, hnext⟩
/-- An operation that is passed over. -/
theorem XO.pass {md : Md} (hg : gcond e ops o.guard = some g) (h0 : g = false) (hd : o.dst = some d) (hn : Nat.ble (d + 1) cx.n = true) (next : XO cx md ops rest k (⟨d, false, undef⟩ :: e) σ R) : XO cx md ops (o :: rest) k e σ R := by
  subst h0
  refine XO.val (v := undef) hg hd hn (fun _ _ _ h => by cases h) next
theorem XO.sub {md : Md} {e' : Env} (hs : Sub e' e) (h : XO cx md ops rest k e' σ R) : XO cx md ops rest k e σ R := by
  cases md with
  | seq => exact fun a w hf hw => h a w (hf.sub hs.find) hw
  | still tail => exact fun a w hf hw => h a w (hf.sub hs.find) hw
  | quiet => exact fun a hf => h a (hf.sub hs.find)
  | held fs tail ρ => exact fun a w hf hρ hw => h a w (hf.sub hs.find) hρ hw
  | inn => exact fun a w hf hw => h a w (hf.sub hs.find) hw
theorem XO.st (hs : ∀ w, σ w → σ' w) (h : XO cx .seq ops rest k e σ' R) : XO cx .seq ops rest k e σ R := fun a w hf hw => h a w hf (hs w hw)
theorem XO.stE {α : Type} {φ : α → Prop} {σ' : α → World → Prop} (hs : ∀ w, σ w → ∃ x, φ x ∧ σ' x w) (h : ∀ x, φ x → XO cx .seq ops rest k e (σ' x) R) : XO cx .seq ops rest k e σ R :=
  fun a w hf hw => let ⟨x, hx, hw'⟩ := hs w hw; h x hx a w hf hw'
/-- An operation that turns the world: what its run comes to. -/
theorem XO.eff {α : Type} {φ : α → Prop} {vo : α → Value} {σ' : α → World → Prop} (hg : gcond e ops o.guard = some g) (h1 : g = true) (hd : o.dst = some d) (hn : Nat.ble (d + 1) cx.n = true)
    (hrun : ∀ a w, Fits cx e a → σ w → ∃ x w', φ x ∧ (execOp a.eval o).run cx.P w = .ok (.value (vo x)) w' ∧ σ' x w') (next : ∀ x, φ x → XO cx .seq ops rest k (⟨d, true, vo x⟩ :: e) (σ' x) R) : XO cx .seq ops (o :: rest) k e σ R := by
  intro a w hf hs
  subst h1
  have hw := wanted_of hf hg
  obtain ⟨x, w', hx, hr, hs'⟩ := hrun a w hf hs
  have hnext := next x hx (a.put (some d) (vo x)) w' (hf.put (c := true) (Nat.le_of_ble_eq_true hn)) hs'
  unfold wpList
  rw [if_pos hw]
  refine .inl ?_
  unfold Oper.wp
  rw [hr, Oper.upon_value, hd]
  exact hnext
/-- A statement's operation without a value. -/
theorem XO.eff0 {α : Type} {φ : α → Prop} {σ' : α → World → Prop} (hg : gcond e ops o.guard = some g) (h1 : g = true) (hd : o.dst = none)
    (hrun : ∀ a w, Fits cx e a → σ w → ∃ x w', φ x ∧ (execOp a.eval o).run cx.P w = .ok .skip w' ∧ σ' x w') (next : ∀ x, φ x → XO cx .seq ops rest k e (σ' x) R) : XO cx .seq ops (o :: rest) k e σ R := by
  intro a w hf hs
  subst h1
  have hw := wanted_of hf hg
  obtain ⟨x, w', hx, hr, hs'⟩ := hrun a w hf hs
  have hnext := next x hx a w' hf hs'
  unfold wpList
  rw [if_pos hw]
  refine .inl ?_
  unfold Oper.wp
  rw [hr, Oper.upon_skip, hd]
  exact hnext
theorem XO.call {α : Type} {φ : α → Prop} {vo : α → Value} {σ' : α → World → Prop} {fid : FuncId} {args : List Value} (hg : gcond e ops o.guard = some g) (h1 : g = true) (hd : o.dst = some d) (hn : Nat.ble (d + 1) cx.n = true)
    (hrun : ∀ a w, Fits cx e a → (execOp a.eval o).run cx.P w = .ok (.enter fid args.toArray) w)
    (hc : ∀ w, σ w → Calls cx.P fid args.toArray w (fun en w' => ∃ x, φ x ∧ en = .returned (vo x) ∧ σ' x w')) (next : ∀ x, φ x → XO cx .seq ops rest k (⟨d, true, vo x⟩ :: e) (σ' x) R) : XO cx .seq ops (o :: rest) k e σ R := by
  intro a w hf hs
  subst h1
  have hw := wanted_of hf hg
  unfold wpList
  rw [if_pos hw]
  refine .inl ?_
  unfold Oper.wp
  rw [hrun a w hf]
  refine (hc w hs).mono ?_
  rintro en w' ⟨x, hx, rfl, hs'⟩
  rw [hd]
  exact next x hx (a.put (some d) (vo x)) w' (hf.put (c := true) (Nat.le_of_ble_eq_true hn)) hs'
/-- A call that may end in a panic, too. -/
theorem XO.callP {α : Type} {φ : α → Prop} {vo : α → Value} {σ' : α → World → Prop} {fid : FuncId} {args : List Value} {ψ : List PanicEntry → World → Prop} {fn : Func} (hnr : cx.f.rnd = none) (hg : gcond e ops o.guard = some g) (h1 : g = true) (hd : o.dst = some d) (hn : Nat.ble (d + 1) cx.n = true) (hds : cx.ds = []) (hfn : cx.P.funcs[cx.f.f]? = some fn)
    (hrun : ∀ a w, Fits cx e a → (execOp a.eval o).run cx.P w = .ok (.enter fid args.toArray) w)
    (hc : ∀ w, σ w → Calls cx.P fid args.toArray w (fun en w' => (∃ x, φ x ∧ en = .returned (vo x) ∧ σ' x w') ∨ (∃ ch, en = .panicked ch ∧ ψ ch w')))
    (hp : ∀ ch w, ψ ch w → R (.panicked ch) w) (next : ∀ x, φ x → XO cx .seq ops rest k (⟨d, true, vo x⟩ :: e) (σ' x) R) : XO cx .seq ops (o :: rest) k e σ R := by
  intro a w hf hs
  subst h1
  have hw := wanted_of hf hg
  unfold wpList
  rw [if_pos hw]
  refine .inl ?_
  unfold Oper.wp
  rw [hrun a w hf]
  refine (hc w hs).mono ?_
  rintro en w' (⟨x, hx, rfl, hs'⟩ | ⟨ch, rfl, hψ⟩)
  · rw [hd]
    exact next x hx (a.put (some d) (vo x)) w' (hf.put (c := true) (Nat.le_of_ble_eq_true hn)) hs'
  · exact ⟨hnr, .inl ⟨hf.2.1.trans hds, hp ch w' hψ, fn, hfn⟩⟩
theorem XO.panic {x : Operand} {c : Bool} {t : TypeId} {u : Value} {fn : Func} (hnr : cx.f.rnd = none) (ho : o.op = .panic x) (hg : gcond e ops o.guard = some g) (h1 : g = true) (hx : opd e x = some (c, .iface t u)) (hc : c = true) (hds : cx.ds = []) (hfn : cx.P.funcs[cx.f.f]? = some fn)
    (hR : ∀ w, σ w → R (.panicked [{ v := .iface t u, recovered := false }]) w) : XO cx .seq ops (o :: rest) k e σ R := by
  intro a w hf hs
  subst h1
  have hw := wanted_of hf hg
  unfold wpList
  rw [if_pos hw]
  refine .inl ?_
  have hr : (execOp a.eval o).run cx.P w = .halt (.panic (.iface t u)) w := by
    simp [execOp, ho, opd_eval hf hx hc, Instr.panic]
  unfold Oper.wp
  rw [hr]
  exact ⟨hnr, .inl ⟨hf.2.1.trans hds, hR w hs, fn, hfn⟩⟩
/-- In a region in any order: an operation that turns the world, and leaves what the reads lean on. -/
theorem XO.effH {α : Type} {φ : α → Prop} {vo : α → Value} {fs : List Nat} {tail : List Oper} {ρ : World → Prop} {ρ' : α → World → Prop} (hg : gcond e ops o.guard = some g) (h1 : g = true) (hd : o.dst = some d) (hn : Nat.ble (d + 1) cx.n = true) (hl : ld fs o = true)
    (hrun : ∀ a w, Fits cx e a → ρ w → ∃ x w', φ x ∧ (execOp a.eval o).run cx.P w = .ok (.value (vo x)) w' ∧ ρ' x w') (hσ : ∀ x w, φ x → ρ' x w → σ w) (next : ∀ x, φ x → XO cx (.held fs tail (ρ' x)) ops rest k (⟨d, true, vo x⟩ :: e) σ R) : XO cx (.held fs tail ρ) ops (o :: rest) k e σ R := by
  intro a w hf hρ hs
  subst h1
  have hw := wanted_of hf hg
  obtain ⟨x, w', hx, hr, hs'⟩ := hrun a w hf hρ
  have hnext := next x hx (a.put (some d) (vo x)) w' (hf.put (c := true) (Nat.le_of_ble_eq_true hn)) hs' (hσ x w' hx hs')
  unfold wpPerm
  refine .inr ⟨hl, ?_⟩
  rw [if_pos hw]
  unfold Oper.wp
  rw [hr, Oper.upon_value, hd]
  exact ⟨hσ x w' hx hs', hnext⟩
theorem XO.effH0 {α : Type} {φ : α → Prop} {fs : List Nat} {tail : List Oper} {ρ : World → Prop} {ρ' : α → World → Prop} (hg : gcond e ops o.guard = some g) (h1 : g = true) (hd : o.dst = none) (hl : ld fs o = true)
    (hrun : ∀ a w, Fits cx e a → ρ w → ∃ x w', φ x ∧ (execOp a.eval o).run cx.P w = .ok .skip w' ∧ ρ' x w') (hσ : ∀ x w, φ x → ρ' x w → σ w) (next : ∀ x, φ x → XO cx (.held fs tail (ρ' x)) ops rest k e σ R) : XO cx (.held fs tail ρ) ops (o :: rest) k e σ R := by
  intro a w hf hρ hs
  subst h1
  have hw := wanted_of hf hg
  obtain ⟨x, w', hx, hr, hs'⟩ := hrun a w hf hρ
  have hnext := next x hx a w' hf hs' (hσ x w' hx hs')
  unfold wpPerm
  refine .inr ⟨hl, ?_⟩
  rw [if_pos hw]
  unfold Oper.wp
  rw [hr, Oper.upon_skip, hd]
  exact ⟨hσ x w' hx hs', hnext⟩
theorem XO.callH {α : Type} {φ : α → Prop} {vo : α → Value} {fs : List Nat} {tail : List Oper} {ρ : World → Prop} {ρ' : α → World → Prop} {fid : FuncId} {args : List Value} (hg : gcond e ops o.guard = some g) (h1 : g = true) (hd : o.dst = some d) (hn : Nat.ble (d + 1) cx.n = true) (hl : ld fs o = true)
    (hrun : ∀ a w, Fits cx e a → (execOp a.eval o).run cx.P w = .ok (.enter fid args.toArray) w)
    (hc : ∀ w, ρ w → Calls cx.P fid args.toArray w (fun en w' => ∃ x, φ x ∧ en = .returned (vo x) ∧ ρ' x w')) (hσ : ∀ x w, φ x → ρ' x w → σ w) (next : ∀ x, φ x → XO cx (.held fs tail (ρ' x)) ops rest k (⟨d, true, vo x⟩ :: e) σ R) : XO cx (.held fs tail ρ) ops (o :: rest) k e σ R := by
  intro a w hf hρ hs
  subst h1
  have hw := wanted_of hf hg
  unfold wpPerm
  refine .inr ⟨hl, ?_⟩
  rw [if_pos hw]
  unfold Oper.wp
  rw [hrun a w hf]
  refine (hc w hρ).mono ?_
  rintro en w' ⟨x, hx, rfl, hs'⟩
  rw [hd]
  exact ⟨hσ x w' hx hs', next x hx (a.put (some d) (vo x)) w' (hf.put (c := true) (Nat.le_of_ble_eq_true hn)) hs' (hσ x w' hx hs')⟩

/-- A read in its place: what it gives hangs on the memory as it is then. -/
theorem XO.valF {fs : List Nat} {tail : List Oper} {ρ : World → Prop} (hg : gcond e ops o.guard = some g) (h1 : g = true) (hd : o.dst = some d) (hn : Nat.ble (d + 1) cx.n = true) (hl : ld fs o = true) (hv : OpV cx e g ρ o v) (next : XO cx (.held fs tail ρ) ops rest k (⟨d, true, v⟩ :: e) σ R) : XO cx (.held fs tail ρ) ops (o :: rest) k e σ R := by
  intro a w hf hρ hs
  subst h1
  have hw := wanted_of hf hg
  have hnext := next (a.put (some d) v) w (hf.put (c := true) (Nat.le_of_ble_eq_true hn)) hρ hs
  unfold wpPerm
  refine .inr ⟨hl, ?_⟩
  rw [if_pos hw]
  unfold Oper.wp
  rw [hv a w hf rfl hρ, Oper.upon_value, hd]
  exact ⟨hs, hnext⟩

/-! ### functions that defer -/
/-- A deferred call is laid by. -/
theorem XO.defer {dc : Deferred} (hg : gcond e ops o.guard = some true) (hd : o.dst = none)
    (hrun : ∀ a w, Fits cx e a → σ w → (execOp a.eval o).run cx.P w = .ok (.defer dc) w) (next : XO ⟨cx.P, cx.f, cx.n, dc :: cx.ds⟩ .seq ops rest k e σ R) : XO cx .seq ops (o :: rest) k e σ R := by
  intro a w hf hs
  have hw := wanted_of hf hg
  have hnext := next { a with defers := dc :: a.defers } w ⟨hf.1, by rw [hf.2.1], hf.2.2⟩ hs
  unfold wpList
  rw [if_pos hw]
  refine .inl ?_
  unfold Oper.wp
  rw [hrun a w hf hs]
  simp only [Oper.upon, hd, Act.put]
  exact hnext
/-- A return of a function that has deferred. -/
theorem X.retD {fn : Func} (hf : cx.P.funcs[cx.f.f]? = some fn) (h : ∀ a w, Fits cx e a → σ w → Leaves cx.P fn a.tmps R cx.ds .returning w) (hnr : cx.f.rnd = none := by rfl) : X cx (.code .ret :: k) e σ R :=
  fun a w hfit hs => Run.retD hnr hf (by rw [hfit.2.1]; exact h a w hfit hs)
/-- A call that may end in a panic, within a function that has deferred. -/
theorem XO.callPD {α : Type} {φ : α → Prop} {vo : α → Value} {σ' : α → World → Prop} {fid : FuncId} {args : List Value} {ψ : List PanicEntry → World → Prop} {fn : Func} (hnr : cx.f.rnd = none) (hg : gcond e ops o.guard = some g) (h1 : g = true) (hd : o.dst = some d) (hn : Nat.ble (d + 1) cx.n = true) (hfn : cx.P.funcs[cx.f.f]? = some fn)
    (hrun : ∀ a w, Fits cx e a → (execOp a.eval o).run cx.P w = .ok (.enter fid args.toArray) w)
    (hc : ∀ w, σ w → Calls cx.P fid args.toArray w (fun en w' => (∃ x, φ x ∧ en = .returned (vo x) ∧ σ' x w') ∨ (∃ ch, en = .panicked ch ∧ ψ ch w')))
    (hp : ∀ ch a w, Fits cx e a → ψ ch w → Leaves cx.P fn a.tmps R cx.ds (.panicking ch) w) (next : ∀ x, φ x → XO cx .seq ops rest k (⟨d, true, vo x⟩ :: e) (σ' x) R) : XO cx .seq ops (o :: rest) k e σ R := by
  intro a w hf hs
  subst h1
  have hw := wanted_of hf hg
  unfold wpList
  rw [if_pos hw]
  refine .inl ?_
  unfold Oper.wp
  rw [hrun a w hf]
  refine (hc w hs).mono ?_
  rintro en w' (⟨x, hx, rfl, hs'⟩ | ⟨ch, rfl, hψ⟩)
  · rw [hd]
    exact next x hx (a.put (some d) (vo x)) w' (hf.put (c := true) (Nat.le_of_ble_eq_true hn)) hs'
  · exact ⟨hnr, .inr ⟨fn, hfn, by rw [hf.2.1]; exact hp ch a w' hf hψ⟩⟩

end

/-! ### what is asked of the program's tables (each by the kernel) -/
def TFlat (P : Program) (t : TypeId) : Prop := ∀ w, (isAgg t).run P w = .ok false w
def TAgg (P : Program) (t : TypeId) (n : Nat) : Prop := (∀ w, (isAgg t).run P w = .ok true w) ∧ ∀ w, (sizeOf t).run P w = .ok n w
def TSize (P : Program) (t : TypeId) (n : Nat) : Prop := ∀ w, (sizeOf t).run P w = .ok n w
def TZero (P : Program) (t : TypeId) (v : Value) : Prop := ∀ w, (zeroValue t).run P w = .ok v w
def TField (P : Program) (s : TypeId) (f off : Nat) : Prop := ∀ a w, (Instr.fieldAt s (.pointer (some a)) f).run P w = .ok (.pointer (some (a.add off))) w
def TSlice (P : Program) (t el : TypeId) (size : Nat) : Prop := (∀ w, (underlying t).run P w = .ok (.slice el) w) ∧ TSize P el size
def TString (P : Program) (t : TypeId) : Prop := ∀ w, (underlying t).run P w = .ok .string w
def TEnters (P : Program) (f : FuncId) : Prop := ∀ args w, (callFunc f args).run P w = .ok (.enter f args) w
def TInt (P : Program) (t : TypeId) (k : IntKind) : Prop := ∀ w, (underlying t).run P w = .ok (.int k) w

/-! ### the plain operations -/
namespace V
variable {cx : Cx} {e : Env} {g : Bool} {σ : World → Prop} {o : Oper} {x y z : Operand} {c c' c'' : Bool} {u v : Value}
theorem move (ho : o.op = .move x) (hx : opd e x = some (c, v)) (hc : g = true → c = true) : OpV cx e g σ o v := by
  intro a w hf hg _
  simp [execOp, ho, opd_eval hf hx (hc hg)]
theorem assign (ho : o.op = .assign x) (hx : opd e x = some (c, v)) (hc : g = true → c = true) : OpV cx e g σ o v := by
  intro a w hf hg _
  simp [execOp, ho, opd_eval hf hx (hc hg)]
/-- 'a || b' -/
theorem pickOr {p q : Bool} (ho : o.op = .pick x y z) (hx : opd e x = some (c, .bool p)) (hy : opd e y = some (c', .bool true)) (hz : opd e z = some (c'', .bool q)) (hc : g = true → c = true) (hc' : g = true → c' = true) (hc'' : g = true → p = false → c'' = true) : OpV cx e g σ o (.bool (p || q)) := by
  intro a w hf hg _
  have h1 := opd_eval hf hx (hc hg)
  have h2 := opd_eval hf hy (hc' hg)
  cases p with
  | true => simp [execOp, ho, h1, h2, asBool]
  | false => simp [execOp, ho, h1, h2, asBool, opd_eval hf hz (hc'' hg rfl)]
/-- 'a && b' -/
theorem pickAnd {p q : Bool} (ho : o.op = .pick x y z) (hx : opd e x = some (c, .bool p)) (hy : opd e y = some (c', .bool q)) (hz : opd e z = some (c'', .bool false)) (hc : g = true → c = true) (hc' : g = true → p = true → c' = true) (hc'' : g = true → c'' = true) : OpV cx e g σ o (.bool (p && q)) := by
  intro a w hf hg _
  have h1 := opd_eval hf hx (hc hg)
  have h2 := opd_eval hf hz (hc'' hg)
  cases p with
  | true => simp [execOp, ho, h1, asBool, opd_eval hf hy (hc' hg rfl)]
  | false => simp [execOp, ho, h1, h2, asBool]
theorem nilCheck {b : Addr} (ho : o.op = .nilCheck x) (hx : opd e x = some (c, .pointer (some b))) (hc : g = true → c = true) : OpV cx e g σ o (.pointer (some b)) := by
  intro a w hf hg _
  simp [execOp, ho, opd_eval hf hx (hc hg)]
section ints
variable {t t' : TypeId} {K : IntKind} {m n : Int}
theorem lss (ho : o.op = .binOp .lss t x y t') (hx : opd e x = some (c, .int K m)) (hy : opd e y = some (c', .int K n)) (hc : g = true → c = true) (hc' : g = true → c' = true) : OpV cx e g σ o (.bool (decide (m < n))) := by
  intro a w hf hg _
  simp [execOp, ho, opd_eval hf hx (hc hg), opd_eval hf hy (hc' hg), eqGuard, binOp, Op.intCmp]
theorem leq (ho : o.op = .binOp .leq t x y t') (hx : opd e x = some (c, .int K m)) (hy : opd e y = some (c', .int K n)) (hc : g = true → c = true) (hc' : g = true → c' = true) : OpV cx e g σ o (.bool (decide (m ≤ n))) := by
  intro a w hf hg _
  simp [execOp, ho, opd_eval hf hx (hc hg), opd_eval hf hy (hc' hg), eqGuard, binOp, Op.intCmp]
theorem gtr (ho : o.op = .binOp .gtr t x y t') (hx : opd e x = some (c, .int K m)) (hy : opd e y = some (c', .int K n)) (hc : g = true → c = true) (hc' : g = true → c' = true) : OpV cx e g σ o (.bool (decide (m > n))) := by
  intro a w hf hg _
  simp [execOp, ho, opd_eval hf hx (hc hg), opd_eval hf hy (hc' hg), eqGuard, binOp, Op.intCmp]
theorem geq (ho : o.op = .binOp .geq t x y t') (hx : opd e x = some (c, .int K m)) (hy : opd e y = some (c', .int K n)) (hc : g = true → c = true) (hc' : g = true → c' = true) : OpV cx e g σ o (.bool (decide (m ≥ n))) := by
  intro a w hf hg _
  simp [execOp, ho, opd_eval hf hx (hc hg), opd_eval hf hy (hc' hg), eqGuard, binOp, Op.intCmp]
theorem eql (ho : o.op = .binOp .eql t x y t') (hx : opd e x = some (c, .int K m)) (hy : opd e y = some (c', .int K n)) (hc : g = true → c = true) (hc' : g = true → c' = true) : OpV cx e g σ o (.bool (decide (m = n))) := by
  intro a w hf hg _
  simp [execOp, ho, opd_eval hf hx (hc hg), opd_eval hf hy (hc' hg), eqGuard, binOp, Op.intCmp]
  exact decide_eq_decide.2 Iff.rfl
theorem neq (ho : o.op = .binOp .neq t x y t') (hx : opd e x = some (c, .int K m)) (hy : opd e y = some (c', .int K n)) (hc : g = true → c = true) (hc' : g = true → c' = true) : OpV cx e g σ o (.bool (!decide (m = n))) := by
  intro a w hf hg _
  simp [execOp, ho, opd_eval hf hx (hc hg), opd_eval hf hy (hc' hg), eqGuard, binOp, Op.intCmp]
  rfl
theorem add {r : Int} (ho : o.op = .binOp .add t x y t') (hx : opd e x = some (c, .int K m)) (hy : opd e y = some (c', .int K n)) (hc : g = true → c = true) (hc' : g = true → c' = true) (hr : g = true → K.wrap (m + n) = r) : OpV cx e g σ o (.int K r) := by
  intro a w hf hg _
  simp [execOp, ho, opd_eval hf hx (hc hg), opd_eval hf hy (hc' hg), eqGuard, binOp, Op.intArith, hr hg]
theorem sub {r : Int} (ho : o.op = .binOp .sub t x y t') (hx : opd e x = some (c, .int K m)) (hy : opd e y = some (c', .int K n)) (hc : g = true → c = true) (hc' : g = true → c' = true) (hr : g = true → K.wrap (m - n) = r) : OpV cx e g σ o (.int K r) := by
  intro a w hf hg _
  simp [execOp, ho, opd_eval hf hx (hc hg), opd_eval hf hy (hc' hg), eqGuard, binOp, Op.intArith, hr hg]
theorem mul {r : Int} (ho : o.op = .binOp .mul t x y t') (hx : opd e x = some (c, .int K m)) (hy : opd e y = some (c', .int K n)) (hc : g = true → c = true) (hc' : g = true → c' = true) (hr : g = true → K.wrap (m * n) = r) : OpV cx e g σ o (.int K r) := by
  intro a w hf hg _
  simp [execOp, ho, opd_eval hf hx (hc hg), opd_eval hf hy (hc' hg), eqGuard, binOp, Op.intArith, hr hg]
end ints
theorem not {p : Bool} {t : TypeId} (ho : o.op = .unOp .not t x) (hx : opd e x = some (c, .bool p)) (hc : g = true → c = true) : OpV cx e g σ o (.bool (!p)) := by
  intro a w hf hg _
  simp [execOp, ho, opd_eval hf hx (hc hg), Op.unary]
theorem fieldAddr {s : TypeId} {f off : Nat} {b : Addr} (ho : o.op = .fieldAddr s x f) (hT : TField cx.P s f off) (hx : opd e x = some (c, .pointer (some b))) (hc : g = true → c = true) : OpV cx e g σ o (.pointer (some (b.add off))) := by
  intro a w hf hg _
  simp [execOp, ho, opd_eval hf hx (hc hg), hT b w]
theorem load {t : TypeId} {p : Addr} (ho : o.op = .load t x) (hT : TFlat cx.P t) (hx : opd e x = some (c, .pointer (some p))) (hc : g = true → c = true) (hcell : g = true → ∀ w, σ w → w.cell? p = some v) : OpV cx e g σ o v := by
  intro a w hf hg hs
  simp [execOp, ho, opd_eval hf hx (hc hg), Instr.loadAt, Instr.sureAddr, loadVar, hT w, hcell hg w hs]
theorem extract {vs : Array Value} {i : Nat} (ho : o.op = .extract x i) (hx : opd e x = some (c, .tuple vs)) (hi : vs[i]? = some v) (hc : g = true → c = true) : OpV cx e g σ o v := by
  intro a w hf hg _
  simp [execOp, ho, opd_eval hf hx (hc hg), Instr.extract, hi]
theorem makeInterface {t : TypeId} (ho : o.op = .makeInterface t x) (hT : ∀ v w, (Instr.makeInterface t v).run cx.P w = .ok (.iface t v) w) (hx : opd e x = some (c, v)) (hc : g = true → c = true) : OpV cx e g σ o (.iface t v) := by
  intro a w hf hg _
  simp [execOp, ho, opd_eval hf hx (hc hg), hT]
theorem indexAddr {t el : TypeId} {size : Nat} {A : Addr} {len cap : Nat} {i : Int} {K : IntKind} (ho : o.op = .indexAddr t x y) (hT : TSlice cx.P t el size) (hx : opd e x = some (c, .slice (some A) len cap)) (hy : opd e y = some (c', .int K i)) (hc : g = true → c = true) (hc' : g = true → c' = true)
    (h0 : g = true → 0 ≤ i) (h1 : g = true → i < len) : OpV cx e g σ o (.pointer (some (A.add (i.toNat * size)))) := by
  intro a w hf hg _
  simp [execOp, ho, opd_eval hf hx (hc hg), opd_eval hf hy (hc' hg), Instr.indexAt, asIntOf, hT.1 w, hT.2 w, h0 hg, h1 hg]
end V
end Go.X
