/- Plans, in plain Lean, no program in sight: what is wrong with one; who needs whom through others; that of a right one something is ready as long as something is left. -/
set_option linter.unusedVariables false
set_option linter.unusedSimpArgs false
namespace Go.X.Pn
abbrev Task := Int × List Int
abbrev Plan := List Task
def tk (p : Plan) (i : Nat) : Task := p.getD i (0, [])
def needs (p : Plan) (i : Nat) : List Int := (tk p i).2
def out (p : Plan) (k : Int) : Bool := decide (k < 0) || decide (k ≥ (p.length : Int))
def incr : List Int → Bool
  | a :: b :: r => decide (a < b) && incr (b :: r)
  | _ => true
def taskF (p : Plan) (t : Task) : Int := if decide (t.1 < 1) || decide (t.1 > 20) || t.2.any (out p) then 1 else if incr t.2 then 0 else 7
def Dep (p : Plan) (a b : Nat) : Prop := (b : Int) ∈ needs p a
inductive TC (p : Plan) : Nat → Nat → Prop
  | one {a b : Nat} (h : Dep p a b) : TC p a b
  | step {a b c : Nat} (h : Dep p a b) (t : TC p b c) : TC p a c
theorem TC.trans {p : Plan} {a b c : Nat} (h : TC p a b) (k : TC p b c) : TC p a c := by
  induction h with
  | one h => exact .step h k
  | step h _ ih => exact .step h (ih k)
open Classical in
noncomputable def cyc (p : Plan) (i : Nat) : Bool := decide (TC p i i)
theorem cyc_iff {p : Plan} {i : Nat} : cyc p i = true ↔ TC p i i := by simp [cyc]
def fault (p : Plan) : Option (Nat × Int) := (List.range p.length).findSome? fun i => if taskF p (tk p i) = 0 then none else some (i, taskF p (tk p i))
noncomputable def checkF (p : Plan) : Nat × Int := if 30 < p.length then (0, 4) else match fault p with
  | some x => x
  | none => match (List.range p.length).find? (cyc p) with
    | some i => (i, 8)
    | none => (0, 0)
noncomputable def rightF (p : Plan) : Int := (checkF p).2

structure Ok (p : Plan) : Prop where
  len : p.length ≤ 30
  task : ∀ i, i < p.length → taskF p (tk p i) = 0
  acyc : ∀ i, i < p.length → ¬ TC p i i
theorem taskF_zero {p : Plan} {t : Task} : taskF p t = 0 ↔ 1 ≤ t.1 ∧ t.1 ≤ 20 ∧ (∀ k ∈ t.2, 0 ≤ k ∧ k < (p.length : Int)) ∧ incr t.2 = true := by
  unfold taskF
  have hany : t.2.any (out p) = false ↔ ∀ k ∈ t.2, 0 ≤ k ∧ k < (p.length : Int) := by
    rw [List.any_eq_false]
    constructor
    · intro h k hk
      have := h k hk
      simp only [out, Bool.or_eq_true, decide_eq_true_eq, not_or] at this
      omega
    · intro h k hk
      have := h k hk
      simp only [out, Bool.or_eq_true, decide_eq_true_eq, not_or]
      omega
  constructor
  · intro h
    split at h
    · omega
    · rename_i h1
      split at h
      · rename_i h2
        simp only [Bool.or_eq_true, decide_eq_true_eq, not_or] at h1
        obtain ⟨⟨a, b⟩, c⟩ := h1
        exact ⟨by omega, by omega, hany.1 (by simpa using c), h2⟩
      · omega
  · rintro ⟨h1, h2, h3, h4⟩
    have h5 := hany.2 h3
    rw [if_neg (by simp only [h5, Bool.or_eq_true, decide_eq_true_eq, not_or]; exact ⟨⟨by omega, by omega⟩, by decide⟩), if_pos h4]
theorem fault_none {p : Plan} : fault p = none ↔ ∀ i, i < p.length → taskF p (tk p i) = 0 := by
  unfold fault
  rw [List.findSome?_eq_none_iff]
  simp only [List.mem_range]
  constructor
  · intro h i hi
    have := h i hi
    split at this
    · assumption
    · cases this
  · intro h i hi
    rw [if_pos (h i hi)]
theorem fault_some {p : Plan} {i : Nat} {e : Int} (h : fault p = some (i, e)) : e ≠ 0 := by
  unfold fault at h
  obtain ⟨j, _, hj⟩ := List.exists_of_findSome?_eq_some h
  split at hj
  · cases hj
  · rename_i h1
    simp only [Option.some.injEq, Prod.mk.injEq] at hj
    rw [← hj.2]
    exact h1
theorem ok_iff {p : Plan} : rightF p = 0 ↔ Ok p := by
  unfold rightF checkF
  constructor
  · intro h
    split at h
    · cases h
    · rename_i h1
      cases hf : fault p with
      | some x =>
        obtain ⟨i, e⟩ := x
        rw [hf] at h
        exact absurd h (fault_some hf)
      | none =>
        rw [hf] at h
        cases hc : (List.range p.length).find? (cyc p) with
        | some i => rw [hc] at h; cases h
        | none =>
          rw [List.find?_eq_none] at hc
          refine ⟨by omega, fault_none.1 hf, fun i hi ht => ?_⟩
          exact hc i (List.mem_range.2 hi) (cyc_iff.2 ht)
  · intro ⟨h1, h2, h3⟩
    rw [if_neg (by omega), fault_none.2 h2]
    have : (List.range p.length).find? (cyc p) = none := by
      rw [List.find?_eq_none]
      intro i hi hc
      exact h3 i (List.mem_range.1 hi) (cyc_iff.1 hc)
    simp only [this]
theorem checkF_ok {p : Plan} (h : Ok p) : checkF p = (0, 0) := by
  unfold checkF
  rw [if_neg (by have := h.len; omega), fault_none.2 h.task]
  have : (List.range p.length).find? (cyc p) = none := by
    rw [List.find?_eq_none]
    intro i hi hc
    exact h.acyc i (List.mem_range.1 hi) (cyc_iff.1 hc)
  simp only [this]
theorem Ok.need {p : Plan} (h : Ok p) {i : Nat} (hi : i < p.length) {k : Int} (hk : k ∈ needs p i) : 0 ≤ k ∧ k < (p.length : Int) := (taskF_zero.1 (h.task i hi)).2.2.1 k hk
theorem Ok.work {p : Plan} (h : Ok p) {i : Nat} (hi : i < p.length) : 1 ≤ (tk p i).1 ∧ (tk p i).1 ≤ 20 := ⟨(taskF_zero.1 (h.task i hi)).1, (taskF_zero.1 (h.task i hi)).2.1⟩
theorem incr_sorted : ∀ {l : List Int}, incr l = true → l.Pairwise (· < ·)
  | [], _ => .nil
  | [a], _ => by simp
  | a :: b :: r, h => by
    simp only [incr, Bool.and_eq_true, decide_eq_true_eq] at h
    have h2 := incr_sorted h.2
    refine List.pairwise_cons.2 ⟨fun x hx => ?_, h2⟩
    rcases List.mem_cons.1 hx with rfl | hx
    · exact h.1
    · have := (List.pairwise_cons.1 h2).1 x hx
      omega
theorem sorted_incr : ∀ {l : List Int}, l.Pairwise (· < ·) → incr l = true
  | [], _ => rfl
  | [a], _ => rfl
  | a :: b :: r, h => by
    have h1 := List.pairwise_cons.1 h
    simp only [incr, Bool.and_eq_true, decide_eq_true_eq]
    exact ⟨h1.1 b (List.mem_cons_self ..), sorted_incr h1.2⟩
/-- A sorted list of numbers below n is no longer than n. -/
theorem sorted_len : ∀ (l : List Int) (lo hi : Int), l.Pairwise (· < ·) → (∀ k ∈ l, lo ≤ k ∧ k < hi) → lo ≤ hi → (l.length : Int) ≤ hi - lo
  | [], lo, hi, _, _, h => by simp; omega
  | a :: r, lo, hi, hp, hb, h => by
    have h1 := List.pairwise_cons.1 hp
    have ha := hb a (List.mem_cons_self ..)
    have := sorted_len r (a + 1) hi h1.2 (fun k hk => ⟨by have := h1.1 k hk; omega, (hb k (List.mem_cons_of_mem _ hk)).2⟩) (by omega)
    simp only [List.length_cons, Int.natCast_add, Int.natCast_one]
    omega
theorem Ok.needs_len {p : Plan} (h : Ok p) {i : Nat} (hi : i < p.length) : (needs p i).length ≤ 30 := by
  have h1 := taskF_zero.1 (h.task i hi)
  have := sorted_len (tk p i).2 0 p.length (incr_sorted h1.2.2.2) h1.2.2.1 (by omega)
  have h2 := h.len
  show (tk p i).2.length ≤ 30
  omega

/-! ### something is ready -/
theorem pigeon : ∀ (n : Nat) (f : Nat → Nat), (∀ k, k ≤ n → f k < n) → ∃ a b, a < b ∧ b ≤ n ∧ f a = f b
  | 0, f, h => absurd (h 0 (Nat.le_refl _)) (by omega)
  | n + 1, f, h => by
    by_cases hx : ∃ k, k ≤ n ∧ f k = f (n + 1)
    · obtain ⟨k, hk, he⟩ := hx
      exact ⟨k, n + 1, by omega, Nat.le_refl _, he⟩
    · have hne : ∀ k, k ≤ n → f k ≠ f (n + 1) := fun k hk he => hx ⟨k, hk, he⟩
      obtain ⟨a, b, hab, hb, he⟩ := pigeon n (fun k => if f (n + 1) < f k then f k - 1 else f k) (fun k hk => by
        have h1 := h k (by omega)
        have h2 := h (n + 1) (Nat.le_refl _)
        have h3 := hne k hk
        try dsimp only
        split <;> omega)
      refine ⟨a, b, hab, by omega, ?_⟩
      have h1 := hne a (by omega)
      have h2 := hne b hb
      try dsimp only at he
      split at he <;> split at he <;> omega
def iter (g : Nat → Nat) (x : Nat) : Nat → Nat
  | 0 => x
  | n + 1 => g (iter g x n)
theorem exists_ready {p : Plan} (h : Ok p) (done : Nat → Bool) (i0 : Nat) (h0 : i0 < p.length) (hd : done i0 = false) : ∃ i, i < p.length ∧ done i = false ∧ ∀ k ∈ needs p i, done k.toNat = true := by
  apply Classical.byContradiction
  intro hno
  have hstep : ∀ i, i < p.length → done i = false → ∃ k, k < p.length ∧ done k = false ∧ Dep p i k := by
    intro i hi hdi
    apply Classical.byContradiction
    intro hk
    refine hno ⟨i, hi, hdi, fun k hkn => ?_⟩
    have hr := h.need hi hkn
    cases hdk : done k.toNat with
    | true => rfl
    | false => exact absurd ⟨k.toNat, by omega, hdk, by unfold Dep; rw [Int.toNat_of_nonneg hr.1]; exact hkn⟩ hk
  let g : Nat → Nat := fun i => if hh : i < p.length ∧ done i = false then (hstep i hh.1 hh.2).choose else i0
  have hg : ∀ i, i < p.length → done i = false → g i < p.length ∧ done (g i) = false ∧ Dep p i (g i) := by
    intro i h1 h2
    have : g i = (hstep i h1 h2).choose := by simp only [g]; rw [dif_pos ⟨h1, h2⟩]
    rw [this]
    exact (hstep i h1 h2).choose_spec
  have hall : ∀ n, iter g i0 n < p.length ∧ done (iter g i0 n) = false := by
    intro n
    induction n with
    | zero => exact ⟨h0, hd⟩
    | succ n ih => exact ⟨(hg _ ih.1 ih.2).1, (hg _ ih.1 ih.2).2.1⟩
  have htc : ∀ a n, TC p (iter g i0 a) (iter g i0 (a + n + 1)) := by
    intro a n
    induction n with
    | zero => exact .one (hg _ (hall a).1 (hall a).2).2.2
    | succ n ih => exact ih.trans (.one (hg _ (hall (a + n + 1)).1 (hall (a + n + 1)).2).2.2)
  obtain ⟨a, b, hab, hb, he⟩ := pigeon p.length (iter g i0) (fun k _ => (hall k).1)
  have := htc a (b - a - 1)
  rw [show a + (b - a - 1) + 1 = b from by omega, ← he] at this
  exact h.acyc _ (hall a).1 this

theorem range_split {n k : Nat} (h : k < n) : List.range n = List.range k ++ k :: (List.range n).drop (k + 1) := by
  have h1 : (List.range n).take k ++ (List.range n).drop k = List.range n := List.take_append_drop _ _
  rw [List.take_range, Nat.min_eq_left (by omega), List.drop_eq_getElem_cons (by simpa using h), List.getElem_range] at h1
  exact h1.symm
theorem fault_first {p : Plan} {k : Nat} (hk : k < p.length) (h : taskF p (tk p k) ≠ 0) (hb : ∀ j, j < k → taskF p (tk p j) = 0) : fault p = some (k, taskF p (tk p k)) := by
  unfold fault
  rw [List.findSome?_eq_some_iff]
  refine ⟨List.range k, k, _, range_split hk, by rw [if_neg h], fun j hj => ?_⟩
  rw [if_pos (hb j (List.mem_range.1 hj))]
theorem checkF_fault {p : Plan} {k : Nat} (hl : p.length ≤ 30) (hk : k < p.length) (h : taskF p (tk p k) ≠ 0) (hb : ∀ j, j < k → taskF p (tk p j) = 0) : checkF p = (k, taskF p (tk p k)) := by
  unfold checkF
  rw [if_neg (by omega), fault_first hk h hb]
theorem checkF_cyc {p : Plan} {k : Nat} (hl : p.length ≤ 30) (hf : ∀ j, j < p.length → taskF p (tk p j) = 0) (hk : k < p.length) (h : cyc p k = true) (hb : ∀ j, j < k → cyc p j = false) : checkF p = (k, 8) := by
  unfold checkF
  rw [if_neg (by omega), fault_none.2 hf]
  have : (List.range p.length).find? (cyc p) = some k := by
    rw [List.find?_eq_some_iff_append]
    exact ⟨h, List.range k, _, range_split hk, fun j hj => by simp [hb j (List.mem_range.1 hj)]⟩
  simp only [this]
theorem checkF_fine {p : Plan} (hl : p.length ≤ 30) (hf : ∀ j, j < p.length → taskF p (tk p j) = 0) (hb : ∀ j, j < p.length → cyc p j = false) : checkF p = (0, 0) :=
  checkF_ok ⟨hl, hf, fun i hi ht => by have := hb i hi; rw [cyc_iff.2 ht] at this; cases this⟩

/-! ### whom a task needs, one behind the other -/
def pot : List Bool → Plan → Nat
  | b :: bs, t :: ts => (if b then 0 else t.2.length) + pot bs ts
  | _, _ => 0
theorem pot_set : ∀ (seen : List Bool) (p : Plan) (s : Nat), seen.length = p.length → s < p.length → seen.getD s false = false → pot (seen.set s true) p + (needs p s).length = pot seen p
  | [], [], s, _, h, _ => by cases h
  | b :: bs, t :: ts, 0, hl, h, hs => by
    simp only [List.getD_cons_zero] at hs
    subst hs
    simp [pot, needs, tk]
    omega
  | b :: bs, t :: ts, s + 1, hl, h, hs => by
    simp only [List.length_cons, Nat.add_right_cancel_iff] at hl
    simp only [List.getD_cons_succ] at hs
    have := pot_set bs ts s hl (by simpa using h) hs
    have h2 : needs (t :: ts) (s + 1) = needs ts s := by simp [needs, tk]
    rw [List.set_cons_succ, h2]
    simp only [pot]
    omega
theorem pot_le : ∀ (seen : List Bool) (p : Plan) (m : Nat), (∀ t ∈ p, t.2.length ≤ m) → pot seen p ≤ m * p.length
  | [], p, m, _ => by cases p <;> simp [pot]
  | b :: bs, [], m, _ => by simp [pot]
  | b :: bs, t :: ts, m, h => by
    have h1 := pot_le bs ts m (fun x hx => h x (List.mem_cons_of_mem _ hx))
    have h2 := h t (List.mem_cons_self ..)
    simp only [pot, List.length_cons, Nat.mul_add, Nat.mul_one]
    split <;> omega
structure Walk (p : Plan) (i : Nat) (seen : List Bool) (row : List Int) : Prop where
  len : seen.length = p.length
  rng : ∀ k ∈ row, 0 ≤ k ∧ k < (p.length : Int)
  reach : ∀ k ∈ row, TC p i k.toNat
  ni : seen.getD i false = false
  start : ∀ k ∈ needs p i, seen.getD k.toNat false = true ∨ k ∈ row
  closed : ∀ s, seen.getD s false = true → ∀ k ∈ needs p s, seen.getD k.toNat false = true ∨ k ∈ row
theorem Walk.init {p : Plan} {i : Nat} (hr : ∀ k ∈ needs p i, 0 ≤ k ∧ k < (p.length : Int)) : Walk p i (List.replicate p.length false) (needs p i) where
  len := by simp
  rng := hr
  reach := fun k hk => .one (by unfold Dep; rw [Int.toNat_of_nonneg (hr k hk).1]; exact hk)
  ni := by simp [List.getD, List.getElem?_replicate]; split <;> rfl
  start := fun k hk => .inr hk
  closed := fun s hs => by
    simp only [List.getD, List.getElem?_replicate] at hs
    split at hs <;> cases hs
theorem Walk.skip {p : Plan} {i : Nat} {seen : List Bool} {k : Int} {r : List Int} (h : Walk p i seen (k :: r)) (hs : seen.getD k.toNat false = true) : Walk p i seen r := by
  obtain ⟨h1, h2, h3, h4, h5, h6⟩ := h
  refine ⟨h1, fun x hx => h2 x (List.mem_cons_of_mem _ hx), fun x hx => h3 x (List.mem_cons_of_mem _ hx), h4, fun x hx => ?_, fun s hsn x hx => ?_⟩
  · rcases h5 x hx with h | h
    · exact .inl h
    · rcases List.mem_cons.1 h with rfl | h
      · exact .inl hs
      · exact .inr h
  · rcases h6 s hsn x hx with h | h
    · exact .inl h
    · rcases List.mem_cons.1 h with rfl | h
      · exact .inl hs
      · exact .inr h
theorem getD_set_true (seen : List Bool) (s x : Nat) (h : s < seen.length) : (seen.set s true).getD x false = (decide (x = s) || seen.getD x false) := by
  simp only [List.getD, List.getElem?_set]
  by_cases hx : s = x
  · subst hx
    simp [h]
  · have : ¬ x = s := fun e => hx e.symm
    simp [hx, this]
theorem Walk.go {p : Plan} {i : Nat} {seen : List Bool} {k : Int} {r : List Int} (h : Walk p i seen (k :: r)) (hki : k ≠ (i : Int)) (hn : ∀ x ∈ needs p k.toNat, 0 ≤ x ∧ x < (p.length : Int)) : Walk p i (seen.set k.toNat true) (r ++ needs p k.toNat) := by
  obtain ⟨h1, h2, h3, h4, h5, h6⟩ := h
  have hk := h2 k (List.mem_cons_self ..)
  have hkl : k.toNat < seen.length := by omega
  have hg := fun x => getD_set_true seen k.toNat x hkl
  refine ⟨by simpa using h1, fun x hx => ?_, fun x hx => ?_, ?_, fun x hx => ?_, fun s hsn x hx => ?_⟩
  · rcases List.mem_append.1 hx with hx | hx
    · exact h2 x (List.mem_cons_of_mem _ hx)
    · exact hn x hx
  · rcases List.mem_append.1 hx with hx | hx
    · exact h3 x (List.mem_cons_of_mem _ hx)
    · refine (h3 k (List.mem_cons_self ..)).trans (.one ?_)
      unfold Dep
      rw [Int.toNat_of_nonneg (hn x hx).1]
      exact hx
  · rw [hg, h4]
    have : ¬ i = k.toNat := by omega
    simp [this]
  · rw [hg]
    rcases h5 x hx with h | h
    · exact .inl (by rw [h, Bool.or_true])
    · rcases List.mem_cons.1 h with rfl | h
      · exact .inl (by simp)
      · exact .inr (List.mem_append_left _ h)
  · rw [hg] at hsn ⊢
    simp only [Bool.or_eq_true, decide_eq_true_eq] at hsn ⊢
    rcases hsn with rfl | hsn
    · exact .inr (List.mem_append_right _ hx)
    · rcases h6 s hsn x hx with h | h
      · exact .inl (.inr h)
      · rcases List.mem_cons.1 h with rfl | h
        · exact .inl (.inl rfl)
        · exact .inr (List.mem_append_left _ h)
theorem Walk.done {p : Plan} {i : Nat} {seen : List Bool} (h : Walk p i seen []) : ¬ TC p i i := by
  have key : ∀ a c, TC p a c → (a = i ∨ seen.getD a false = true) → seen.getD c false = true := by
    intro a c ht
    induction ht with
    | @one a b hd =>
      rintro (rfl | ha)
      · rcases h.start b hd with h1 | h1
        · simpa using h1
        · cases h1
      · rcases h.closed a ha b hd with h1 | h1
        · simpa using h1
        · cases h1
    | @step a b c hd _ ih =>
      rintro (rfl | ha)
      · refine ih (.inr ?_)
        rcases h.start b hd with h1 | h1
        · simpa using h1
        · cases h1
      · refine ih (.inr ?_)
        rcases h.closed a ha b hd with h1 | h1
        · simpa using h1
        · cases h1
  intro ht
  have := key i i ht (.inl rfl)
  rw [h.ni] at this
  cases this

/-! ### who comes after; the order -/
def afterF (p : Plan) (i : Int) : List Nat := (List.range p.length).filter fun k => decide (i ∈ needs p k)
def ofN (l : List Nat) : List Int := l.map fun k : Nat => (k : Int)
@[simp] theorem ofN_length (l : List Nat) : (ofN l).length = l.length := by simp [ofN]
theorem ofN_append (a b : List Nat) : ofN (a ++ b) = ofN a ++ ofN b := by simp [ofN]
theorem filter_range_succ (f : Nat → Bool) (k : Nat) : (List.range (k + 1)).filter f = (List.range k).filter f ++ (if f k then [k] else []) := by
  rw [List.range_succ, List.filter_append]
  congr 1
  simp only [List.filter_cons, List.filter_nil]
theorem filter_range_le (f : Nat → Bool) (k : Nat) : ((List.range k).filter f).length ≤ k := by
  have := List.length_filter_le f (List.range k)
  simpa using this
def readyB (p : Plan) (done : List Bool) (i : Nat) : Bool := !done.getD i false && (needs p i).all fun k => done.getD k.toNat false
def nextF (p : Plan) (done : List Bool) : Option Nat := (List.range p.length).find? (readyB p done)
def orderGo (p : Plan) : Nat → List Bool → List Nat → List Nat
  | 0, _, o => o
  | f + 1, done, o => match nextF p done with
    | some i => orderGo p f (done.set i true) (o ++ [i])
    | none => o
def orderF (p : Plan) : List Nat := orderGo p p.length (List.replicate p.length false) []
theorem nextF_of {p : Plan} {done : List Bool} {i : Nat} (hi : i < p.length) (h : readyB p done i = true) (hb : ∀ j, j < i → readyB p done j = false) : nextF p done = some i := by
  unfold nextF
  rw [List.find?_eq_some_iff_append]
  exact ⟨h, List.range i, _, range_split hi, fun j hj => by simp [hb j (List.mem_range.1 hj)]⟩
theorem nextF_none {p : Plan} {done : List Bool} (hb : ∀ j, j < p.length → readyB p done j = false) : nextF p done = none := by
  unfold nextF
  rw [List.find?_eq_none]
  intro j hj
  simp [hb j (List.mem_range.1 hj)]
theorem count_set : ∀ (l : List Bool) (i : Nat), i < l.length → l.getD i false = false → (l.set i true).count true = l.count true + 1
  | [], i, h, _ => absurd h (by simp)
  | b :: r, 0, _, hb => by
    simp only [List.getD_cons_zero] at hb
    subst hb
    simp
  | b :: r, i + 1, h, hb => by
    have := count_set r i (by simpa using h) (by simpa using hb)
    simp only [List.set_cons_succ, List.count_cons, this]
    omega
theorem exists_false : ∀ (l : List Bool), l.count true < l.length → ∃ i, i < l.length ∧ l.getD i false = false
  | [], h => absurd h (by simp)
  | false :: r, _ => ⟨0, by simp, rfl⟩
  | true :: r, h => by
    simp only [List.count_cons_self, List.length_cons] at h
    obtain ⟨i, h1, h2⟩ := exists_false r (by omega)
    exact ⟨i + 1, by simpa using h1, by simpa using h2⟩
theorem Ok.next {p : Plan} (h : Ok p) (done : List Bool) (hl : done.length = p.length) (hc : done.count true < p.length) : ∃ i, i < p.length ∧ readyB p done i = true := by
  obtain ⟨i0, h1, h2⟩ := exists_false done (by omega)
  obtain ⟨i, h3, h4, h5⟩ := exists_ready h (fun i => done.getD i false) i0 (by omega) h2
  exact ⟨i, h3, by rw [readyB, h4, Bool.not_false, Bool.true_and, List.all_eq_true]; exact fun k hk => h5 k hk⟩
end Go.X.Pn
