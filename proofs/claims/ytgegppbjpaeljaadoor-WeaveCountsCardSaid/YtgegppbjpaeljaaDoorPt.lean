/- The order and the tails of a plan that is right, in plain Lean, no program in sight: each task once, behind those that it needs; a tail is the work and the longest tail behind it. -/
import Derived.Test.YtgegppbjpaeljaaDoorPq
set_option linter.unusedVariables false
set_option linter.unusedSimpArgs false
namespace Go.X.Pn
def Rl (p : Plan) (a b : Nat) : Prop := a ≠ b ∧ (b : Int) ∉ needs p a
theorem getD_true_lt {l : List Bool} {i : Nat} (h : l.getD i false = true) : i < l.length := by
  rcases Nat.lt_or_ge i l.length with h1 | h1
  · exact h1
  · rw [List.getD_eq_getElem?_getD, List.getElem?_eq_none h1] at h
    cases h
theorem all_true {l : List Bool} (h : l.count true = l.length) {i : Nat} (hi : i < l.length) : l.getD i false = true := by
  cases hb : l.getD i false with
  | true => rfl
  | false =>
    have h1 := count_set l i hi hb
    have h2 := List.count_le_length (a := true) (l := l.set i true)
    rw [List.length_set] at h2
    omega
structure Ord (p : Plan) (done : List Bool) (o : List Nat) : Prop where
  len : done.length = p.length
  mem : ∀ i, done.getD i false = true ↔ i ∈ o
  need : ∀ a ∈ o, ∀ k ∈ needs p a, k.toNat ∈ o
  pw : o.Pairwise (Rl p)
  cnt : done.count true = o.length
theorem Ord.nil (p : Plan) : Ord p (List.replicate p.length false) [] where
  len := by simp
  mem i := by
    constructor
    · intro h
      by_cases h1 : i < p.length <;> simp [List.getD, h1] at h
    · intro h; cases h
  need _ h := by cases h
  pw := List.Pairwise.nil
  cnt := by simp [List.count_replicate]
theorem Ord.snoc {p : Plan} {done : List Bool} {o : List Nat} {i : Nat} (h : Ord p done o) (hi : i < p.length) (hr : readyB p done i = true) : Ord p (done.set i true) (o ++ [i]) := by
  unfold readyB at hr
  simp only [Bool.and_eq_true, Bool.not_eq_true', List.all_eq_true] at hr
  obtain ⟨h1, h2⟩ := hr
  have hno : i ∉ o := fun hc => by
    have := (h.mem i).2 hc
    rw [h1] at this
    cases this
  refine ⟨by rw [List.length_set, h.len], fun k => ?_, fun a ha k hk => ?_, ?_, ?_⟩
  · rw [getD_set_true _ _ _ (by rw [h.len]; exact hi), Bool.or_eq_true, List.mem_append, List.mem_singleton, ← h.mem k, decide_eq_true_eq]
    exact or_comm
  · rcases List.mem_append.1 ha with ha | ha
    · exact List.mem_append.2 (.inl (h.need a ha k hk))
    · have := List.mem_singleton.1 ha
      subst this
      exact List.mem_append.2 (.inl ((h.mem _).1 (h2 k hk)))
  · rw [List.pairwise_append]
    refine ⟨h.pw, List.pairwise_singleton _ _, fun a ha b hb => ?_⟩
    have := List.mem_singleton.1 hb
    subst this
    refine ⟨fun e => hno (e ▸ ha), fun hn => hno ?_⟩
    have := h.need a ha _ hn
    simpa using this
  · rw [count_set done i (by rw [h.len]; exact hi) h1, h.cnt]
    simp
theorem orderGo_ord {p : Plan} (hok : Ok p) : ∀ (f : Nat) (done : List Bool) (o : List Nat), Ord p done o → f + o.length = p.length → ∃ done', Ord p done' (orderGo p f done o) ∧ (orderGo p f done o).length = p.length
  | 0, done, o, h, hf => ⟨done, h, by simpa [orderGo] using hf⟩
  | f + 1, done, o, h, hf => by
    obtain ⟨i0, h1, h2⟩ := hok.next done h.len (by rw [h.cnt]; omega)
    unfold orderGo
    cases hn : nextF p done with
    | none =>
      unfold nextF at hn
      rw [List.find?_eq_none] at hn
      exact absurd h2 (hn i0 (List.mem_range.2 h1))
    | some i =>
      unfold nextF at hn
      have h3 := List.mem_range.1 (List.mem_of_find?_eq_some hn)
      have h4 := List.find?_some hn
      exact orderGo_ord hok f _ _ (h.snoc h3 h4) (by simp; omega)
theorem orderF_ord {p : Plan} (hok : Ok p) : (orderF p).Pairwise (Rl p) ∧ ∀ i, i < p.length → i ∈ orderF p := by
  obtain ⟨done, h1, h2⟩ := orderGo_ord hok p.length _ [] (Ord.nil p) (by simp)
  exact ⟨h1.pw, fun i hi => (h1.mem i).1 (all_true (by rw [h1.cnt]; exact h2.trans h1.len.symm) (by rw [h1.len]; exact hi))⟩

def mx (out : List Int) (ks : List Nat) : Int := ks.foldl (fun m k => max m (out.getD k 0)) 0
theorem foldl_congr {α β : Type} (f g : α → β → α) : ∀ (l : List β) (a : α), (∀ a b, b ∈ l → f a b = g a b) → l.foldl f a = l.foldl g a
  | [], _, _ => rfl
  | b :: r, a, h => by
    rw [List.foldl_cons, List.foldl_cons, h a b (List.mem_cons_self ..)]
    exact foldl_congr f g r _ (fun a b hb => h a b (List.mem_cons_of_mem _ hb))
theorem mx_congr {out out' : List Int} {ks : List Nat} (h : ∀ k ∈ ks, out.getD k 0 = out'.getD k 0) : mx out ks = mx out' ks :=
  foldl_congr _ _ _ _ (fun m k hk => by rw [h k hk])
theorem tailIn_mx {out : List Int} {i : Nat} {ks : List Nat} (h0 : out.getD i 0 = 0) (hi : i ∉ ks) : tailIn out i ks = mx out ks := by
  unfold tailIn mx
  rw [h0]
  refine foldl_congr _ _ _ _ (fun m k hk => ?_)
  have hne : ¬ (i = k ∧ i < out.length) := fun h => hi (h.1 ▸ hk)
  rw [getD_set_int, if_neg hne]
/-- The rest of an order: who comes after one is in the rest behind it. -/
def Rest (p : Plan) : List Nat → Prop
  | [] => True
  | i :: s => i < p.length ∧ i ∉ s ∧ (∀ k ∈ afterF p i, k ∈ s) ∧ Rest p s
theorem Rest.after {p : Plan} : ∀ {s : List Nat}, Rest p s → ∀ i ∈ s, ∀ k ∈ afterF p i, k ∈ s
  | [], _, _, h, _, _ => by cases h
  | j :: s, ⟨h1, h2, h3, h4⟩, i, hi, k, hk => by
    rcases List.mem_cons.1 hi with rfl | hi
    · exact List.mem_cons_of_mem _ (h3 k hk)
    · exact List.mem_cons_of_mem _ (Rest.after h4 i hi k hk)
theorem rest_of {p : Plan} (hok : Ok p) {o : List Nat} (hlt : ∀ k ∈ o, k < p.length) (hpw : o.Pairwise (Rl p)) (hall : ∀ i, i < p.length → i ∈ o) : ∀ (s pre : List Nat), pre ++ s = o → Rest p s
  | [], _, _ => trivial
  | i :: s, pre, he => by
    have hio : i ∈ o := by rw [← he]; simp
    have hpw' := hpw
    rw [← he, List.pairwise_append] at hpw'
    obtain ⟨_, hc, hx⟩ := hpw'
    obtain ⟨hc1, hc2⟩ := List.pairwise_cons.1 hc
    refine ⟨hlt i hio, fun hm => (hc1 i hm).1 rfl, fun k hk => ?_, rest_of hok hlt hpw hall s (pre ++ [i]) (by simpa using he)⟩
    obtain ⟨hk1, hk2⟩ := List.mem_filter.1 hk
    have hkn : (i : Int) ∈ needs p k := by simpa using hk2
    have hkl := List.mem_range.1 hk1
    have hko : k ∈ pre ++ i :: s := by rw [he]; exact hall k hkl
    rcases List.mem_append.1 hko with h | h
    · exact absurd hkn (hx k h i (List.mem_cons_self ..)).2
    · rcases List.mem_cons.1 h with rfl | h
      · exact absurd (TC.one hkn) (hok.acyc k hkl)
      · exact h
def outS (p : Plan) (s : List Nat) : List Int := s.foldr (fun i out => tailStep p out i) (List.replicate p.length 0)
theorem outS_len (p : Plan) : ∀ s, (outS p s).length = p.length
  | [] => by simp [outS]
  | i :: s => tailStep_len.trans (outS_len p s)
theorem outS_rec {p : Plan} : ∀ (s : List Nat), Rest p s → (∀ i, i ∉ s → (outS p s).getD i 0 = 0) ∧ ∀ i ∈ s, (outS p s).getD i 0 = mx (outS p s) (afterF p i) + (tk p i).1
  | [], _ => ⟨fun i _ => by by_cases h : i < p.length <;> simp [outS, List.getD, h], fun i h => by cases h⟩
  | i :: s, ⟨h1, h2, h3, h4⟩ => by
    obtain ⟨g1, g2⟩ := outS_rec s h4
    have hl := outS_len p s
    have hna : i ∉ afterF p i := fun h => h2 (h3 i h)
    have hout : outS p (i :: s) = (outS p s).set i (mx (outS p s) (afterF p i) + (tk p i).1) := by
      show tailStep p (outS p s) i = _
      rw [tailStep, tailIn_mx (g1 i h2) hna]
    have hget : ∀ k, k ≠ i → (outS p (i :: s)).getD k 0 = (outS p s).getD k 0 := fun k hk => by
      rw [hout, getD_set_int, if_neg (fun h => hk h.1.symm)]
    refine ⟨fun k hk => ?_, fun k hk => ?_⟩
    · rw [hget k (fun e => hk (e ▸ List.mem_cons_self ..))]
      exact g1 k (fun h => hk (List.mem_cons_of_mem _ h))
    · rcases List.mem_cons.1 hk with rfl | hk
      · rw [hout, getD_set_int, if_pos ⟨rfl, by omega⟩, ← hout]
        congr 1
        exact mx_congr (fun j hj => (hget j (fun e => hna (e ▸ hj))).symm)
      · rw [hget k (fun e => h2 (e ▸ hk)), g2 k hk]
        congr 1
        exact mx_congr (fun j hj => (hget j (fun e => h2 (e ▸ Rest.after h4 k hk j hj))).symm)
/-- A task's tail: its work and the longest tail behind it. -/
theorem tailsF_rec {p : Plan} (hok : Ok p) : (tailsF p).length = p.length ∧ ∀ i, i < p.length → (tailsF p).getD i 0 = mx (tailsF p) (afterF p i) + (tk p i).1 := by
  obtain ⟨h1, h2⟩ := orderF_ord hok
  have h3 : tailsF p = outS p (orderF p) := by
    unfold tailsF tailsGo outS
    rw [List.foldl_reverse]
  have h4 := rest_of hok orderF_lt h1 h2 (orderF p) [] rfl
  obtain ⟨g1, g2⟩ := outS_rec _ h4
  rw [h3]
  exact ⟨outS_len _ _, fun i hi => g2 i (h2 i hi)⟩
end Go.X.Pn
