/- A weave's plan, in plain Lean, no program in sight: it is right; its work and its span are the weave's. -/
import Derived.Test.YtgegppbjpaeljaaDoorPt
import Derived.Test.YtgegppbjpaeljaaDoorWp
set_option linter.unusedVariables false
set_option linter.unusedSimpArgs false
namespace Go.X.Wv
open Go.X.Pn
theorem link_getD (m : Nat) (fs ls : List Nat) (ts : List (Int × List Int)) (j : Nat) (hj : j < ts.length) : (link m fs ls ts).getD j (0, []) = if m + j ∈ fs then ((ts.getD j (0, [])).1, ls.map Int.ofNat) else ts.getD j (0, []) := by
  unfold link
  simp only [List.getD_eq_getElem?_getD, List.getElem?_mapIdx, List.getElem?_eq_getElem hj, Option.map_some, Option.getD_some]
theorem getD_append_l {α : Type} (a b : List α) (j : Nat) (d : α) (h : j < a.length) : (a ++ b).getD j d = a.getD j d := by
  simp [List.getD_eq_getElem?_getD, List.getElem?_append_left h]
theorem getD_append_r {α : Type} (a b : List α) (j : Nat) (d : α) : (a ++ b).getD (a.length + j) d = b.getD j d := by
  simp [List.getD_eq_getElem?_getD, List.getElem?_append_right]
/-- What a task of a weave needs is ahead of it, in order. -/
theorem tasks_ahead (cap : L → Int) : ∀ (t : T) (n j : Nat), j < size t → (∀ k ∈ ((tasks cap t n).getD j (0, [])).2, (n : Int) ≤ k ∧ k < (n : Int) + j) ∧ ((tasks cap t n).getD j (0, [])).2.Pairwise (· < ·)
  | .num ds, n, j, h => by
    have : j = 0 := by simp only [size] at h; omega
    subst this
    simp [tasks]
  | .par a b, n, j, h => by
    simp only [tasks, size] at h ⊢
    by_cases hj : j < size a
    · rw [getD_append_l _ _ _ _ (by rw [tasks_length]; exact hj)]
      exact tasks_ahead cap a n j hj
    · obtain ⟨i, rfl⟩ : ∃ i, j = size a + i := ⟨j - size a, by omega⟩
      have hr := getD_append_r (tasks cap a n) (tasks cap b (n + size a)) i (0, [])
      rw [tasks_length] at hr
      rw [hr]
      have ih := tasks_ahead cap b (n + size a) i (by omega)
      exact ⟨fun k hk => by have := ih.1 k hk; omega, ih.2⟩
  | .seq a b, n, j, h => by
    simp only [tasks, size] at h ⊢
    by_cases hj : j < size a
    · rw [getD_append_l _ _ _ _ (by rw [tasks_length]; exact hj)]
      exact tasks_ahead cap a n j hj
    · obtain ⟨i, rfl⟩ : ∃ i, j = size a + i := ⟨j - size a, by omega⟩
      have hr := getD_append_r (tasks cap a n) (link (n + size a) (firsts b (n + size a)) (lasts a n) (tasks cap b (n + size a))) i (0, [])
      rw [tasks_length] at hr
      rw [hr, link_getD _ _ _ _ _ (by rw [tasks_length]; omega)]
      split
      · refine ⟨fun k hk => ?_, ?_⟩
        · obtain ⟨x, hx, rfl⟩ := List.mem_map.1 hk
          have := lasts_range a n x hx
          simp only [Int.ofNat_eq_natCast]
          omega
        · rw [List.pairwise_map]
          exact (lasts_sorted a n).imp (fun h => by simpa using h)
      · have ih := tasks_ahead cap b (n + size a) i (by omega)
        exact ⟨fun k hk => by have := ih.1 k hk; omega, ih.2⟩
theorem acyc_of {p : Plan} (h : ∀ i, i < p.length → ∀ k ∈ needs p i, 0 ≤ k ∧ k < (i : Int)) : ∀ i, i < p.length → ¬ TC p i i := by
  have key : ∀ a b, TC p a b → a < p.length → b < a := by
    intro a b hab
    induction hab with
    | one h1 => intro ha; have := h _ ha _ h1; omega
    | step h1 _ ih =>
      intro ha
      have h2 := h _ ha _ h1
      have := ih (by omega)
      omega
  exact fun i hi hc => absurd (key i i hc hi) (Nat.lt_irrefl _)
/-- A weave's plan is right. -/
theorem weave_ok {cap : L → Int} {t : T} (hs : size t ≤ 30) (hw : ∀ x ∈ tasks cap t 0, 1 ≤ x.1 ∧ x.1 ≤ 20) : Ok (tasks cap t 0) := by
  have hl := tasks_length cap t 0
  have hn : ∀ i, i < (tasks cap t 0).length → ∀ k ∈ needs (tasks cap t 0) i, 0 ≤ k ∧ k < (i : Int) := fun i hi k hk => by
    have := (tasks_ahead cap t 0 i (by omega)).1 k hk
    omega
  refine ⟨by omega, fun i hi => ?_, acyc_of hn⟩
  rw [taskF_zero]
  have hm : tk (tasks cap t 0) i ∈ tasks cap t 0 := by simp [tk, List.getD, hi]
  exact ⟨(hw _ hm).1, (hw _ hm).2, fun k hk => by have := hn i hi k hk; omega, sorted_incr (tasks_ahead cap t 0 i (by omega)).2⟩

/-! ### the span -/
theorem mx_nonneg (out : List Int) (ks : List Nat) : 0 ≤ mx out ks ∧ ∀ k ∈ ks, out.getD k 0 ≤ mx out ks := by
  unfold mx
  have key : ∀ (ks : List Nat) (m : Int), m ≤ ks.foldl (fun m k => max m (out.getD k 0)) m ∧ ∀ k ∈ ks, out.getD k 0 ≤ ks.foldl (fun m k => max m (out.getD k 0)) m := by
    intro ks
    induction ks with
    | nil => exact fun m => ⟨Int.le_refl _, fun _ h => by cases h⟩
    | cons a r ih =>
      intro m
      obtain ⟨h1, h2⟩ := ih (max m (out.getD a 0))
      refine ⟨by rw [List.foldl_cons]; omega, fun k hk => ?_⟩
      rw [List.foldl_cons]
      rcases List.mem_cons.1 hk with rfl | hk
      · omega
      · exact h2 k hk
  exact key ks 0
theorem mx_le {out : List Int} {c : Int} (h0 : 0 ≤ c) : ∀ {ks : List Nat}, (∀ k ∈ ks, out.getD k 0 ≤ c) → mx out ks ≤ c := by
  unfold mx
  have key : ∀ (ks : List Nat) (m : Int), m ≤ c → (∀ k ∈ ks, out.getD k 0 ≤ c) → ks.foldl (fun m k => max m (out.getD k 0)) m ≤ c := by
    intro ks
    induction ks with
    | nil => exact fun m h _ => h
    | cons a r ih =>
      intro m hm h
      have := h a (List.mem_cons_self ..)
      rw [List.foldl_cons]
      exact ih _ (by omega) (fun k hk => h k (List.mem_cons_of_mem _ hk))
  exact fun {ks} h => key ks 0 h0 h
/-- In the plan p the weave t lies from n on, its first tasks behind ls. -/
def At (cap : L → Int) (p : Plan) (t : T) (n : Nat) (ls : List Int) : Prop :=
  n + size t ≤ p.length ∧ ∀ j, j < size t → (tk p (n + j)).1 = ((tasks cap t n).getD j (0, [])).1 ∧ needs p (n + j) = if n + j ∈ firsts t n then ls else ((tasks cap t n).getD j (0, [])).2
theorem At.inner {cap : L → Int} {p : Plan} {t : T} {n : Nat} {ls : List Int} (h : At cap p t n ls) {k : Nat} {l : Int} (h1 : n ≤ k) (h2 : k < n + size t) (hl : l ∈ needs p k) : l ∈ ls ∨ ((n : Int) ≤ l ∧ l < (k : Int)) := by
  obtain ⟨j, rfl⟩ : ∃ j, k = n + j := ⟨k - n, by omega⟩
  rw [(h.2 j (by omega)).2] at hl
  split at hl
  · exact .inl hl
  · have := (tasks_ahead cap t n j (by omega)).1 l hl
    exact .inr (by omega)
theorem At.first {cap : L → Int} {p : Plan} {t : T} {n : Nat} {ls : List Int} (h : At cap p t n ls) {f : Nat} (hf : f ∈ firsts t n) : needs p f = ls := by
  have hr := firsts_range t n f hf
  obtain ⟨j, rfl⟩ : ∃ j, f = n + j := ⟨f - n, by omega⟩
  rw [(h.2 j (by omega)).2, if_pos hf]
theorem At.parts {cap : L → Int} {p : Plan} {a b : T} {n : Nat} {ls : List Int} (h : At cap p (.seq a b) n ls) : At cap p a n ls ∧ At cap p b (n + size a) ((lasts a n).map Int.ofNat) := by
  obtain ⟨h1, h2⟩ := h
  simp only [size] at h1 h2
  refine ⟨⟨by omega, fun j hj => ?_⟩, by omega, fun j hj => ?_⟩
  · have := h2 j (by omega)
    simp only [tasks, firsts] at this
    rwa [getD_append_l _ _ _ _ (by rw [tasks_length]; exact hj)] at this
  · have := h2 (size a + j) (by omega)
    rw [if_neg (show ¬ n + (size a + j) ∈ firsts (.seq a b) n from fun hm => by have := firsts_range a n _ hm; omega)] at this
    simp only [tasks] at this
    have hr := getD_append_r (tasks cap a n) (link (n + size a) (firsts b (n + size a)) (lasts a n) (tasks cap b (n + size a))) j (0, [])
    rw [tasks_length] at hr
    rw [hr, link_getD _ _ _ _ _ (by rw [tasks_length]; omega), ← Nat.add_assoc] at this
    refine ⟨?_, ?_⟩
    · rw [this.1]; split <;> rfl
    · rw [this.2]; split <;> rfl
theorem At.sides {cap : L → Int} {p : Plan} {a b : T} {n : Nat} {ls : List Int} (h : At cap p (.par a b) n ls) : At cap p a n ls ∧ At cap p b (n + size a) ls := by
  obtain ⟨h1, h2⟩ := h
  simp only [size] at h1 h2
  refine ⟨⟨by omega, fun j hj => ?_⟩, by omega, fun j hj => ?_⟩
  · have := h2 j (by omega)
    simp only [tasks, firsts] at this
    rw [getD_append_l _ _ _ _ (by rw [tasks_length]; exact hj)] at this
    refine ⟨this.1, this.2.trans ?_⟩
    have hiff : (n + j ∈ firsts a n ++ firsts b (n + size a)) ↔ n + j ∈ firsts a n := by
      rw [List.mem_append]
      exact ⟨fun h => h.resolve_right (fun hm => by have := firsts_range b _ _ hm; omega), .inl⟩
    simp only [hiff]
  · have := h2 (size a + j) (by omega)
    simp only [tasks, firsts] at this
    have hr := getD_append_r (tasks cap a n) (tasks cap b (n + size a)) j (0, [])
    rw [tasks_length] at hr
    rw [hr, ← Nat.add_assoc] at this
    refine ⟨this.1, this.2.trans ?_⟩
    have hiff : (n + size a + j ∈ firsts a n ++ firsts b (n + size a)) ↔ n + size a + j ∈ firsts b (n + size a) := by
      rw [List.mem_append]
      exact ⟨fun h => h.resolve_left (fun hm => by have := firsts_range a _ _ hm; omega), .inr⟩
    simp only [hiff]
theorem at_top (cap : L → Int) (t : T) : At cap (tasks cap t 0) t 0 [] := by
  refine ⟨by rw [tasks_length]; omega, fun j hj => ?_⟩
  rw [Nat.zero_add]
  refine ⟨rfl, ?_⟩
  split
  · rename_i hf
    obtain ⟨w, hw⟩ := firsts_nil cap t 0 j hf
    rw [Nat.sub_zero] at hw
    simp [needs, tk, List.getD, hw]
  · rfl
/-- Who comes after the weave's tasks, from outside it: behind the last ones tails of at most c, behind the others none. -/
structure Behind (p : Plan) (V : List Int) (t : T) (n : Nat) (c : Int) : Prop where
  nonneg : 0 ≤ c
  last : ∀ l ∈ lasts t n, (∀ k ∈ afterF p l, (k < n ∨ n + size t ≤ k) → V.getD k 0 ≤ c) ∧ (c = 0 ∨ ∃ k ∈ afterF p l, V.getD k 0 = c)
  other : ∀ l, n ≤ l → l < n + size t → l ∉ lasts t n → ∀ k ∈ afterF p l, n ≤ k ∧ k < n + size t
theorem mem_after {p : Plan} {k : Nat} {i : Int} : k ∈ afterF p i ↔ k < p.length ∧ i ∈ needs p k := by
  unfold afterF
  rw [List.mem_filter, List.mem_range, decide_eq_true_eq]
def Far (ls : List Int) (n m : Nat) : Prop := ∀ x ∈ ls, ¬ ((n : Int) ≤ x ∧ x < (m : Int))
theorem span_tails {cap : L → Int} (hc : ∀ ds, 0 ≤ cap ds) {p : Plan} {V : List Int} (hT : ∀ i, i < p.length → V.getD i 0 = mx V (afterF p i) + (tk p i).1) : ∀ (t : T) (n : Nat) (ls : List Int) (c : Int), At cap p t n ls → Far ls n (n + size t) → Behind p V t n c →
    0 ≤ span cap t ∧ (∀ i, n ≤ i → i < n + size t → V.getD i 0 ≤ span cap t + c) ∧ ∃ f ∈ firsts t n, V.getD f 0 = span cap t + c
  | .num ds, n, ls, c, hA, hF, hB => by
    have hlen := hA.1
    simp only [size] at hlen
    have h1 := hT n (by omega)
    have h2 := hA.2 0 (by simp [size])
    simp only [tasks, Nat.add_zero] at h2
    have hl := hB.last n (by simp [lasts])
    have hle : mx V (afterF p n) ≤ c := mx_le hB.nonneg (fun k hk => hl.1 k hk (by
      simp only [size]
      have hk2 := mem_after.1 hk
      rcases Nat.lt_trichotomy k n with h | h | h
      · exact .inl h
      · subst h
        have := hA.inner (k := k) (Nat.le_refl _) (by simp [size]) hk2.2
        rcases this with h3 | h3
        · exact absurd ⟨Int.le_refl _, by simp [size]; omega⟩ (hF _ h3)
        · omega
      · exact .inr (by omega)))
    have hge : c ≤ mx V (afterF p n) := by
      rcases hl.2 with h | ⟨k, hk, hk2⟩
      · rw [h]; exact (mx_nonneg _ _).1
      · rw [← hk2]; exact (mx_nonneg _ _).2 k hk
    have hv : V.getD n 0 = cap ds + c := by
      rw [h1, h2.1]
      show _ + cap ds = _
      omega
    refine ⟨hc ds, fun i hi1 hi2 => ?_, n, by simp [firsts], hv⟩
    simp only [size] at hi2
    obtain rfl : i = n := by omega
    show _ ≤ cap ds + c
    omega
  | .seq a b, n, ls, c, hA, hF, hB => by
    obtain ⟨hAa, hAb⟩ := hA.parts
    simp only [size] at hF
    have hFb : Far ((lasts a n).map Int.ofNat) (n + size a) (n + size a + size b) := fun x hx hr => by
      obtain ⟨y, hy, rfl⟩ := List.mem_map.1 hx
      have := lasts_range a n y hy
      simp only [Int.ofNat_eq_natCast] at hr
      omega
    have hlp : p.length ≥ n + size a + size b := by have := hAb.1; omega
    have hBb : Behind p V b (n + size a) c := by
      refine ⟨hB.nonneg, fun l hl => ?_, fun l hl1 hl2 hl3 k hk => ?_⟩
      · have h1 := hB.last l hl
        have hr := lasts_range b _ l hl
        refine ⟨fun k hk ho => h1.1 k hk ?_, h1.2⟩
        simp only [size]
        have hk2 := mem_after.1 hk
        by_cases hka : n ≤ k ∧ k < n + size a
        · rcases hAa.inner hka.1 hka.2 hk2.2 with h3 | h3
          · exact absurd ⟨by omega, by omega⟩ (hF _ h3)
          · omega
        · omega
      · have h1 := hB.other l (by omega) (by simp only [size]; omega) hl3 k hk
        simp only [size] at h1
        have hk2 := mem_after.1 hk
        by_cases hka : k < n + size a
        · rcases hAa.inner h1.1 hka hk2.2 with h3 | h3
          · exact absurd ⟨by omega, by omega⟩ (hF _ h3)
          · omega
        · omega
    obtain ⟨s0, s1, f, hf, s2⟩ := span_tails hc hT b (n + size a) _ c hAb hFb hBb
    have hfr := firsts_range b _ f hf
    have hBa : Behind p V a n (span cap b + c) := by
      refine ⟨by have := hB.nonneg; omega, fun l hl => ?_, fun l hl1 hl2 hl3 k hk => ?_⟩
      · have hr := lasts_range a n l hl
        have hnl : l ∉ lasts (.seq a b) n := fun hm => by have := lasts_range b _ l hm; omega
        refine ⟨fun k hk ho => ?_, .inr ⟨f, mem_after.2 ⟨by omega, ?_⟩, s2⟩⟩
        · have h1 := hB.other l (by omega) (by simp only [size]; omega) hnl k hk
          simp only [size] at h1
          exact s1 k (by omega) (by omega)
        · rw [hAb.first hf]
          exact List.mem_map.2 ⟨l, hl, rfl⟩
      · have hnl : l ∉ lasts (.seq a b) n := fun hm => by have := lasts_range b _ l hm; omega
        have h1 := hB.other l (by omega) (by simp only [size]; omega) hnl k hk
        simp only [size] at h1
        have hk2 := mem_after.1 hk
        by_cases hkb : n + size a ≤ k
        · rcases hAb.inner hkb (by omega) hk2.2 with h3 | h3
          · obtain ⟨y, hy, hyl⟩ := List.mem_map.1 h3
            simp only [Int.ofNat_eq_natCast] at hyl
            obtain rfl : y = l := by omega
            exact absurd hy hl3
          · omega
        · omega
    obtain ⟨r0, r1, g, hg, r2⟩ := span_tails hc hT a n ls _ hAa (fun x hx hr => hF x hx (by omega)) hBa
    refine ⟨by simp only [span]; omega, fun i hi1 hi2 => ?_, g, hg, by rw [r2]; simp only [span]; omega⟩
    simp only [size] at hi2
    simp only [span]
    by_cases hi : i < n + size a
    · have := r1 i hi1 hi; omega
    · have := s1 i (by omega) (by omega); omega
  | .par a b, n, ls, c, hA, hF, hB => by
    obtain ⟨hAa, hAb⟩ := hA.sides
    simp only [size] at hF
    have hlp : p.length ≥ n + size a + size b := by have := hAb.1; omega
    have hBa : Behind p V a n c := by
      refine ⟨hB.nonneg, fun l hl => ?_, fun l hl1 hl2 hl3 k hk => ?_⟩
      · have h1 := hB.last l (by simp [lasts, hl])
        have hr := lasts_range a _ l hl
        refine ⟨fun k hk ho => h1.1 k hk ?_, h1.2⟩
        simp only [size]
        have hk2 := mem_after.1 hk
        by_cases hkb : n + size a ≤ k ∧ k < n + size a + size b
        · rcases hAb.inner hkb.1 hkb.2 hk2.2 with h3 | h3
          · exact absurd ⟨by omega, by omega⟩ (hF _ h3)
          · omega
        · omega
      · have hnl : l ∉ lasts (.par a b) n := fun hm => by
          rcases List.mem_append.1 hm with hm | hm
          · exact hl3 hm
          · have := lasts_range b _ l hm; omega
        have h1 := hB.other l (by omega) (by simp only [size]; omega) hnl k hk
        simp only [size] at h1
        have hk2 := mem_after.1 hk
        by_cases hkb : n + size a ≤ k
        · rcases hAb.inner hkb (by omega) hk2.2 with h3 | h3
          · exact absurd ⟨by omega, by omega⟩ (hF _ h3)
          · omega
        · omega
    have hBb : Behind p V b (n + size a) c := by
      refine ⟨hB.nonneg, fun l hl => ?_, fun l hl1 hl2 hl3 k hk => ?_⟩
      · have h1 := hB.last l (by simp [lasts, hl])
        have hr := lasts_range b _ l hl
        refine ⟨fun k hk ho => h1.1 k hk ?_, h1.2⟩
        simp only [size]
        have hk2 := mem_after.1 hk
        by_cases hka : n ≤ k ∧ k < n + size a
        · rcases hAa.inner hka.1 hka.2 hk2.2 with h3 | h3
          · exact absurd ⟨by omega, by omega⟩ (hF _ h3)
          · omega
        · omega
      · have hnl : l ∉ lasts (.par a b) n := fun hm => by
          rcases List.mem_append.1 hm with hm | hm
          · have := lasts_range a _ l hm; omega
          · exact hl3 hm
        have h1 := hB.other l (by omega) (by simp only [size]; omega) hnl k hk
        simp only [size] at h1
        have hk2 := mem_after.1 hk
        by_cases hka : k < n + size a
        · rcases hAa.inner h1.1 hka hk2.2 with h3 | h3
          · exact absurd ⟨by omega, by omega⟩ (hF _ h3)
          · omega
        · omega
    obtain ⟨r0, r1, g, hg, r2⟩ := span_tails hc hT a n ls _ hAa (fun x hx hr => hF x hx (by omega)) hBa
    obtain ⟨s0, s1, f, hf, s2⟩ := span_tails hc hT b (n + size a) ls c hAb (fun x hx hr => hF x hx (by omega)) hBb
    refine ⟨by simp only [span]; omega, fun i hi1 hi2 => ?_, ?_⟩
    · simp only [size] at hi2
      simp only [span]
      by_cases hi : i < n + size a
      · have := r1 i hi1 hi; omega
      · have := s1 i (by omega) (by omega); omega
    · simp only [span, firsts, List.mem_append]
      by_cases h : span cap a ≤ span cap b
      · exact ⟨f, .inr hf, by omega⟩
      · exact ⟨g, .inl hg, by omega⟩
theorem foldl_max (T : List Int) {c : Int} (h0 : 0 ≤ c) (h1 : ∀ i, i < T.length → T.getD i 0 ≤ c) (h2 : ∃ i, i < T.length ∧ T.getD i 0 = c) : T.foldl max 0 = c := by
  have key : ∀ (T : List Int) (m : Int), m ≤ T.foldl max m ∧ (∀ x ∈ T, x ≤ T.foldl max m) ∧ ∀ c, m ≤ c → (∀ x ∈ T, x ≤ c) → T.foldl max m ≤ c := by
    intro T
    induction T with
    | nil => exact fun m => ⟨Int.le_refl _, fun _ h => (by cases h), fun _ h _ => h⟩
    | cons a r ih =>
      intro m
      obtain ⟨g1, g2, g3⟩ := ih (max m a)
      rw [List.foldl_cons]
      refine ⟨by omega, fun x hx => ?_, fun c hm h => g3 c (by have := h a (List.mem_cons_self ..); omega) (fun x hx => h x (List.mem_cons_of_mem _ hx))⟩
      rcases List.mem_cons.1 hx with rfl | hx
      · omega
      · exact g2 x hx
  obtain ⟨g1, g2, g3⟩ := key T 0
  obtain ⟨i, hi, hi2⟩ := h2
  have hm : T.getD i 0 ∈ T := by simp [List.getD, hi]
  have h3 := g2 _ hm
  have h4 := g3 c h0 (fun x hx => by
    obtain ⟨j, hj, rfl⟩ := List.mem_iff_getElem.1 hx
    have := h1 j hj
    simpa [List.getD, hj] using this)
  omega
/-- A weave's span is its plan's. -/
theorem weave_span {cap : L → Int} (hc : ∀ ds, 0 ≤ cap ds) {t : T} (hok : Ok (tasks cap t 0)) : spanF (tasks cap t 0) = span cap t := by
  obtain ⟨h1, h2⟩ := tailsF_rec hok
  have hl := tasks_length cap t 0
  have hB : Behind (tasks cap t 0) (tailsF (tasks cap t 0)) t 0 0 := by
    refine ⟨Int.le_refl _, fun l _ => ⟨fun k hk ho => ?_, .inl rfl⟩, fun l _ _ _ k hk => ?_⟩ <;>
    · have := (mem_after.1 hk).1
      omega
  obtain ⟨s0, s1, f, hf, s2⟩ := span_tails hc h2 t 0 [] 0 (at_top cap t) (fun x hx => by cases hx) hB
  have hfr := firsts_range t 0 f hf
  unfold spanF
  exact foldl_max _ s0 (fun i hi => by have := s1 i (Nat.zero_le _) (by omega); omega) ⟨f, by omega, by omega⟩
theorem sum_append (a b : List (Int × List Int)) : ((a ++ b).map (·.1)).sum = (a.map (·.1)).sum + (b.map (·.1)).sum := by rw [List.map_append, List.sum_append]
theorem link_fst (m : Nat) (fs ls : List Nat) (ts : List (Int × List Int)) : (link m fs ls ts).map (·.1) = ts.map (·.1) := by
  unfold link
  apply List.ext_getElem?
  intro i
  simp only [List.getElem?_map, List.getElem?_mapIdx, Option.map_map]
  cases ts[i]? with
  | none => rfl
  | some t => simp only [Option.map_some, Function.comp_apply]; split <;> rfl
/-- A weave's work is its plan's. -/
theorem weave_work (cap : L → Int) : ∀ (t : T) (n : Nat), ((tasks cap t n).map (·.1)).sum = work cap t
  | .num ds, _ => by simp [tasks, work]
  | .seq a b, n => by rw [tasks, sum_append, link_fst, weave_work cap a, weave_work cap b]; rfl
  | .par a b, n => by rw [tasks, sum_append, weave_work cap a, weave_work cap b]; rfl
end Go.X.Wv
