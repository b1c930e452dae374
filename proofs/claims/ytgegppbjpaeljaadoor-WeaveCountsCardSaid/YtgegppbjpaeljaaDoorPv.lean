/- Weaves joined, in plain Lean, no program in sight: one behind the other in signs, one beside the other; the numbers are at least 1. -/
import Derived.Test.YtgegppbjpaeljaaDoorPu
import Derived.Test.YtgegppbjpaeljaaDoorWr
import Derived.Test.YtgegppbjpaeljaaDoorWd
set_option linter.unusedVariables false
set_option linter.unusedSimpArgs false
namespace Go.X.Wv
def NoD (x : L) : Prop := ∀ b, x.head? = some b → isDig b = false
def NoB (k : UInt8) (x : L) : Prop := x.head? ≠ some k
theorem takeWhile_ne {s x : L} (h : s.dropWhile isDig ≠ []) : (s ++ x).takeWhile isDig = s.takeWhile isDig ∧ (s ++ x).dropWhile isDig = s.dropWhile isDig ++ x := by
  induction s with
  | nil => exact absurd rfl h
  | cons b r ih =>
    rw [List.cons_append, List.takeWhile_cons, List.takeWhile_cons, List.dropWhile_cons, List.dropWhile_cons]
    rw [List.dropWhile_cons] at h
    cases hb : isDig b with
    | true =>
      rw [hb] at h
      have := ih h
      simp only [if_true]
      exact ⟨by rw [this.1], this.2⟩
    | false => exact ⟨rfl, rfl⟩
theorem number_far {s x : L} {t : T} {r : L} (hx : r ≠ [] ∨ NoD x) (h : number s = some (t, r)) : number (s ++ x) = some (t, r ++ x) := by
  have hs : s ≠ [] := by
    rintro rfl
    simp [number] at h
  have key : (s ++ x).takeWhile isDig = s.takeWhile isDig ∧ (s ++ x).dropWhile isDig = s.dropWhile isDig ++ x := by
    rcases hx with hx | hx
    · refine takeWhile_ne ?_
      unfold number at h
      split at h
      · cases h
      · simp only [Option.some.injEq, Prod.mk.injEq] at h
        rw [h.2]
        exact hx
    · exact ⟨takeWhile_ext isDig hx s, dropWhile_ext isDig hx s⟩
  unfold number at h ⊢
  rw [key.1, key.2, head_ext hs]
  split at h
  · cases h
  · rename_i hc
    rw [if_neg hc]
    simp only [Option.some.injEq, Prod.mk.injEq] at h ⊢
    exact ⟨h.1, by rw [h.2]⟩
theorem ne_of_suffix {r s : L} (h : r <:+ s) (hr : r ≠ []) : s ≠ [] := by
  rintro rfl
  exact hr (List.suffix_nil.1 h)
mutual
theorem one_far : ∀ (f g : Nat) {s x : L} {t : T} {r : L}, (r ≠ [] ∨ NoD x) → one f s = some (t, r) → one (f + g) (s ++ x) = some (t, r ++ x)
  | 0, g, s, x, t, r, hx, h => by simp [one] at h
  | f + 1, g, s, x, t, r, hx, h => by
    rw [Nat.add_right_comm]
    unfold one at h ⊢
    by_cases h4 : s.head? = some 40
    · have hs := ne_of_head h4
      rw [head_ext hs, tail_ext hs]
      rw [if_pos h4] at h ⊢
      cases hb : beside f s.tail with
      | none => rw [hb] at h; cases h
      | some y =>
        obtain ⟨c, r1⟩ := y
        rw [hb] at h
        simp only at h
        split at h
        · rename_i hr
          have hr1 := ne_of_head hr
          rw [beside_far f g (.inl hr1) hb]
          simp only
          rw [head_ext hr1, if_pos hr, tail_ext hr1]
          simp only [Option.some.injEq, Prod.mk.injEq] at h ⊢
          exact ⟨h.1, by rw [h.2]⟩
        · cases h
    · have hs : s ≠ [] := by
        rintro rfl
        rw [if_neg h4] at h
        simp [number] at h
      rw [if_neg h4] at h
      rw [head_ext hs, if_neg h4]
      exact number_far hx h
theorem behind_far : ∀ (f g : Nat) {s x : L} {t : T} {r : L}, (r ≠ [] ∨ (NoD x ∧ NoB 59 x)) → behind f s = some (t, r) → behind (f + g) (s ++ x) = some (t, r ++ x)
  | 0, g, s, x, t, r, hx, h => by simp [behind] at h
  | f + 1, g, s, x, t, r, hx, h => by
    rw [Nat.add_right_comm]
    unfold behind at h ⊢
    cases hb : one f s with
    | none => rw [hb] at h; cases h
    | some y =>
      obtain ⟨c, r1⟩ := y
      rw [hb] at h
      have hr := (behindL_fact f h).1
      rw [one_far f g (hx.imp (ne_of_suffix hr) (·.1)) hb]
      exact behindL_far f g hx h
theorem behindL_far : ∀ (f g : Nat) {c : T} {s x : L} {t : T} {r : L}, (r ≠ [] ∨ (NoD x ∧ NoB 59 x)) → behindL f c s = some (t, r) → behindL (f + g) c (s ++ x) = some (t, r ++ x)
  | 0, g, c, s, x, t, r, hx, h => by simp [behindL] at h
  | f + 1, g, c, s, x, t, r, hx, h => by
    rw [Nat.add_right_comm]
    unfold behindL at h ⊢
    by_cases h4 : s.head? = some 59
    · have hs := ne_of_head h4
      rw [head_ext hs, tail_ext hs]
      rw [if_pos h4] at h ⊢
      cases hb : one f s.tail with
      | none => rw [hb] at h; cases h
      | some y =>
        obtain ⟨d, r1⟩ := y
        rw [hb] at h
        have hr := (behindL_fact f h).1
        rw [one_far f g (hx.imp (ne_of_suffix hr) (·.1)) hb]
        exact behindL_far f g hx h
    · rw [if_neg h4] at h
      simp only [Option.some.injEq, Prod.mk.injEq] at h
      obtain ⟨rfl, rfl⟩ := h
      have h5 : (s ++ x).head? ≠ some 59 := by
        cases s with
        | nil => exact (hx.resolve_left (fun h => h rfl)).2
        | cons b s => exact h4
      rw [if_neg h5]
theorem beside_far : ∀ (f g : Nat) {s x : L} {t : T} {r : L}, (r ≠ [] ∨ ((NoD x ∧ NoB 59 x) ∧ NoB 124 x)) → beside f s = some (t, r) → beside (f + g) (s ++ x) = some (t, r ++ x)
  | 0, g, s, x, t, r, hx, h => by simp [beside] at h
  | f + 1, g, s, x, t, r, hx, h => by
    rw [Nat.add_right_comm]
    unfold beside at h ⊢
    cases hb : behind f s with
    | none => rw [hb] at h; cases h
    | some y =>
      obtain ⟨c, r1⟩ := y
      rw [hb] at h
      have hr := (besideL_fact f h).1
      rw [behind_far f g (hx.imp (ne_of_suffix hr) (·.1)) hb]
      exact besideL_far f g hx h
theorem besideL_far : ∀ (f g : Nat) {c : T} {s x : L} {t : T} {r : L}, (r ≠ [] ∨ ((NoD x ∧ NoB 59 x) ∧ NoB 124 x)) → besideL f c s = some (t, r) → besideL (f + g) c (s ++ x) = some (t, r ++ x)
  | 0, g, c, s, x, t, r, hx, h => by simp [besideL] at h
  | f + 1, g, c, s, x, t, r, hx, h => by
    rw [Nat.add_right_comm]
    unfold besideL at h ⊢
    by_cases h4 : s.head? = some 124
    · have hs := ne_of_head h4
      rw [head_ext hs, tail_ext hs]
      rw [if_pos h4] at h ⊢
      cases hb : behind f s.tail with
      | none => rw [hb] at h; cases h
      | some y =>
        obtain ⟨d, r1⟩ := y
        rw [hb] at h
        have hr := (besideL_fact f h).1
        rw [behind_far f g (hx.imp (ne_of_suffix hr) (·.1)) hb]
        exact besideL_far f g hx h
    · rw [if_neg h4] at h
      simp only [Option.some.injEq, Prod.mk.injEq] at h
      obtain ⟨rfl, rfl⟩ := h
      have h5 : (s ++ x).head? ≠ some 124 := by
        cases s with
        | nil => exact (hx.resolve_left (fun h => h rfl)).2
        | cons b s => exact h4
      rw [if_neg h5]
end
theorem parse_of {s : L} {t : T} {F : Nat} (h : beside F s = some (t, [])) : parse s = some t := by
  rw [parse_some]
  have h1 := beside_far F (3 * s.length + 3) (x := []) (.inr ⟨⟨fun b h => (by cases h), fun h => (by cases h)⟩, fun h => (by cases h)⟩) h
  rw [List.append_nil, List.append_nil] at h1
  rw [← beside_enough s (F + (3 * s.length + 3)) (by omega)]
  exact h1
/-- One weave behind the other, each in signs. -/
theorem parse_seq {a b : L} {ta tb : T} (ha : parse a = some ta) (hb : parse b = some tb) : parse (40 :: (a ++ 41 :: 59 :: 40 :: (b ++ [41]))) = some (.seq ta tb) := by
  rw [parse_some] at ha hb
  obtain ⟨A, hA⟩ : ∃ A, 3 * a.length + 3 = A := ⟨_, rfl⟩
  obtain ⟨B, hB⟩ : ∃ B, 3 * b.length + 3 = B := ⟨_, rfl⟩
  rw [hA] at ha
  rw [hB] at hb
  have h41 : ∀ y : L, ((NoD (41 :: y) ∧ NoB 59 (41 :: y)) ∧ NoB 124 (41 :: y)) := fun y => ⟨⟨fun b h => (by cases h; rfl), fun h => (by cases h)⟩, fun h => (by cases h)⟩
  have h1 := beside_far A (B + 1) (x := 41 :: 59 :: 40 :: (b ++ [41])) (.inr (h41 _)) ha
  have h2 := beside_far B A (x := [41]) (.inr (h41 _)) hb
  have h3 : one (A + (B + 1) + 1) (40 :: (a ++ 41 :: 59 :: 40 :: (b ++ [41]))) = some (ta, 59 :: 40 :: (b ++ [41])) := by
    rw [one, if_pos List.head?_cons, List.tail_cons, h1]
    rfl
  have h4 : one (A + (B + 1)) (40 :: (b ++ [41])) = some (tb, []) := by
    rw [show A + (B + 1) = (B + A) + 1 from by omega, one, if_pos List.head?_cons, List.tail_cons, h2]
    rfl
  have h5 : behind (A + (B + 1) + 2) (40 :: (a ++ 41 :: 59 :: 40 :: (b ++ [41]))) = some (.seq ta tb, []) := by
    rw [behind, h3]
    show behindL (A + (B + 1) + 1) ta (59 :: 40 :: (b ++ [41])) = _
    rw [behindL, if_pos List.head?_cons, List.tail_cons, h4]
    show behindL (A + (B + 1)) (.seq ta tb) [] = _
    rw [show A + (B + 1) = (A + B) + 1 from by omega, behindL, if_neg (by simp)]
  refine parse_of (F := A + (B + 1) + 3) ?_
  rw [beside, h5]
  show besideL (A + (B + 1) + 2) (.seq ta tb) [] = _
  rw [besideL, if_neg (by simp)]
/-- t' comes to what t and u come to, beside each other. -/
structure Like (t u t' : T) : Prop where
  size : size t' = size t + size u
  work : ∀ cap, work cap t' = work cap t + work cap u
  span : ∀ cap, span cap t' = max (span cap t) (span cap u)
  small : ∀ cap, small cap t' ↔ small cap t ∧ small cap u
theorem Like.par {t u t' d : T} (h : Like t u t') : Like t (.par u d) (.par t' d) where
  size := by simp only [Wv.size, h.size]; omega
  work cap := by simp only [Wv.work, h.work]; omega
  span cap := by simp only [Wv.span, h.span]; omega
  small cap := by simp only [Wv.small, h.small]; exact and_assoc
theorem graft {t : T} : ∀ (f g : Nat) {d c : T} {s : L} {u : T}, Like t d c → besideL f d s = some (u, []) → ∃ t', besideL (f + g) c s = some (t', []) ∧ Like t u t'
  | 0, g, d, c, s, u, hl, h => by simp [besideL] at h
  | f + 1, g, d, c, s, u, hl, h => by
    rw [Nat.add_right_comm]
    unfold besideL at h ⊢
    by_cases h4 : s.head? = some 124
    · rw [if_pos h4] at h ⊢
      cases hb : behind f s.tail with
      | none => rw [hb] at h; cases h
      | some y =>
        obtain ⟨e, r1⟩ := y
        rw [hb] at h
        have h5 := behind_far f g (x := []) (.inr ⟨fun b h => (by cases h), fun h => (by cases h)⟩) hb
        rw [List.append_nil, List.append_nil] at h5
        rw [h5]
        exact graft f g hl.par h
    · rw [if_neg h4] at h ⊢
      simp only [Option.some.injEq, Prod.mk.injEq] at h
      obtain ⟨rfl, rfl⟩ := h
      exact ⟨c, rfl, hl⟩
theorem besideL_join : ∀ (f g : Nat) {c : T} {s : L} {t : T} (b : L), besideL f c s = some (t, []) → ∃ F, g ≤ F ∧ besideL (f + g) c (s ++ 124 :: b) = besideL (F + 1) t (124 :: b)
  | 0, g, c, s, t, b, h => by simp [besideL] at h
  | f + 1, g, c, s, t, b, h => by
    unfold besideL at h
    by_cases h4 : s.head? = some 124
    · have hs := ne_of_head h4
      rw [if_pos h4] at h
      cases hb : behind f s.tail with
      | none => rw [hb] at h; cases h
      | some y =>
        obtain ⟨d, r1⟩ := y
        rw [hb] at h
        obtain ⟨F, h1, h2⟩ := besideL_join f g b h
        refine ⟨F, h1, ?_⟩
        rw [Nat.add_right_comm, besideL, head_ext hs, tail_ext hs, if_pos h4, behind_far f g (.inr ⟨fun b h => (by cases h; rfl), fun h => (by cases h)⟩) hb]
        exact h2
    · rw [if_neg h4] at h
      simp only [Option.some.injEq, Prod.mk.injEq] at h
      obtain ⟨rfl, rfl⟩ := h
      exact ⟨f + g, by omega, by rw [List.nil_append, Nat.add_right_comm]⟩
/-- One weave beside the other. -/
theorem parse_par {a b : L} {ta tb : T} (ha : parse a = some ta) (hb : parse b = some tb) : ∃ t', parse (a ++ 124 :: b) = some t' ∧ Like ta tb t' := by
  rw [parse_some] at ha hb
  rw [beside] at ha hb
  cases hca : behind (3 * a.length + 2) a with
  | none => rw [hca] at ha; cases ha
  | some y =>
  obtain ⟨c, r⟩ := y
  rw [hca] at ha
  cases hcb : behind (3 * b.length + 2) b with
  | none => rw [hcb] at hb; cases hb
  | some z =>
  obtain ⟨d, q⟩ := z
  rw [hcb] at hb
  have h1 := behind_far _ (3 * b.length + 2) (x := 124 :: b) (.inr ⟨fun b h => (by cases h; rfl), fun h => (by cases h)⟩) hca
  obtain ⟨F, h2, h3⟩ := besideL_join _ (3 * b.length + 2) b ha
  obtain ⟨G, rfl⟩ : ∃ G, F = 3 * b.length + 2 + G := ⟨F - (3 * b.length + 2), by omega⟩
  have h4 := behind_far _ G (x := []) (.inr ⟨fun b h => (by cases h), fun h => (by cases h)⟩) hcb
  rw [List.append_nil, List.append_nil] at h4
  have hl : Like ta d (.par ta d) := ⟨rfl, fun _ => rfl, fun _ => rfl, fun _ => Iff.rfl⟩
  obtain ⟨t', h5, h6⟩ := graft _ G hl hb
  refine ⟨t', parse_of (F := 3 * a.length + 2 + (3 * b.length + 2) + 1) ?_, h6⟩
  rw [beside, h1]
  show besideL _ c (r ++ 124 :: b) = _
  rw [h3, besideL, if_pos List.head?_cons, List.tail_cons, h4]
  exact h5
end Go.X.Wv
