/- Weaves, in plain Lean, no program in sight: a weave in signs is the weave. -/
import Derived.Test.YtgegppbjpaeljaaDoorWp
set_option linter.unusedVariables false
set_option linter.unusedSimpArgs false
namespace Go.X.Wv

theorem takeWhile_ext (p : UInt8 → Bool) {x : L} (hx : ∀ b, x.head? = some b → p b = false) : ∀ s : L, (s ++ x).takeWhile p = s.takeWhile p
  | [] => by
    cases x with
    | nil => rfl
    | cons b r => simp [List.takeWhile_cons, hx b rfl]
  | b :: r => by
    simp only [List.cons_append, List.takeWhile_cons]
    split
    · rw [takeWhile_ext p hx r]
    · rfl
theorem dropWhile_ext (p : UInt8 → Bool) {x : L} (hx : ∀ b, x.head? = some b → p b = false) : ∀ s : L, (s ++ x).dropWhile p = s.dropWhile p ++ x
  | [] => by
    cases x with
    | nil => rfl
    | cons b r => simp [List.dropWhile_cons, hx b rfl]
  | b :: r => by
    simp only [List.cons_append, List.dropWhile_cons]
    split
    · rw [dropWhile_ext p hx r]
    · rfl
/-- What may stand behind a weave in signs. -/
def Shut (x : L) : Prop := ∃ r, x = 41 :: r
theorem head_ext {s x : L} (hs : s ≠ []) : (s ++ x).head? = s.head? := by
  cases s with
  | nil => exact absurd rfl hs
  | cons b s => rfl
theorem tail_ext {s x : L} (hs : s ≠ []) : (s ++ x).tail = s.tail ++ x := by
  cases s with
  | nil => exact absurd rfl hs
  | cons b s => rfl
theorem ne_of_head {s : L} {b : UInt8} (h : s.head? = some b) : s ≠ [] := by
  rintro rfl
  cases h
theorem number_ext {s x : L} {t : T} {r : L} (hx : Shut x) (h : number s = some (t, r)) : number (s ++ x) = some (t, r ++ x) := by
  obtain ⟨y, rfl⟩ := hx
  have hd : ∀ b, (41 :: y : L).head? = some b → isDig b = false := by
    intro b hb
    simp only [List.head?_cons, Option.some.injEq] at hb
    subst hb
    rfl
  have hs : s ≠ [] := by
    rintro rfl
    simp [number] at h
  unfold number at h ⊢
  rw [takeWhile_ext isDig hd s, dropWhile_ext isDig hd s, head_ext hs]
  split at h
  · cases h
  · rename_i hc
    rw [if_neg hc]
    simp only [Option.some.injEq, Prod.mk.injEq] at h ⊢
    exact ⟨h.1, by rw [h.2]⟩
mutual
theorem one_ext : ∀ (f : Nat) {s x : L} {t : T} {r : L}, Shut x → one f s = some (t, r) → one f (s ++ x) = some (t, r ++ x)
  | 0, s, x, t, r, hx, h => by simp [one] at h
  | f + 1, s, x, t, r, hx, h => by
    have hs : s ≠ [] := by
      rintro rfl
      simp [one, number] at h
    unfold one at h ⊢
    rw [head_ext hs, tail_ext hs]
    by_cases h4 : s.head? = some 40
    · rw [if_pos h4] at h ⊢
      cases hb : beside f s.tail with
      | none => rw [hb] at h; cases h
      | some y =>
        obtain ⟨c, r1⟩ := y
        rw [hb] at h
        rw [beside_ext f hx hb]
        dsimp only at h ⊢
        by_cases h5 : r1.head? = some 41
        · have hr := ne_of_head h5
          rw [if_pos h5] at h
          rw [head_ext hr, tail_ext hr, if_pos h5]
          simp only [Option.some.injEq, Prod.mk.injEq] at h ⊢
          exact ⟨h.1, by rw [h.2]⟩
        · rw [if_neg h5] at h; cases h
    · rw [if_neg h4] at h ⊢
      exact number_ext hx h
theorem behind_ext : ∀ (f : Nat) {s x : L} {t : T} {r : L}, Shut x → behind f s = some (t, r) → behind f (s ++ x) = some (t, r ++ x)
  | 0, s, x, t, r, hx, h => by simp [behind] at h
  | f + 1, s, x, t, r, hx, h => by
    unfold behind at h ⊢
    cases hb : one f s with
    | none => rw [hb] at h; cases h
    | some y =>
      obtain ⟨c, r1⟩ := y
      rw [hb] at h
      rw [one_ext f hx hb]
      exact behindL_ext f hx h
theorem behindL_ext : ∀ (f : Nat) {c : T} {s x : L} {t : T} {r : L}, Shut x → behindL f c s = some (t, r) → behindL f c (s ++ x) = some (t, r ++ x)
  | 0, c, s, x, t, r, hx, h => by simp [behindL] at h
  | f + 1, c, s, x, t, r, hx, h => by
    unfold behindL at h ⊢
    by_cases h4 : s.head? = some 59
    · have hs := ne_of_head h4
      rw [head_ext hs, tail_ext hs]
      rw [if_pos h4] at h ⊢
      cases hb : one f s.tail with
      | none => rw [hb] at h; cases h
      | some y =>
        obtain ⟨d, r1⟩ := y
        rw [hb] at h
        rw [one_ext f hx hb]
        exact behindL_ext f hx h
    · have h5 : (s ++ x).head? ≠ some 59 := by
        obtain ⟨y, rfl⟩ := hx
        cases s with
        | nil => intro h6; cases h6
        | cons b s => exact h4
      rw [if_neg h4] at h
      rw [if_neg h5]
      simp only [Option.some.injEq, Prod.mk.injEq] at h ⊢
      exact ⟨h.1, by rw [h.2]⟩
theorem beside_ext : ∀ (f : Nat) {s x : L} {t : T} {r : L}, Shut x → beside f s = some (t, r) → beside f (s ++ x) = some (t, r ++ x)
  | 0, s, x, t, r, hx, h => by simp [beside] at h
  | f + 1, s, x, t, r, hx, h => by
    unfold beside at h ⊢
    cases hb : behind f s with
    | none => rw [hb] at h; cases h
    | some y =>
      obtain ⟨c, r1⟩ := y
      rw [hb] at h
      rw [behind_ext f hx hb]
      exact besideL_ext f hx h
theorem besideL_ext : ∀ (f : Nat) {c : T} {s x : L} {t : T} {r : L}, Shut x → besideL f c s = some (t, r) → besideL f c (s ++ x) = some (t, r ++ x)
  | 0, c, s, x, t, r, hx, h => by simp [besideL] at h
  | f + 1, c, s, x, t, r, hx, h => by
    unfold besideL at h ⊢
    by_cases h4 : s.head? = some 124
    · have hs := ne_of_head h4
      rw [head_ext hs, tail_ext hs]
      rw [if_pos h4] at h ⊢
      cases hb : behind f s.tail with
      | none => rw [hb] at h; cases h
      | some y =>
        obtain ⟨d, r1⟩ := y
        rw [hb] at h
        rw [behind_ext f hx hb]
        exact besideL_ext f hx h
    · have h5 : (s ++ x).head? ≠ some 124 := by
        obtain ⟨y, rfl⟩ := hx
        cases s with
        | nil => intro h6; cases h6
        | cons b s => exact h4
      rw [if_neg h4] at h
      rw [if_neg h5]
      simp only [Option.some.injEq, Prod.mk.injEq] at h ⊢
      exact ⟨h.1, by rw [h.2]⟩
end
theorem parse_some {s : L} {t : T} : parse s = some t ↔ beside (3 * s.length + 3) s = some (t, []) := by
  unfold parse
  constructor
  · intro h
    split at h
    · rename_i t' hb
      simp only [Option.some.injEq] at h
      rw [hb, h]
    · cases h
  · intro h
    rw [h]
/-- A weave in signs. -/
theorem parse_signs {s : L} {t : T} (h : parse s = some t) : parse (40 :: (s ++ [41])) = some t := by
  rw [parse_some] at h ⊢
  have h1 : beside (3 * s.length + 6) s = some (t, []) := by rw [beside_enough s _ (by omega), h]
  have h2 : beside (3 * s.length + 6) (s ++ [41]) = some (t, [41]) := beside_ext _ ⟨[], rfl⟩ h1
  have hl : 3 * (40 :: (s ++ [41]) : L).length + 3 = 3 * s.length + 9 := by simp; omega
  rw [hl]
  have h3 : one (3 * s.length + 7) (40 :: (s ++ [41])) = some (t, []) := by
    rw [one, if_pos (by rfl : (40 :: (s ++ [41]) : L).head? = some 40), List.tail_cons, h2]
    rfl
  have h4 : behind (3 * s.length + 8) (40 :: (s ++ [41])) = some (t, []) := by
    rw [behind, h3]
    rfl
  rw [beside, h4]
  rfl
def signs : Nat → L → L
  | 0, s => s
  | n + 1, s => 40 :: (signs n s ++ [41])
theorem signs_length (s : L) : ∀ n, (signs n s).length = s.length + 2 * n
  | 0 => rfl
  | n + 1 => by simp [signs, signs_length s n]; omega
theorem parse_signsN {s : L} {t : T} (h : parse s = some t) : ∀ n, parse (signs n s) = some t
  | 0 => h
  | n + 1 => parse_signs (parse_signsN h n)
end Go.X.Wv
