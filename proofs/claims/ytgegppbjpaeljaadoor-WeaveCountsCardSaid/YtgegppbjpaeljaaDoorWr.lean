/- Weaves, in plain Lean, no program in sight: numbers read up to a bound, by the program and by the reference; what both come to. -/
import Derived.Test.YtgegppbjpaeljaaDoorWp
set_option linter.unusedVariables false
set_option linter.unusedSimpArgs false
namespace Go.X.Wv

/-- The reference's number. -/
def capR (ds : L) : Int := ds.foldl (fun n b => if n < 1000 then n * 10 + ((b.toNat - 48 : Nat) : Int) else n) 0
def stepR (n : Int) (b : UInt8) : Int := if n < 1000 then n * 10 + ((b.toNat - 48 : Nat) : Int) else n
theorem foldR (ds : L) : capR ds = ds.foldl stepR 0 := rfl
theorem stepR_bound {n : Int} {b : UInt8} (h : isDig b = true) (h0 : 0 ≤ n) (h1 : n ≤ 9999) : 0 ≤ stepR n b ∧ stepR n b ≤ 9999 := by
  simp only [isDig, Bool.and_eq_true, decide_eq_true_eq] at h
  unfold stepR
  split <;> omega
theorem foldR_bound : ∀ (ds : L) (n : Int), ds.all isDig = true → 0 ≤ n → n ≤ 9999 → 0 ≤ ds.foldl stepR n ∧ ds.foldl stepR n ≤ 9999
  | [], n, _, h0, h1 => ⟨h0, h1⟩
  | b :: r, n, h, h0, h1 => by
    simp only [List.all_cons, Bool.and_eq_true] at h
    have h2 := stepR_bound h.1 h0 h1
    exact foldR_bound r _ h.2 h2.1 h2.2
theorem fold_same : ∀ (ds : L) (n : Nat) (m : Int), ds.all isDig = true → (m = n ∧ m < 1000 ∨ 1000 ≤ m ∧ 1000 ≤ n) →
    ((ds.foldl stepR m = (ds.foldl (fun n b => n * 10 + (b.toNat - 48)) n : Nat) ∧ ds.foldl stepR m < 1000) ∨ (1000 ≤ ds.foldl stepR m ∧ 1000 ≤ ds.foldl (fun n b => n * 10 + (b.toNat - 48)) n))
  | [], n, m, _, h => h
  | b :: r, n, m, hd, h => by
    simp only [List.all_cons, Bool.and_eq_true] at hd
    have hb := hd.1
    simp only [isDig, Bool.and_eq_true, decide_eq_true_eq] at hb
    refine fold_same r _ _ hd.2 ?_
    unfold stepR
    dsimp only
    rcases h with ⟨h1, h2⟩ | ⟨h1, h2⟩
    · rw [if_pos h2]
      omega
    · rw [if_neg (by omega)]
      omega
/-- Where one of them is not too much, they are the same number. -/
theorem cap_same {ds : L} (h : ds.all isDig = true) : (capR ds = (val ds : Int) ∧ val ds < 1000) ∨ (1000 ≤ capR ds ∧ 1000 ≤ val ds) := by
  have := fold_same ds 0 0 h (.inl ⟨rfl, by decide⟩)
  rw [foldR]
  unfold val
  omega

/-- All numbers of a tree are digits; all are at most 20. -/
def digits : T → Prop
  | .num ds => ds.all isDig = true
  | .seq a b => digits a ∧ digits b
  | .par a b => digits a ∧ digits b
def small (cap : L → Int) : T → Prop
  | .num ds => cap ds ≤ 20
  | .seq a b => small cap a ∧ small cap b
  | .par a b => small cap a ∧ small cap b
theorem tasks_small (cap : L → Int) : ∀ (t : T) (n : Nat), (∀ x ∈ tasks cap t n, x.1 ≤ 20) ↔ small cap t
  | .num ds, n => by simp [tasks, small]
  | .par a b, n => by
    simp only [tasks, small, List.mem_append]
    rw [← tasks_small cap a n, ← tasks_small cap b (n + size a)]
    exact ⟨fun h => ⟨fun x hx => h x (.inl hx), fun x hx => h x (.inr hx)⟩, fun h x hx => hx.elim (h.1 x) (h.2 x)⟩
  | .seq a b, n => by
    simp only [tasks, small, List.mem_append]
    rw [← tasks_small cap a n, ← tasks_small cap b (n + size a)]
    have key : ∀ (m : Nat) (fs ls : List Nat) (l : List (Int × List Int)), (∀ x ∈ link m fs ls l, x.1 ≤ 20) ↔ (∀ x ∈ l, x.1 ≤ 20) := by
      intro m fs ls l
      have hfst : (link m fs ls l).map (·.1) = l.map (·.1) := by
        apply List.ext_getElem?
        intro j
        simp only [link, List.getElem?_map, List.getElem?_mapIdx]
        cases l[j]? with
        | none => rfl
        | some y =>
          simp only [Option.map_some]
          split <;> rfl
      constructor
      · intro h x hx
        have : x.1 ∈ (link m fs ls l).map (·.1) := by rw [hfst]; exact List.mem_map_of_mem hx
        obtain ⟨y, hy, he⟩ := List.mem_map.1 this
        rw [← he]
        exact h y hy
      · intro h x hx
        have : x.1 ∈ l.map (·.1) := by rw [← hfst]; exact List.mem_map_of_mem hx
        obtain ⟨y, hy, he⟩ := List.mem_map.1 this
        rw [← he]
        exact h y hy
    constructor
    · intro h
      exact ⟨fun x hx => h x (.inl hx), (key _ _ _ _).1 fun x hx => h x (.inr hx)⟩
    · intro h x hx
      exact hx.elim (h.1 x) ((key _ _ _ _).2 h.2 x)
theorem same_of {c1 c2 : L → Int} (hc : ∀ ds, ds.all isDig = true → c1 ds ≤ 20 → c1 ds = c2 ds) : ∀ (t : T), digits t → small c1 t → (∀ n, tasks c1 t n = tasks c2 t n) ∧ work c1 t = work c2 t ∧ span c1 t = span c2 t
  | .num ds, hd, hs => by
    have := hc ds hd hs
    exact ⟨fun n => by simp only [tasks, this], this, this⟩
  | .seq a b, hd, hs => by
    obtain ⟨a1, a2, a3⟩ := same_of hc a hd.1 hs.1
    obtain ⟨b1, b2, b3⟩ := same_of hc b hd.2 hs.2
    exact ⟨fun n => by simp only [tasks, a1, b1], by simp only [work, a2, b2], by simp only [span, a3, b3]⟩
  | .par a b, hd, hs => by
    obtain ⟨a1, a2, a3⟩ := same_of hc a hd.1 hs.1
    obtain ⟨b1, b2, b3⟩ := same_of hc b hd.2 hs.2
    exact ⟨fun n => by simp only [tasks, a1, b1], by simp only [work, a2, b2], by simp only [span, a3, b3]⟩
theorem small_same {c1 c2 : L → Int} (hc : ∀ ds, ds.all isDig = true → (c1 ds ≤ 20 ↔ c2 ds ≤ 20)) : ∀ (t : T), digits t → (small c1 t ↔ small c2 t)
  | .num ds, hd => hc ds hd
  | .seq a b, hd => and_congr (small_same hc a hd.1) (small_same hc b hd.2)
  | .par a b, hd => and_congr (small_same hc a hd.1) (small_same hc b hd.2)
theorem number_digits {s : L} {t : T} {r : L} (h : number s = some (t, r)) : digits t := by
  unfold number at h
  split at h
  · cases h
  · simp only [Option.some.injEq, Prod.mk.injEq] at h
    obtain ⟨rfl, rfl⟩ := h
    show (s.takeWhile isDig).all isDig = true
    simp [List.all_takeWhile]
mutual
theorem one_digits : ∀ (f : Nat) {s : L} {t : T} {r : L}, one f s = some (t, r) → digits t
  | 0, s, t, r, h => by simp [one] at h
  | f + 1, s, t, r, h => by
    unfold one at h
    split at h
    · split at h
      · rename_i c r1 hb
        have h1 := beside_digits f hb
        split at h
        · simp only [Option.some.injEq, Prod.mk.injEq] at h
          obtain ⟨rfl, rfl⟩ := h
          exact h1
        · cases h
      · cases h
    · exact number_digits h
theorem behind_digits : ∀ (f : Nat) {s : L} {t : T} {r : L}, behind f s = some (t, r) → digits t
  | 0, s, t, r, h => by simp [behind] at h
  | f + 1, s, t, r, h => by
    unfold behind at h
    split at h
    · rename_i c r1 hb
      exact behindL_digits f (one_digits f hb) h
    · cases h
theorem behindL_digits : ∀ (f : Nat) {c : T} {s : L} {t : T} {r : L}, digits c → behindL f c s = some (t, r) → digits t
  | 0, c, s, t, r, hc, h => by simp [behindL] at h
  | f + 1, c, s, t, r, hc, h => by
    unfold behindL at h
    split at h
    · split at h
      · rename_i d r1 hb
        exact behindL_digits f (c := .seq c d) ⟨hc, one_digits f hb⟩ h
      · cases h
    · simp only [Option.some.injEq, Prod.mk.injEq] at h
      obtain ⟨rfl, rfl⟩ := h
      exact hc
theorem beside_digits : ∀ (f : Nat) {s : L} {t : T} {r : L}, beside f s = some (t, r) → digits t
  | 0, s, t, r, h => by simp [beside] at h
  | f + 1, s, t, r, h => by
    unfold beside at h
    split at h
    · rename_i c r1 hb
      exact besideL_digits f (behind_digits f hb) h
    · cases h
theorem besideL_digits : ∀ (f : Nat) {c : T} {s : L} {t : T} {r : L}, digits c → besideL f c s = some (t, r) → digits t
  | 0, c, s, t, r, hc, h => by simp [besideL] at h
  | f + 1, c, s, t, r, hc, h => by
    unfold besideL at h
    split at h
    · split at h
      · rename_i d r1 hb
        exact besideL_digits f (c := .par c d) ⟨hc, behind_digits f hb⟩ h
      · cases h
    · simp only [Option.some.injEq, Prod.mk.injEq] at h
      obtain ⟨rfl, rfl⟩ := h
      exact hc
end
theorem parse_digits {s : L} {t : T} (h : parse s = some t) : digits t := by
  unfold parse at h
  split at h
  · rename_i t' hb
    simp only [Option.some.injEq] at h
    subst h
    exact beside_digits _ hb
  · cases h
end Go.X.Wv
