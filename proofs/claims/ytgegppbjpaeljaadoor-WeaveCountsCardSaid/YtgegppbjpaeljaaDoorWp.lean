/- Weaves, in plain Lean, no program in sight: the tree of a text, its tasks, firsts, lasts, work and span; the reading of a text by a fuelled function; that more fuel turns nothing. -/
import Derived.Test.YtgegppbjpaeljaaDoorE
set_option linter.unusedVariables false
set_option linter.unusedSimpArgs false
namespace Go.X.Wv

inductive T where
  | num (ds : List UInt8)
  | seq (a b : T)
  | par (a b : T)
deriving Inhabited

abbrev L := List UInt8
def isDig (b : UInt8) : Bool := decide (48 ≤ b.toNat) && decide (b.toNat ≤ 57)
def number (s : L) : Option (T × L) := if (s.takeWhile isDig).isEmpty || s.head? == some 48 then none else some (.num (s.takeWhile isDig), s.dropWhile isDig)

mutual
def one : Nat → L → Option (T × L)
  | 0, _ => none
  | f + 1, s => if s.head? = some 40 then (match beside f s.tail with
      | some (c, r) => if r.head? = some 41 then some (c, r.tail) else none
      | none => none)
    else number s
def behind : Nat → L → Option (T × L)
  | 0, _ => none
  | f + 1, s => match one f s with
    | some (c, r) => behindL f c r
    | none => none
def behindL : Nat → T → L → Option (T × L)
  | 0, _, _ => none
  | f + 1, c, r => if r.head? = some 59 then (match one f r.tail with
      | some (d, r') => behindL f (.seq c d) r'
      | none => none)
    else some (c, r)
def beside : Nat → L → Option (T × L)
  | 0, _ => none
  | f + 1, s => match behind f s with
    | some (c, r) => besideL f c r
    | none => none
def besideL : Nat → T → L → Option (T × L)
  | 0, _, _ => none
  | f + 1, c, r => if r.head? = some 124 then (match behind f r.tail with
      | some (d, r') => besideL f (.par c d) r'
      | none => none)
    else some (c, r)
end

/-! ### what is read is shorter -/
theorem dropWhile_le (p : UInt8 → Bool) : ∀ s : L, (s.dropWhile p).length ≤ s.length
  | [] => Nat.le_refl _
  | b :: r => by
    rw [List.dropWhile_cons]
    split
    · exact Nat.le_succ_of_le (dropWhile_le p r)
    · exact Nat.le_refl _
theorem take_drop (p : UInt8 → Bool) : ∀ s : L, s.takeWhile p ++ s.dropWhile p = s
  | [] => rfl
  | b :: r => by
    rw [List.takeWhile_cons, List.dropWhile_cons]
    split
    · simp [take_drop p r]
    · rfl
theorem number_lt {s : L} {t : T} {r : L} (h : number s = some (t, r)) : r.length < s.length := by
  unfold number at h
  split at h
  · cases h
  · rename_i hc
    simp only [Option.some.injEq, Prod.mk.injEq] at h
    obtain ⟨_, rfl⟩ := h
    have h1 := congrArg List.length (take_drop isDig s)
    simp only [List.length_append] at h1
    have h2 : (s.takeWhile isDig).length ≠ 0 := by
      intro h0
      exact hc (by simp [List.eq_nil_of_length_eq_zero h0])
    omega
theorem tail_lt {r : L} {b : UInt8} (h : r.head? = some b) : r.tail.length < r.length := by
  cases r with
  | nil => cases h
  | cons c r => simp
mutual
theorem one_lt : ∀ (f : Nat) {s : L} {t : T} {r : L}, one f s = some (t, r) → r.length < s.length
  | 0, s, t, r, h => by simp [one] at h
  | f + 1, s, t, r, h => by
    unfold one at h
    split at h
    · rename_i hs
      have := tail_lt hs
      split at h
      · rename_i c r1 hb
        have h1 := beside_lt f hb
        split at h
        · rename_i hr
          have := tail_lt hr
          simp only [Option.some.injEq, Prod.mk.injEq] at h
          obtain ⟨_, rfl⟩ := h
          omega
        · cases h
      · cases h
    · exact number_lt h
theorem behind_lt : ∀ (f : Nat) {s : L} {t : T} {r : L}, behind f s = some (t, r) → r.length < s.length
  | 0, s, t, r, h => by simp [behind] at h
  | f + 1, s, t, r, h => by
    unfold behind at h
    split at h
    · rename_i c r1 hb
      have h1 := one_lt f hb
      have h2 := behindL_le f h
      omega
    · cases h
theorem behindL_le : ∀ (f : Nat) {c : T} {s : L} {t : T} {r : L}, behindL f c s = some (t, r) → r.length ≤ s.length
  | 0, c, s, t, r, h => by simp [behindL] at h
  | f + 1, c, s, t, r, h => by
    unfold behindL at h
    split at h
    · rename_i hs
      have := tail_lt hs
      split at h
      · rename_i d r1 hb
        have h1 := one_lt f hb
        have h2 := behindL_le f h
        omega
      · cases h
    · simp only [Option.some.injEq, Prod.mk.injEq] at h
      obtain ⟨_, rfl⟩ := h
      exact Nat.le_refl _
theorem beside_lt : ∀ (f : Nat) {s : L} {t : T} {r : L}, beside f s = some (t, r) → r.length < s.length
  | 0, s, t, r, h => by simp [beside] at h
  | f + 1, s, t, r, h => by
    unfold beside at h
    split at h
    · rename_i c r1 hb
      have h1 := behind_lt f hb
      have h2 := besideL_le f h
      omega
    · cases h
theorem besideL_le : ∀ (f : Nat) {c : T} {s : L} {t : T} {r : L}, besideL f c s = some (t, r) → r.length ≤ s.length
  | 0, c, s, t, r, h => by simp [besideL] at h
  | f + 1, c, s, t, r, h => by
    unfold besideL at h
    split at h
    · rename_i hs
      have := tail_lt hs
      split at h
      · rename_i d r1 hb
        have h1 := behind_lt f hb
        have h2 := besideL_le f h
        omega
      · cases h
    · simp only [Option.some.injEq, Prod.mk.injEq] at h
      obtain ⟨_, rfl⟩ := h
      exact Nat.le_refl _
end

/-! ### with fuel enough, more fuel turns nothing -/
mutual
theorem one_more : ∀ (f : Nat) (s : L), 3 * s.length + 1 ≤ f → one (f + 1) s = one f s
  | 0, s, h => by omega
  | f + 1, s, h => by
    unfold one
    split
    · rename_i hs
      have := tail_lt hs
      rw [beside_more f s.tail (by omega)]
    · rfl
theorem behind_more : ∀ (f : Nat) (s : L), 3 * s.length + 2 ≤ f → behind (f + 1) s = behind f s
  | 0, s, h => by omega
  | f + 1, s, h => by
    unfold behind
    rw [one_more f s (by omega)]
    cases hb : one f s with
    | none => rfl
    | some x =>
      obtain ⟨c, r⟩ := x
      have := one_lt f hb
      exact behindL_more f c r (by omega)
theorem behindL_more : ∀ (f : Nat) (c : T) (s : L), 3 * s.length + 1 ≤ f → behindL (f + 1) c s = behindL f c s
  | 0, c, s, h => by omega
  | f + 1, c, s, h => by
    unfold behindL
    split
    · rename_i hs
      have := tail_lt hs
      rw [one_more f s.tail (by omega)]
      cases hb : one f s.tail with
      | none => rfl
      | some x =>
        obtain ⟨d, r⟩ := x
        have := one_lt f hb
        exact behindL_more f (.seq c d) r (by omega)
    · rfl
theorem beside_more : ∀ (f : Nat) (s : L), 3 * s.length + 3 ≤ f → beside (f + 1) s = beside f s
  | 0, s, h => by omega
  | f + 1, s, h => by
    unfold beside
    rw [behind_more f s (by omega)]
    cases hb : behind f s with
    | none => rfl
    | some x =>
      obtain ⟨c, r⟩ := x
      have := behind_lt f hb
      exact besideL_more f c r (by omega)
theorem besideL_more : ∀ (f : Nat) (c : T) (s : L), 3 * s.length + 1 ≤ f → besideL (f + 1) c s = besideL f c s
  | 0, c, s, h => by omega
  | f + 1, c, s, h => by
    unfold besideL
    split
    · rename_i hs
      have := tail_lt hs
      rw [behind_more f s.tail (by omega)]
      cases hb : behind f s.tail with
      | none => rfl
      | some x =>
        obtain ⟨d, r⟩ := x
        have := behind_lt f hb
        exact besideL_more f (.par c d) r (by omega)
    · rfl
end
/-- The whole reading. -/
def parse (s : L) : Option T := match beside (3 * s.length + 3) s with
  | some (t, []) => some t
  | _ => none
theorem beside_enough (s : L) : ∀ f, 3 * s.length + 3 ≤ f → beside f s = beside (3 * s.length + 3) s := by
  intro f hf
  induction hf with
  | refl => rfl
  | step h ih => rw [beside_more _ s h, ih]

/-! ### what a weave comes to -/
def size : T → Nat
  | .num _ => 1
  | .seq a b => size a + size b
  | .par a b => size a + size b
def firsts : T → Nat → List Nat
  | .num _, n => [n]
  | .seq a _, n => firsts a n
  | .par a b, n => firsts a n ++ firsts b (n + size a)
def lasts : T → Nat → List Nat
  | .num _, n => [n]
  | .seq a b, n => lasts b (n + size a)
  | .par a b, n => lasts a n ++ lasts b (n + size a)
def link (m : Nat) (fs ls : List Nat) (ts : List (Int × List Int)) : List (Int × List Int) :=
  ts.mapIdx fun j t => if m + j ∈ fs then (t.1, ls.map Int.ofNat) else t
def tasks (cap : L → Int) : T → Nat → List (Int × List Int)
  | .num ds, _ => [(cap ds, [])]
  | .seq a b, n => tasks cap a n ++ link (n + size a) (firsts b (n + size a)) (lasts a n) (tasks cap b (n + size a))
  | .par a b, n => tasks cap a n ++ tasks cap b (n + size a)
def work (cap : L → Int) : T → Int
  | .num ds => cap ds
  | .seq a b => work cap a + work cap b
  | .par a b => work cap a + work cap b
def span (cap : L → Int) : T → Int
  | .num ds => cap ds
  | .seq a b => span cap a + span cap b
  | .par a b => max (span cap a) (span cap b)

theorem size_pos : ∀ t : T, 0 < size t
  | .num _ => Nat.one_pos
  | .seq a b => Nat.lt_of_lt_of_le (size_pos a) (Nat.le_add_right _ _)
  | .par a b => Nat.lt_of_lt_of_le (size_pos a) (Nat.le_add_right _ _)
theorem link_length (m : Nat) (fs ls : List Nat) (ts : List (Int × List Int)) : (link m fs ls ts).length = ts.length := by simp [link]
theorem tasks_length (cap : L → Int) : ∀ (t : T) (n : Nat), (tasks cap t n).length = size t
  | .num _, _ => rfl
  | .seq a b, n => by simp [tasks, size, link_length, tasks_length cap a, tasks_length cap b]
  | .par a b, n => by simp [tasks, size, tasks_length cap a, tasks_length cap b]
theorem firsts_range : ∀ (t : T) (n i : Nat), i ∈ firsts t n → n ≤ i ∧ i < n + size t
  | .num _, n, i, h => by
    simp only [firsts, List.mem_singleton] at h
    subst h
    exact ⟨Nat.le_refl _, Nat.lt_succ_self _⟩
  | .seq a b, n, i, h => by
    have := firsts_range a n i h
    simp only [size]
    omega
  | .par a b, n, i, h => by
    simp only [firsts, List.mem_append] at h
    simp only [size]
    rcases h with h | h
    · have := firsts_range a n i h; omega
    · have := firsts_range b (n + size a) i h; omega
theorem lasts_range : ∀ (t : T) (n i : Nat), i ∈ lasts t n → n ≤ i ∧ i < n + size t
  | .num _, n, i, h => by
    simp only [lasts, List.mem_singleton] at h
    subst h
    exact ⟨Nat.le_refl _, Nat.lt_succ_self _⟩
  | .seq a b, n, i, h => by
    have := lasts_range b (n + size a) i h
    simp only [size]
    omega
  | .par a b, n, i, h => by
    simp only [lasts, List.mem_append] at h
    simp only [size]
    rcases h with h | h
    · have := lasts_range a n i h; omega
    · have := lasts_range b (n + size a) i h; omega
theorem firsts_ne : ∀ (t : T) (n : Nat), firsts t n ≠ []
  | .num _, _ => by simp [firsts]
  | .seq a _, n => firsts_ne a n
  | .par a b, n => by simp [firsts, firsts_ne a n]
theorem lasts_ne : ∀ (t : T) (n : Nat), lasts t n ≠ []
  | .num _, _ => by simp [lasts]
  | .seq a b, n => lasts_ne b _
  | .par a b, n => by simp [lasts, lasts_ne a n]
theorem firsts_sorted : ∀ (t : T) (n : Nat), (firsts t n).Pairwise (· < ·)
  | .num _, _ => by simp [firsts]
  | .seq a _, n => firsts_sorted a n
  | .par a b, n => by
    refine List.pairwise_append.2 ⟨firsts_sorted a n, firsts_sorted b _, fun x hx y hy => ?_⟩
    have h1 := firsts_range a n x hx
    have h2 := firsts_range b _ y hy
    omega
theorem lasts_sorted : ∀ (t : T) (n : Nat), (lasts t n).Pairwise (· < ·)
  | .num _, _ => by simp [lasts]
  | .seq a b, n => lasts_sorted b _
  | .par a b, n => by
    refine List.pairwise_append.2 ⟨lasts_sorted a n, lasts_sorted b _, fun x hx y hy => ?_⟩
    have h1 := lasts_range a n x hx
    have h2 := lasts_range b _ y hy
    omega
theorem firsts_length : ∀ (t : T) (n : Nat), (firsts t n).length ≤ size t
  | .num _, _ => Nat.le_refl _
  | .seq a b, n => Nat.le_trans (firsts_length a n) (Nat.le_add_right _ _)
  | .par a b, n => by simp only [firsts, size, List.length_append]; exact Nat.add_le_add (firsts_length a n) (firsts_length b _)
theorem lasts_length : ∀ (t : T) (n : Nat), (lasts t n).length ≤ size t
  | .num _, _ => Nat.le_refl _
  | .seq a b, n => Nat.le_trans (lasts_length b _) (Nat.le_add_left _ _)
  | .par a b, n => by simp only [lasts, size, List.length_append]; exact Nat.add_le_add (lasts_length a n) (lasts_length b _)
/-- The first tasks of a weave need none. -/
theorem firsts_nil (cap : L → Int) : ∀ (t : T) (n i : Nat), i ∈ firsts t n → ∃ w, (tasks cap t n)[i - n]? = some (w, [])
  | .num ds, n, i, h => by
    simp only [firsts, List.mem_singleton] at h
    subst h
    exact ⟨cap ds, by simp [tasks]⟩
  | .seq a b, n, i, h => by
    obtain ⟨w, hw⟩ := firsts_nil cap a n i h
    have := firsts_range a n i h
    refine ⟨w, ?_⟩
    rw [tasks, List.getElem?_append_left (by rw [tasks_length]; omega)]
    exact hw
  | .par a b, n, i, h => by
    simp only [firsts, List.mem_append] at h
    rcases h with h | h
    · obtain ⟨w, hw⟩ := firsts_nil cap a n i h
      have := firsts_range a n i h
      refine ⟨w, ?_⟩
      rw [tasks, List.getElem?_append_left (by rw [tasks_length]; omega)]
      exact hw
    · obtain ⟨w, hw⟩ := firsts_nil cap b (n + size a) i h
      have := firsts_range b (n + size a) i h
      refine ⟨w, ?_⟩
      rw [tasks, List.getElem?_append_right (by rw [tasks_length]; omega), tasks_length, show i - n - size a = i - (n + size a) from by omega]
      exact hw
/-- One more of the firsts is linked. -/
theorem link_step (m : Nat) (fs ls : List Nat) (ts : List (Int × List Int)) (k : Nat) (hk : k < fs.length) {w : Int} {x : List Int} (hw : ts[fs[k] - m]? = some (w, x)) (hm : m ≤ fs[k]) (hs : fs.Pairwise (· < ·)) :
    (link m (fs.take k) ls ts)[fs[k] - m]? = some (w, x) ∧ link m (fs.take (k + 1)) ls ts = (link m (fs.take k) ls ts).set (fs[k] - m) (w, ls.map Int.ofNat) := by
  have hnot : fs[k] ∉ fs.take k := by
    intro h
    obtain ⟨j, hj, he⟩ := List.mem_take_iff_getElem.1 h
    have hjk : j < k := by omega
    have := List.pairwise_iff_getElem.1 hs j k (by omega) hk hjk
    omega
  have hmk : m + (fs[k] - m) = fs[k] := by omega
  constructor
  · simp only [link, List.getElem?_mapIdx, hw, Option.map_some, hmk, if_neg hnot]
  · apply List.ext_getElem?
    intro j
    simp only [link, List.getElem?_mapIdx, List.getElem?_set, List.length_mapIdx]
    by_cases hj : fs[k] - m = j
    · subst hj
      have hlt : fs[k] - m < ts.length := (List.getElem?_eq_some_iff.1 hw).1
      simp only [hw, Option.map_some, hmk, if_pos hlt, if_true]
      rw [if_pos (by rw [List.take_add_one, List.getElem?_eq_getElem hk]; exact List.mem_append_right _ (by simp))]
    · rw [if_neg hj]
      cases hj2 : ts[j]? with
      | none => rfl
      | some t =>
        simp only [Option.map_some]
        congr 1
        have hne : m + j ≠ fs[k] := by omega
        rw [List.take_add_one, List.getElem?_eq_getElem hk]
        simp only [Option.toList_some, List.mem_append, List.mem_singleton, hne, or_false]
theorem link_none (m : Nat) (ls : List Nat) (ts : List (Int × List Int)) : link m [] ls ts = ts := by
  apply List.ext_getElem?
  intro j
  simp [link]

/-! ### what is left is an end of the text; each task took a byte at least -/
theorem tail_suffix {r : L} : r.tail <:+ r := List.tail_suffix r
theorem tail_len {r : L} {b : UInt8} (h : r.head? = some b) : r.tail.length + 1 = r.length := by
  cases r with
  | nil => cases h
  | cons c r => simp
theorem number_fact {s : L} {t : T} {r : L} (h : number s = some (t, r)) : r <:+ s ∧ size t + r.length ≤ s.length := by
  have h1 := number_lt h
  unfold number at h
  split at h
  · cases h
  · simp only [Option.some.injEq, Prod.mk.injEq] at h
    obtain ⟨rfl, rfl⟩ := h
    exact ⟨List.dropWhile_suffix _, by simp only [size]; omega⟩
mutual
theorem one_fact : ∀ (f : Nat) {s : L} {t : T} {r : L}, one f s = some (t, r) → r <:+ s ∧ size t + r.length ≤ s.length
  | 0, s, t, r, h => by simp [one] at h
  | f + 1, s, t, r, h => by
    unfold one at h
    split at h
    · rename_i hs
      have := tail_len hs
      split at h
      · rename_i c r1 hb
        have h1 := beside_fact f hb
        split at h
        · rename_i hr
          have := tail_len hr
          simp only [Option.some.injEq, Prod.mk.injEq] at h
          obtain ⟨rfl, rfl⟩ := h
          exact ⟨tail_suffix.trans (h1.1.trans tail_suffix), by omega⟩
        · cases h
      · cases h
    · exact number_fact h
theorem behind_fact : ∀ (f : Nat) {s : L} {t : T} {r : L}, behind f s = some (t, r) → r <:+ s ∧ size t + r.length ≤ s.length
  | 0, s, t, r, h => by simp [behind] at h
  | f + 1, s, t, r, h => by
    unfold behind at h
    split at h
    · rename_i c r1 hb
      have h1 := one_fact f hb
      have h2 := behindL_fact f h
      exact ⟨h2.1.trans h1.1, by omega⟩
    · cases h
theorem behindL_fact : ∀ (f : Nat) {c : T} {s : L} {t : T} {r : L}, behindL f c s = some (t, r) → r <:+ s ∧ size t + r.length ≤ size c + s.length
  | 0, c, s, t, r, h => by simp [behindL] at h
  | f + 1, c, s, t, r, h => by
    unfold behindL at h
    split at h
    · rename_i hs
      have := tail_len hs
      split at h
      · rename_i d r1 hb
        have h1 := one_fact f hb
        have h2 := behindL_fact f h
        simp only [size] at h2
        exact ⟨h2.1.trans (h1.1.trans tail_suffix), by omega⟩
      · cases h
    · simp only [Option.some.injEq, Prod.mk.injEq] at h
      obtain ⟨rfl, rfl⟩ := h
      exact ⟨List.suffix_refl _, Nat.le_refl _⟩
theorem beside_fact : ∀ (f : Nat) {s : L} {t : T} {r : L}, beside f s = some (t, r) → r <:+ s ∧ size t + r.length ≤ s.length
  | 0, s, t, r, h => by simp [beside] at h
  | f + 1, s, t, r, h => by
    unfold beside at h
    split at h
    · rename_i c r1 hb
      have h1 := behind_fact f hb
      have h2 := besideL_fact f h
      exact ⟨h2.1.trans h1.1, by omega⟩
    · cases h
theorem besideL_fact : ∀ (f : Nat) {c : T} {s : L} {t : T} {r : L}, besideL f c s = some (t, r) → r <:+ s ∧ size t + r.length ≤ size c + s.length
  | 0, c, s, t, r, h => by simp [besideL] at h
  | f + 1, c, s, t, r, h => by
    unfold besideL at h
    split at h
    · rename_i hs
      have := tail_len hs
      split at h
      · rename_i d r1 hb
        have h1 := behind_fact f hb
        have h2 := besideL_fact f h
        simp only [size] at h2
        exact ⟨h2.1.trans (h1.1.trans tail_suffix), by omega⟩
      · cases h
    · simp only [Option.some.injEq, Prod.mk.injEq] at h
      obtain ⟨rfl, rfl⟩ := h
      exact ⟨List.suffix_refl _, Nat.le_refl _⟩
end
theorem work_le {cap : L → Int} {M : Nat} (h : ∀ ds, 0 ≤ cap ds ∧ cap ds ≤ M) : ∀ t : T, 0 ≤ work cap t ∧ work cap t ≤ M * size t
  | .num ds => by have := h ds; simp only [work, size]; omega
  | .seq a b => by
    have h1 := work_le h a
    have h2 := work_le h b
    simp only [work, size, Int.natCast_add, Int.mul_add]
    omega
  | .par a b => by
    have h1 := work_le h a
    have h2 := work_le h b
    simp only [work, size, Int.natCast_add, Int.mul_add]
    omega
theorem span_le {cap : L → Int} {M : Nat} (h : ∀ ds, 0 ≤ cap ds ∧ cap ds ≤ M) : ∀ t : T, 0 ≤ span cap t ∧ span cap t ≤ work cap t
  | .num ds => by have := h ds; simp only [work, span]; omega
  | .seq a b => by
    have h1 := span_le h a
    have h2 := span_le h b
    simp only [work, span]
    omega
  | .par a b => by
    have h1 := span_le h a
    have h2 := span_le h b
    have h3 := work_le h a
    have h4 := work_le h b
    simp only [work, span]
    omega

/-! ### a number's value -/
def val (ds : L) : Nat := ds.foldl (fun n b => n * 10 + (b.toNat - 48)) 0
end Go.X.Wv
