/- The tails of a plan, in plain Lean, no program in sight. -/
import Derived.Test.YtgegppbjpaeljaaDoorPp
set_option linter.unusedVariables false
set_option linter.unusedSimpArgs false
namespace Go.X.Pn
theorem orderGo_lt {p : Plan} : ∀ (f : Nat) (done : List Bool) (o : List Nat), (∀ k ∈ o, k < p.length) → ∀ k ∈ orderGo p f done o, k < p.length
  | 0, _, _, h => h
  | f + 1, done, o, h => by
    unfold orderGo
    split
    · rename_i i hi
      refine orderGo_lt f _ _ (fun k hk => ?_)
      rcases List.mem_append.1 hk with hk | hk
      · exact h k hk
      · have := List.mem_singleton.1 hk
        subst this
        unfold nextF at hi
        exact List.mem_range.1 (List.mem_of_find?_eq_some hi)
    · exact h
theorem orderF_lt {p : Plan} : ∀ k ∈ orderF p, k < p.length := orderGo_lt _ _ _ (fun _ h => by cases h)
theorem orderGo_len {p : Plan} : ∀ (f : Nat) (done : List Bool) (o : List Nat), (orderGo p f done o).length ≤ o.length + f
  | 0, _, _ => Nat.le_refl _
  | f + 1, done, o => by
    unfold orderGo
    split
    · rename_i i hi
      have := orderGo_len (p := p) f (done.set i true) (o ++ [i])
      refine Nat.le_trans this ?_
      simp
      omega
    · omega
theorem orderF_len {p : Plan} : (orderF p).length ≤ p.length := by
  have := orderGo_len (p := p) p.length (List.replicate p.length false) []
  simpa [orderF] using this
theorem afterF_lt {p : Plan} {i : Int} : ∀ k ∈ afterF p i, k < p.length := fun k hk => List.mem_range.1 (List.mem_filter.1 hk).1
theorem afterF_len {p : Plan} {i : Int} : (afterF p i).length ≤ p.length := filter_range_le _ _

def tailIn (out : List Int) (i : Nat) (as : List Nat) : Int := as.foldl (fun m k => max m ((out.set i m).getD k 0)) (out.getD i 0)
def tailStep (p : Plan) (out : List Int) (i : Nat) : List Int := out.set i (tailIn out i (afterF p i) + (tk p i).1)
def tailsGo (p : Plan) (o : List Nat) (out : List Int) : List Int := o.foldl (tailStep p) out
def tailsF (p : Plan) : List Int := tailsGo p (orderF p).reverse (List.replicate p.length 0)
def spanF (p : Plan) : Int := (tailsF p).foldl max 0
theorem tailStep_len {p : Plan} {out : List Int} {i : Nat} : (tailStep p out i).length = out.length := by simp [tailStep]
theorem tailsGo_len {p : Plan} : ∀ (o : List Nat) (out : List Int), (tailsGo p o out).length = out.length
  | [], _ => rfl
  | i :: r, out => (tailsGo_len r _).trans tailStep_len
theorem tailIn_take {out : List Int} {i j : Nat} {as : List Nat} (h : j < as.length) : tailIn out i (as.take (j + 1)) = max (tailIn out i (as.take j)) ((out.set i (tailIn out i (as.take j))).getD as[j] 0) := by
  unfold tailIn
  rw [List.take_add_one, List.getElem?_eq_getElem h, Option.toList_some, List.foldl_append]
  rfl
theorem tailsGo_take {p : Plan} {out : List Int} {j : Nat} {o : List Nat} (h : j < o.length) : tailsGo p (o.take (j + 1)) out = tailStep p (tailsGo p (o.take j) out) o[j] := by
  unfold tailsGo
  rw [List.take_add_one, List.getElem?_eq_getElem h, Option.toList_some, List.foldl_append]
  rfl
def Bnd (b : Int) (out : List Int) : Prop := ∀ k, 0 ≤ out.getD k 0 ∧ out.getD k 0 ≤ b
theorem getD_set_int (out : List Int) (i k : Nat) (m : Int) : (out.set i m).getD k 0 = if i = k ∧ i < out.length then m else out.getD k 0 := by
  simp only [List.getD_eq_getElem?_getD, List.getElem?_set]
  by_cases h : i = k
  · subst h
    by_cases h2 : i < out.length
    · simp [h2]
    · simp [h2, List.getElem?_eq_none (Nat.le_of_not_lt h2)]
  · simp [h]
theorem Bnd.set {b m : Int} {out : List Int} {i : Nat} (h : Bnd b out) (h0 : 0 ≤ m) (h1 : m ≤ b) : Bnd b (out.set i m) := by
  intro k
  rw [getD_set_int]
  split
  · exact ⟨h0, h1⟩
  · exact h k
theorem Bnd.mono {b c : Int} {out : List Int} (h : Bnd b out) (hc : b ≤ c) : Bnd c out := fun k => ⟨(h k).1, by have := (h k).2; omega⟩
theorem Bnd.tailIn {b : Int} {out : List Int} {i : Nat} (h : Bnd b out) : ∀ (as : List Nat), 0 ≤ tailIn out i as ∧ tailIn out i as ≤ b := by
  intro as
  unfold Pn.tailIn
  have key : ∀ (as : List Nat) (m : Int), 0 ≤ m → m ≤ b → 0 ≤ as.foldl (fun m k => max m ((out.set i m).getD k 0)) m ∧ as.foldl (fun m k => max m ((out.set i m).getD k 0)) m ≤ b := by
    intro as
    induction as with
    | nil => exact fun m h0 h1 => ⟨h0, h1⟩
    | cons k r ih =>
      intro m h0 h1
      have h2 := (h.set (i := i) h0 h1) k
      exact ih _ (by dsimp only; omega) (by dsimp only; omega)
  exact key as _ (h i).1 (h i).2
theorem Bnd.zero (n : Nat) : Bnd 0 (List.replicate n 0) := by
  intro k
  by_cases h : k < n <;> simp [List.getD, h]
theorem Bnd.go {p : Plan} (hok : Ok p) : ∀ (o : List Nat) (out : List Int) (b : Int), (∀ k ∈ o, k < p.length) → Bnd b out → Bnd (b + 20 * o.length) (tailsGo p o out)
  | [], out, b, _, h => by simpa [tailsGo] using h
  | i :: r, out, b, ho, h => by
    have h1 := h.tailIn (i := i) (afterF p i)
    have h2 := hok.work (ho i (List.mem_cons_self ..))
    have h3 : Bnd (b + 20) (tailStep p out i) := (h.mono (by omega)).set (by omega) (by omega)
    have h4 := Bnd.go hok r _ _ (fun k hk => ho k (List.mem_cons_of_mem _ hk)) h3
    refine h4.mono ?_
    simp
    omega
end Go.X.Pn
