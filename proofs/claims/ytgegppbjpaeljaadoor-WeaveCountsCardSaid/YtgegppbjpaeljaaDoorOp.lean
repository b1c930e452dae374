/- From the rows' readings to what the walks ask: slices of structs, of integers, of rows; strings; listed tables of texts. Over any program. -/
import Derived.Test.YtgegppbjpaeljaaDoorE
import Derived.WalkKit
import Derived.ProofKit
import Derived.OpenShut
import Derived.Deep.DeepHandedRow
import Derived.Deep.Slices
import Derived.Lib.LaidTab
set_option linter.unusedVariables false
set_option linter.unusedSimpArgs false
namespace Go.X
open Go.RowKit
variable {P : Program} {H : Type} {enc : TypeId × Value → H} {w : World} {base : Nat} {spare : Nat → Bool} {held : Bool}

theorem all_ints : ∀ {cs : List Value}, (∀ i (h : i < cs.length), ∃ z : Int, cs[i] = .int .i64 z) → ∃ zs : List Int, cs = ints zs
  | [], _ => ⟨[], rfl⟩
  | c :: r, h => by
    obtain ⟨z, hz⟩ := h 0 (by simp)
    obtain ⟨zs, hzs⟩ := all_ints (cs := r) (fun i hi => h (i + 1) (Nat.succ_lt_succ hi))
    exact ⟨z :: zs, by simp only [List.getElem_cons_zero] at hz; rw [hz, hzs]; rfl⟩
theorem cell_one_of {cs : List Value} {i : Nat} {v : Value} (h : (cs.drop i).take 1 = [v]) : cs[i]? = some v := by
  have := congrArg (·[0]?) h
  simpa [List.getElem?_take, List.getElem?_drop] using this
/-- A struct of k ints. -/
theorem trod_struct_ints {t : TypeId} {fs : Array Field} {k fuel : Nat} {cs : List Value} {x : DataW H × List MemPlace} (ht : P.underlying t = some (.struct fs)) (hk : P.cellsOf t = k) (hsz : fs.size = k)
    (hf : ∀ i (h : i < fs.size), P.underlying (fs[i]).type = some (.int .i64) ∧ (fs[i]).offset = i ∧ P.cellsOf (fs[i]).type = 1) (h : DataW.trod enc P w base spare held fuel t cs = some x) : ∃ zs : List Int, zs.length = k ∧ cs = ints zs := by
  obtain ⟨xs, n, _, _, hl, hlen, hfs⟩ := DataW.trod_struct ht h
  have hcs : cs.length = k := by rw [hl, hk]
  obtain ⟨zs, hzs⟩ := all_ints (cs := cs) (fun i hi => by
    have hi' : i < fs.size := by omega
    obtain ⟨h1, h2, h3⟩ := hf i hi'
    have h4 := hfs i fs[i] (Array.getElem?_eq_getElem hi')
    rw [h2, h3, List.getElem?_eq_getElem (by omega)] at h4
    obtain ⟨z, h5, _, _⟩ := DataW.trod_int h1 h4
    have h6 := cell_one_of h5
    exact ⟨z, (List.getElem?_eq_some_iff.1 h6).2⟩)
  exact ⟨zs, by rw [← hcs, hzs]; simp, hzs⟩

/-- A slice whose elements have k cells each. -/
theorem open_rows {α : Type} [Inhabited α] {f : α → List Value} {k : Nat} {t e : TypeId} {fuel : Nat} {cs : List Value} {x : DataW H × List MemPlace} (ht : P.underlying t = some (.slice e)) (hk : P.cellsOf e = k) (hfk : ∀ a, (f a).length = k)
    (hstep : ∀ n cs' y, DataW.trod enc P w base spare held n e cs' = some y → ∃ a : α, cs' = f a) (h : DataW.trod enc P w base spare held fuel t cs = some x) :
    ∃ (A : Option Addr) (c : Nat) (l : List α), cs = [.slice A l.length c] ∧ Reads w A (l.flatMap f) ∧ l.length ≤ c ∧ c ≤ maxLen := by
  rcases Deep.open_slice ht h with ⟨rfl, _⟩ | ⟨a, len, cap, m, n, D, Pl, rfl, _, hlc, hcm, hm, _, hel⟩
  · exact ⟨none, 0, [], rfl, Reads.nil _ _, Nat.le_refl _, by simp [maxLen]⟩
  · have hlm : len ≤ m := by rw [hm]; split <;> omega
    have hch : ∀ i, i < len → ∃ b : α, w.cells? base (a.add (i * k)) k = some (f b) := by
      intro i hi
      obtain ⟨cs', h1, h2⟩ := hel i (by omega)
      obtain ⟨b, rfl⟩ := hstep n cs' _ h2
      rw [hk] at h1
      exact ⟨b, h1⟩
    obtain ⟨F, hF⟩ := Deep.choose_lt hch
    refine ⟨some a, cap, (List.range len).map F, by simp, fun _ => ⟨a, rfl, ?_⟩, by simpa using hlc, hcm⟩
    intro j u hu
    have hlen : ((List.range len).map F).length = len := by simp
    have hj : j < len * k := by
      have := (List.getElem?_eq_some_iff.1 hu).1
      rw [rows_length hfk, hlen] at this
      exact this
    rcases Nat.eq_zero_or_pos k with hk0 | hkp
    · subst hk0; simp at hj
    · have hi : j / k < len := (Nat.div_lt_iff_lt_mul hkp).2 hj
      have hr := rows_drop hfk ((List.range len).map F) (j / k) (by simpa using hi)
      have hmod : j % k < k := Nat.mod_lt _ hkp
      have hjj : j / k * k + j % k = j := by rw [Nat.mul_comm]; exact Nat.div_add_mod j k
      have h5 : (((List.range len).map F)[j / k]'(by simpa using hi)) = F (j / k) := by simp
      rw [h5] at hr
      obtain ⟨_, _, h6⟩ := World.cells?_some (hF (j / k) hi)
      have h7 := h6 (j % k) hmod
      rw [addr_add, hjj] at h7
      rw [h7, ← hr, List.getElem?_take, if_pos hmod, List.getElem?_drop, hjj]
      exact hu
end Go.X
