/- What the listed package-level variables give: errors' type, strconv's errors; a world in which they are laid. -/
import Derived.Test.YtgegppbjpaeljaaDoorCl
import Derived.Test.YtgegppbjpaeljaaDoorAs
import Derived.Test.YtgegppbjpaeljaaDoorWy
import Derived.Test.YtgegppbjpaeljaaDoorRows
import Derived.LaidHandle
import Derived.LaidSub
import Derived.LaidLaws
set_option linter.unusedVariables false
set_option linter.unusedSimpArgs false
namespace Go.Proofs.YtgegppbjpaeljaaDoor.Ld
open Go Go.X Go.RowKit Go.Proofs.YtgegppbjpaeljaaDoor Go.Proofs.YtgegppbjpaeljaaDoor.As Go.Proofs.YtgegppbjpaeljaaDoor.Wv Go.ChangeShapes Go.WideShapes Go.ChangeAt

theorem own : ownKnob Tryd.prog.godebug = none := by kernel_rfl
theorem laidOut : laidOutB Tryd.prog = true := by kernel_rfl
theorem gType : Tryd.prog.globalNamed "errors.errorType" = some 1 := by kernel_rfl
theorem gRng : Tryd.prog.globalNamed "strconv.ErrRange" = some 7 := by kernel_rfl
theorem gSyn : Tryd.prog.globalNamed "strconv.ErrSyntax" = some 6 := by kernel_rfl
theorem gRngT : (Tryd.prog.globals[7]?).map (·.type) = some 24 := by kernel_rfl
theorem gSynT : (Tryd.prog.globals[6]?).map (·.type) = some 24 := by kernel_rfl
theorem rt : (Tryd.prog.cutTypes.find? (·.1 == "internal/reflectlite.rtype")).map (·.2) = some 162 := by kernel_rfl
theorem oneRow : ((List.range Tryd.prog.types.size).filter fun t => Tryd.prog.rowNamed t [101, 114, 114, 111, 114]) = [24] := by kernel_rfl
theorem handle : typeHandle Tryd.prog 24 = .pointer (some ⟨10, 24, none⟩) := by kernel_rfl

theorem errType_of {l : List (String × DataW Unit)} {W : World} (h : laidMetH Tryd.prog l W) (hm : ("errors.errorType", (Rows.laid_errors_errorType : DataW Unit)) ∈ l) : ErrTypeAt W := by
  have h1 := (laidMetH_iff.1 h).2 _ (List.mem_filter.2 ⟨hm, by rfl⟩)
  obtain ⟨name, u, ty, e1, e2, e3, e4, e5⟩ := h1
  have en : name = [101, 114, 114, 111, 114] := (Option.some.inj e1).symm
  subst en
  obtain rfl := Option.some.inj (rt.symm.trans e2)
  have hm' : ty ∈ (List.range Tryd.prog.types.size).filter fun t => Tryd.prog.rowNamed t [101, 114, 114, 111, 114] := List.mem_filter.2 ⟨List.mem_range.2 e3, e4⟩
  rw [oneRow] at hm'
  obtain rfl := List.mem_singleton.1 hm'
  rw [handle] at e5
  have h2 := World.var?_cell gType e5 0
  unfold ErrTypeAt
  simpa using h2
theorem iface_at {l : List (String × DataW Unit)} {W : World} (h : laidMet Tryd.prog l W) (i : Nat) {n nm : String} {d : DataW Unit} {g : Nat} (hi : l[i]? = some (n, .iface nm d)) (hg : Tryd.prog.globalNamed n = some g) (ht : (Tryd.prog.globals[g]?).map (·.type) = some 24) :
    ∃ ev, W.cell? ⟨g, 0, none⟩ = some ev ∧ (ev = .nilIface ∨ ∃ te pe, ev = .iface te pe) := by
  obtain ⟨cs, fuel, p, h1, h2⟩ := laid_at h i hi hg ht
  obtain ⟨f, u, v, h3, _, _⟩ := iface_of_trod Tryd.underlying24 h2
  refine ⟨.iface u v, ?_, .inr ⟨u, v, rfl⟩⟩
  rw [World.var?_cell hg h1 0, ← Array.getElem?_toList, h3]
  rfl

noncomputable def low : Nat := (World.holding Tryd.prog default ⟨#[], #[], []⟩).heap.size
/-- The settled world with two error texts beside it. -/
noncomputable def base (os : Os) : World := World.holding Tryd.prog os ⟨#[.cells #[.string ⟨#[118, 97, 108, 117, 101, 32, 111, 117, 116, 32, 111, 102, 32, 114, 97, 110, 103, 101]⟩] 212, .cells #[.string ⟨#[105, 110, 118, 97, 108, 105, 100, 32, 115, 121, 110, 116, 97, 120]⟩] 212], #[], []⟩
noncomputable def cPow : Nat × List Value := (2, (List.range 20).map fun i => .int .u64 (10 ^ i))
def c32 : Nat × List Value := (8, [0, 1, 28, 2, 29, 14, 24, 3, 30, 22, 20, 15, 25, 17, 4, 8, 31, 27, 13, 23, 21, 19, 16, 7, 26, 12, 18, 6, 11, 5, 10, 9].map fun z => .int .u8 z)
def c64 : Nat × List Value := (9, [0, 1, 56, 2, 57, 49, 28, 3, 61, 58, 42, 50, 38, 29, 17, 4, 62, 47, 59, 36, 45, 43, 51, 22, 53, 39, 33, 30, 24, 18, 12, 5, 63, 55, 48, 27, 60, 41, 37, 16, 46, 35, 44, 21, 52, 32, 23, 11, 54, 26, 40, 15, 34, 20, 31, 10, 25, 14, 19, 9, 13, 8, 7, 6].map fun z => .int .u8 z)
def cType : Nat × List Value := (1, [.iface 162 (.agg #[.pointer (some ⟨10, 24, none⟩)])])
noncomputable def cRng : Nat × List Value := (7, [.iface 210 (.pointer (some ⟨low, 0, none⟩))])
noncomputable def cSyn : Nat × List Value := (6, [.iface 210 (.pointer (some ⟨low + 1, 0, none⟩))])
noncomputable def weaveWorld (os : Os) : World := layCells (base os) [cPow, c32, c64, cType, cRng, cSyn]
end Go.Proofs.YtgegppbjpaeljaaDoor.Ld
