/- Errors as numbers: the value of an error, and its comparison with nil. -/
import Derived.Test.YtgegppbjpaeljaaDoorH
import Derived.Test.YtgegppbjpaeljaaDoorProg
import Derived.Test.YtgegppbjpaeljaaDoorTy
set_option linter.unusedVariables false
set_option linter.unusedSimpArgs false
set_option maxRecDepth 10000
namespace Go.Proofs.YtgegppbjpaeljaaDoor
open Go Go.X Go.RowKit Go.Proofs.YtgegppbjpaeljaaDoor.Ty

/-- The value of an error: 0 is nil. -/
def errV (n : Int) : Value := if n = 0 then .nilIface else .iface 78 (.int .i64 n)
theorem errV_zero : errV 0 = .nilIface := rfl
theorem errV_ne {n : Int} (h : n ≠ 0) : errV n = .iface 78 (.int .i64 n) := by rw [errV, if_neg h]
theorem errV_one (n : Int) : (errV n).oneCell' = true := by unfold errV; split <;> rfl
theorem errV_cells (n : Int) : (errV n).cells = #[errV n] := by unfold errV; split <;> rfl
theorem neq_err (n : Int) (w : World) : (binOp .neq 24 (errV n) .nilIface).run Tryd.prog w = .ok (.bool (!decide (n = 0))) w := by
  by_cases h : n = 0
  · subst h; kernel_rfl
  · rw [errV_ne h, decide_eq_false h]; kernel_rfl
theorem eql_err (n : Int) (w : World) : (binOp .eql 24 (errV n) .nilIface).run Tryd.prog w = .ok (.bool (decide (n = 0))) w := by
  by_cases h : n = 0
  · subst h; kernel_rfl
  · rw [errV_ne h, decide_eq_false h]; kernel_rfl
theorem guard_err (op : BinOp) (x : Operand) (n : Int) (w : World) : (eqGuard op 24 x (.const .nilIface) (errV n) .nilIface).run Tryd.prog w = .ok () w := by
  by_cases h : n = 0
  · subst h
    rw [errV_zero]
    simp [eqGuard]
  · rw [errV_ne h]
    simp [eqGuard]
namespace O
variable {cx : Cx} {md : Md} {k : List Item} {e : Env} {R : Ending → World → Prop} {ops rest : List Oper} {σ : World → Prop} {d : Nat} {g c : Bool} {x : Operand} {ty t' : TypeId} {ps : String} {af : Array Edge} {gu : Option (Nat × Bool)} {n : Int} {f : FuncId} {nn : Nat} {ds : List Deferred}
theorem neErr (next : XO ⟨Tryd.prog, f, nn, ds⟩ md ops rest k (⟨d, g, .bool (!decide (n = 0))⟩ :: e) σ R) (hg : gcond e ops gu = some g := by rfl) (hx : opd e x = some (c, errV n) := by rfl) (hc : GC g c := by first | exact fun _ => rfl | exact id | exact fun h => (Bool.and_eq_true_iff.1 h).1 | (intro h; simp only [Bool.and_eq_true] at h ⊢; simp [h])) (hn : Nat.ble (d + 1) nn = true := by rfl) :
    XO ⟨Tryd.prog, f, nn, ds⟩ md ops (⟨some d, .binOp .neq 24 x (.const .nilIface) t', ty, ps, af, gu⟩ :: rest) k e σ R := XO.val hg rfl hn (V.bin rfl hx rfl hc (fun _ => rfl) (fun w => guard_err _ x n w) (fun _ w _ => neq_err n w)) next
theorem eqErr (next : XO ⟨Tryd.prog, f, nn, ds⟩ md ops rest k (⟨d, g, .bool (decide (n = 0))⟩ :: e) σ R) (hg : gcond e ops gu = some g := by rfl) (hx : opd e x = some (c, errV n) := by rfl) (hc : GC g c := by first | exact fun _ => rfl | exact id | exact fun h => (Bool.and_eq_true_iff.1 h).1 | (intro h; simp only [Bool.and_eq_true] at h ⊢; simp [h])) (hn : Nat.ble (d + 1) nn = true := by rfl) :
    XO ⟨Tryd.prog, f, nn, ds⟩ md ops (⟨some d, .binOp .eql 24 x (.const .nilIface) t', ty, ps, af, gu⟩ :: rest) k e σ R := XO.val hg rfl hn (V.bin rfl hx rfl hc (fun _ => rfl) (fun w => guard_err _ x n w) (fun _ w _ => eql_err n w)) next
end O
end Go.Proofs.YtgegppbjpaeljaaDoor
