/- Proved here: slices.IndexFunc, ContainsFunc, Index, Contains, Clone of integers; plan.task, reaches, Check, Right tell what the plain laws say. -/
import Derived.Test.YtgegppbjpaeljaaDoorQ
import Derived.Test.YtgegppbjpaeljaaDoorPl
import Derived.Test.YtgegppbjpaeljaaDoorPp
import Derived.Laws.Cover3
set_option linter.unusedVariables false
set_option linter.unusedSimpArgs false
set_option maxRecDepth 10000
namespace Go.Proofs.YtgegppbjpaeljaaDoor.Pw
open Go Go.X Go.X.Pn Go.RowKit Go.Proofs.YtgegppbjpaeljaaDoor Go.Proofs.YtgegppbjpaeljaaDoor.Ty Go.Proofs.YtgegppbjpaeljaaDoor.Pl

theorem elemInt : TElem Tryd.prog 3 (.int .i64 0) 1 8 := TElem.of (by kernel_rfl) rfl
theorem elemBool : TElem Tryd.prog 4 (.bool false) 1 1 := TElem.of (by kernel_rfl) rfl
theorem elemTask : TElem Tryd.prog 46 (.agg #[.int .i64 0, .slice none 0 0]) 2 32 := TElem.of (by kernel_rfl) rfl
theorem below_trans {w0 w w' : World} (h : Below w0.heap.size w0 w) (k : Below w.heap.size w w') : Below w0.heap.size w0 w' := ((Mod.of_below h noS).trans (Mod.of_below k noS) (fun _ h => h.elim)).below (fun _ h => h)
/-! ### package slices -/
def idx (P : Int → Bool) (xs : List Int) : Int := match xs.findIdx? P with | some i => (i : Int) | none => -1
theorem idx_hit {P : Int → Bool} {xs : List Int} {j : Nat} (hj : j < xs.length) (h : P xs[j] = true) (hb : ∀ i (hi : i < xs.length), i < j → P xs[i] = false) : idx P xs = j := by
  have : xs.findIdx? P = some j := by
    rw [List.findIdx?_eq_some_iff_getElem]
    exact ⟨hj, h, fun i hi => by simpa using hb i (by omega) hi⟩
  rw [idx, this]
theorem idx_miss {P : Int → Bool} {xs : List Int} (hb : ∀ i (hi : i < xs.length), P xs[i] = false) : idx P xs = -1 := by
  have : xs.findIdx? P = none := by
    rw [List.findIdx?_eq_none_iff]
    intro x hx
    obtain ⟨i, hi, rfl⟩ := List.getElem_of_mem hx
    exact hb i hi
  rw [idx, this]
theorem idx_any (P : Int → Bool) (xs : List Int) : decide (idx P xs ≥ 0) = xs.any P := by
  unfold idx
  cases h : xs.findIdx? P with
  | none =>
    rw [List.findIdx?_eq_none_iff] at h
    have : xs.any P = false := by rw [List.any_eq_false]; intro x hx; simp [h x hx]
    rw [this]
    rfl
  | some i =>
    rw [List.findIdx?_eq_some_iff_getElem] at h
    obtain ⟨hi, h1, _⟩ := h
    have : xs.any P = true := List.any_eq_true.2 ⟨_, List.getElem_mem hi, h1⟩
    rw [this]
    simp
noncomputable def cxIF : Cx := ⟨Tryd.prog, 91, 19, []⟩
theorem IndexFunc_calls (A : Option Addr) (c : Nat) (xs : List Int) (fid : FuncId) (caps : List Value) (P : Int → Bool) (w0 : World) (hx : Reads w0 A (ints xs)) (lx : xs.length ≤ maxLen) (hte : TEnters Tryd.prog fid)
    (hcl : ∀ k, k ∈ xs → ∀ w, Below w0.heap.size w0 w → Calls Tryd.prog fid (.int .i64 k :: caps).toArray w (fun e w' => e = .returned (.bool (P k)) ∧ Below w.heap.size w w')) :
    Calls Tryd.prog 91 #[.slice A xs.length c, .func (.func fid) #[] caps.toArray] w0 fun e w' => e = .returned (.int .i64 (idx P xs)) ∧ Below w0.heap.size w0 w' := by
  unfold maxLen at lx
  refine calls_of_X cxIF [.slice A xs.length c, .func (.func fid) #[] caps.toArray] Tryd.func91 (St.nil w0) ?_
  (refine X.seq ?_)
  refine X.region ?_
  refine O.assign ?_
  refine XO.nil ?_
  (refine X.seq ?_; refine X.seq ?_)
  refine X.region ?_
  refine O.move ?_
  refine O.lenSlice tl44 ?_
  refine O.move ?_
  refine XO.nil ?_
  (refine X.block ?_)
  refine X.loop (γ := Nat) (fun j => j ≤ xs.length ∧ ∀ i (hi : i < xs.length), i < j → P xs[i] = false) (fun j => [⟨0, true, .slice A xs.length c⟩, ⟨1, true, .func (.func fid) #[] caps.toArray⟩, ⟨7, true, .int .i64 xs.length⟩, ⟨8, true, .int .i64 j⟩]) (fun j => St w0 noS []) (fun j => xs.length - j) (0) (⟨Nat.zero_le _, fun i _ h => absurd h (by omega)⟩) (by repeat (first | exact Sub.nil | refine Sub.cons rfl (by first | rfl | simp) ?_)) (fun _ h => h) ?_
  rintro j ⟨h1, h2⟩ next
  try dsimp only at *
  (refine X.seq ?_)
  refine X.region ?_
  refine O.lss ?_
  refine XO.nil ?_
  (refine X.seq ?_)
  refine X.cond rfl (fun c2 => ?_) (fun c2 => ?_)
  · have hlt : j < xs.length := by have := of_decide_eq_true c2; omega
    obtain ⟨ad, rfl, ha⟩ := Reads.int_at hx j hlt
    (refine X.skip ?_; refine X.seq ?_; refine X.block ?_; refine X.seq ?_)
    refine X.region ?_
    refine O.move ?_
    refine O.assign ?_
    refine XO.nil ?_
    (refine X.seq ?_)
    refine X.region ?_
    refine O.move ?_
    refine O.move ?_
    refine O.move ?_
    (first | refine O.indexBN tl44 ?_ | refine O.indexAddrN tl44 ?_)
    (first | refine O.loadB tf3 ?_ | refine O.loadO tf3 (by first | assumption | (simp only [Nat.add_zero, Nat.zero_add]; assumption)) ?_ | refine O.loadOwn tf3 ?_)
    refine O.callB (.bool (P xs[j])) hte ?_ (hc := by intro _ w hs; exact hcl xs[j] (List.getElem_mem hlt) w hs.below)
    refine XO.nil ?_
    refine X.cond rfl (fun c4 => ?_) (fun c4 => ?_)
    · (refine X.seq ?_)
      refine X.region ?_
      refine O.move ?_
      refine O.assign ?_
      refine XO.nil ?_
      refine X.ret1 Tryd.func91 ?_
      exact fun w' hs => ⟨by rw [idx_hit hlt c4 h2], hs.below⟩
    · (refine X.skip ?_; refine X.inBlock ?_)
      refine X.region ?_
      refine O.add ?_
      refine O.move ?_
      refine XO.nil ?_
      exact X.sub (by repeat (first | exact Sub.nil | refine Sub.cons rfl (by first | rfl | simp) ?_)) (next (j + 1) (⟨hlt, fun i hi hij => if h5 : i < j then h2 i hi h5 else (by obtain rfl : i = j := (by omega); exact c4)⟩) (by omega))
  · (refine X.exit rfl ?_; refine X.seq ?_)
    refine X.region ?_
    refine O.assign ?_
    refine XO.nil ?_
    refine X.ret1 Tryd.func91 ?_
    exact fun w' hs => ⟨by rw [idx_miss fun i hi => h2 i hi (by have := of_decide_eq_false c2; omega)], hs.below⟩
noncomputable def cxCF : Cx := ⟨Tryd.prog, 66, 9, []⟩
theorem ContainsFunc_calls (A : Option Addr) (c : Nat) (xs : List Int) (fid : FuncId) (caps : List Value) (P : Int → Bool) (w0 : World) (hx : Reads w0 A (ints xs)) (lx : xs.length ≤ maxLen) (hte : TEnters Tryd.prog fid)
    (hcl : ∀ k, k ∈ xs → ∀ w, Below w0.heap.size w0 w → Calls Tryd.prog fid (.int .i64 k :: caps).toArray w (fun e w' => e = .returned (.bool (P k)) ∧ Below w.heap.size w w')) :
    Calls Tryd.prog 66 #[.slice A xs.length c, .func (.func fid) #[] caps.toArray] w0 fun e w' => e = .returned (.bool (xs.any P)) ∧ Below w0.heap.size w0 w' := by
  refine calls_of_X cxCF [.slice A xs.length c, .func (.func fid) #[] caps.toArray] Tryd.func66 (St.nil w0) ?_
  (refine X.seq ?_)
  refine X.region ?_
  refine O.assign ?_
  refine XO.nil ?_
  (refine X.seq ?_)
  refine X.region ?_
  refine O.move ?_
  refine O.move ?_
  refine O.callB (.int .i64 (idx P xs)) te91 ?_ (hc := by intro _ w hs; exact IndexFunc_calls A c xs fid caps P w (hx.st hs) lx hte (fun k hk w' hb => hcl k hk w' (below_trans hs.below hb)))
  refine O.geq ?_
  refine O.assign ?_
  refine XO.nil ?_
  refine X.ret1 Tryd.func66 ?_
  exact fun w' hs => ⟨by rw [idx_any], hs.below⟩
noncomputable def cxIx : Cx := ⟨Tryd.prog, 92, 19, []⟩
theorem Index_calls (A : Option Addr) (c : Nat) (xs : List Int) (n : Int) (w0 : World) (hx : Reads w0 A (ints xs)) (lx : xs.length ≤ maxLen) :
    Calls Tryd.prog 92 #[.slice A xs.length c, .int .i64 n] w0 fun e w' => e = .returned (.int .i64 (idx (fun k => decide (n = k)) xs)) ∧ Below w0.heap.size w0 w' := by
  unfold maxLen at lx
  refine calls_of_X cxIx [.slice A xs.length c, .int .i64 n] Tryd.func92 (St.nil w0) ?_
  (refine X.seq ?_)
  refine X.region ?_
  refine O.assign ?_
  refine XO.nil ?_
  (refine X.seq ?_; refine X.seq ?_)
  refine X.region ?_
  refine O.move ?_
  refine O.lenSlice tl44 ?_
  refine O.move ?_
  refine XO.nil ?_
  (refine X.block ?_)
  refine X.loop (γ := Nat) (fun j => j ≤ xs.length ∧ ∀ i (hi : i < xs.length), i < j → decide (n = xs[i]) = false) (fun j => [⟨0, true, .slice A xs.length c⟩, ⟨1, true, .int .i64 n⟩, ⟨7, true, .int .i64 xs.length⟩, ⟨8, true, .int .i64 j⟩]) (fun j => St w0 noS []) (fun j => xs.length - j) (0) (⟨Nat.zero_le _, fun i _ h => absurd h (by omega)⟩) (by repeat (first | exact Sub.nil | refine Sub.cons rfl (by first | rfl | simp) ?_)) (fun _ h => h) ?_
  rintro j ⟨h1, h2⟩ next
  try dsimp only at *
  (refine X.seq ?_)
  refine X.region ?_
  refine O.lss ?_
  refine XO.nil ?_
  (refine X.seq ?_)
  refine X.cond rfl (fun c2 => ?_) (fun c2 => ?_)
  · have hlt : j < xs.length := by have := of_decide_eq_true c2; omega
    obtain ⟨ad, rfl, ha⟩ := Reads.int_at hx j hlt
    (refine X.skip ?_; refine X.seq ?_; refine X.block ?_; refine X.seq ?_)
    refine X.region ?_
    refine O.move ?_
    refine O.assign ?_
    refine XO.nil ?_
    (refine X.seq ?_)
    refine X.region ?_
    refine O.move ?_
    refine O.move ?_
    refine O.move ?_
    (first | refine O.indexBN tl44 ?_ | refine O.indexAddrN tl44 ?_)
    (first | refine O.loadB tf3 ?_ | refine O.loadO tf3 (by first | assumption | (simp only [Nat.add_zero, Nat.zero_add]; assumption)) ?_ | refine O.loadOwn tf3 ?_)
    refine O.eql ?_
    refine XO.nil ?_
    refine X.cond rfl (fun c4 => ?_) (fun c4 => ?_)
    · (refine X.seq ?_)
      refine X.region ?_
      refine O.move ?_
      refine O.assign ?_
      refine XO.nil ?_
      refine X.ret1 Tryd.func92 ?_
      exact fun w' hs => ⟨by rw [idx_hit (P := fun k => decide (n = k)) hlt c4 h2], hs.below⟩
    · (refine X.skip ?_; refine X.inBlock ?_)
      refine X.region ?_
      refine O.add ?_
      refine O.move ?_
      refine XO.nil ?_
      exact X.sub (by repeat (first | exact Sub.nil | refine Sub.cons rfl (by first | rfl | simp) ?_)) (next (j + 1) (⟨hlt, fun i hi hij => if h5 : i < j then h2 i hi h5 else (by obtain rfl : i = j := (by omega); exact c4)⟩) (by omega))
  · (refine X.exit rfl ?_; refine X.seq ?_)
    refine X.region ?_
    refine O.assign ?_
    refine XO.nil ?_
    refine X.ret1 Tryd.func92 ?_
    exact fun w' hs => ⟨by rw [idx_miss fun i hi => h2 i hi (by have := of_decide_eq_false c2; omega)], hs.below⟩
noncomputable def cxCt : Cx := ⟨Tryd.prog, 70, 9, []⟩
theorem Contains_calls (A : Option Addr) (c : Nat) (xs : List Int) (n : Int) (w0 : World) (hx : Reads w0 A (ints xs)) (lx : xs.length ≤ maxLen) :
    Calls Tryd.prog 70 #[.slice A xs.length c, .int .i64 n] w0 fun e w' => e = .returned (.bool (decide (n ∈ xs))) ∧ Below w0.heap.size w0 w' := by
  refine calls_of_X cxCt [.slice A xs.length c, .int .i64 n] Tryd.func70 (St.nil w0) ?_
  (refine X.seq ?_)
  refine X.region ?_
  refine O.assign ?_
  refine XO.nil ?_
  (refine X.seq ?_)
  refine X.region ?_
  refine O.move ?_
  refine O.move ?_
  refine O.callB (.int .i64 (idx (fun k => decide (n = k)) xs)) te92 ?_ (hc := by intro _ w hs; exact Index_calls A c xs n w (hx.st hs) lx)
  refine O.geq ?_
  refine O.assign ?_
  refine XO.nil ?_
  refine X.ret1 Tryd.func70 ?_
  exact fun w' hs => ⟨by rw [idx_any]; congr 2; rw [Bool.eq_iff_iff]; simp, hs.below⟩
theorem eql_nil (A : Option Addr) (n c : Nat) (w : World) : (binOp .eql 44 (.slice A n c) (.slice none 0 0)).run Tryd.prog w = .ok (.bool A.isNone) w := by
  have h := run_equal_slice_nil (P := Tryd.prog) w 44 3 A n c (under_of tl44.1)
  simp [binOp, h]
noncomputable def cxCl : Cx := ⟨Tryd.prog, 69, 8, []⟩
theorem Clone_calls (A : Option Addr) (c : Nat) (xs : List Int) (w0 : World) (hx : Reads w0 A (ints xs)) (lx : xs.length * 8 ≤ 140737488355328) :
    Calls Tryd.prog 69 #[.slice A xs.length c] w0 fun e w' => ∃ x : Option Addr × Nat, True ∧ e = .returned (.slice x.1 xs.length x.2) ∧ St w0 noS [HP.own 3 1 (.slice x.1 xs.length x.2) xs.length (ints xs)] w' := by
  refine calls_of_X cxCl [.slice A xs.length c] Tryd.func69 (St.nil w0) ?_
  (refine X.seq ?_)
  refine X.region ?_
  refine O.assign ?_
  refine XO.nil ?_
  (refine X.seq ?_; refine X.seq ?_)
  refine X.region ?_
  refine O.move ?_
  refine O.bin (.bool A.isNone) ?_ (hrun := by intro _ w _; exact eql_nil A xs.length c w)
  refine XO.nil ?_
  refine X.cond rfl (fun c1 => ?_) (fun c1 => ?_)
  · (refine X.seq ?_)
    refine X.region ?_
    refine O.assign ?_
    refine XO.nil ?_
    refine X.ret1 Tryd.func69 ?_
    have hA : A = none := by simpa using c1
    subst hA
    have hxs : xs = [] := by
      cases xs with
      | nil => rfl
      | cons a r => obtain ⟨ad, h⟩ := hx.addr (j := 0) (by simp); cases h
    subst hxs
    exact fun w' hs => ⟨(none, 0), trivial, rfl, hs.own_nil _ _⟩
  · have hA : A ≠ none := by intro h; subst h; cases c1
    (refine X.skip ?_; refine X.seq ?_)
    refine X.region ?_
    refine O.buildSlice 3 #[] (fun b5 hb5 => ?_)
    refine XO.st (fun w hs => hs.own_of_blk (n := 0) (sz := 1) rfl (by simp [maxLen])) ?_
    refine O.move ?_
    refine O.append (ints xs) xs.length tl44 elemInt (hsrc := fun w hs => Src.ofReads tl44.1 (hx.st hs) (by simp) (fun e => absurd e hA) (ints_one _)) (h63 := by simp only [maxLen]; omega) (hbytes := by omega) (next := fun A' c' => ?_)
    simp only [Nat.zero_add, List.nil_append]
    refine O.assign ?_
    refine XO.nil ?_
    refine X.ret1 Tryd.func69 ?_
    exact fun w' hs => ⟨(A', c'), trivial, rfl, hs⟩

/-! ### package plan -/
/-- A plan's plain reading. -/
def sp (ts : List TaskM) : Plan := ts.map TaskM.spec
theorem sp_len (ts : List TaskM) : (sp ts).length = ts.length := by simp [sp]
theorem sp_tk {ts : List TaskM} {i : Nat} (h : i < ts.length) : tk (sp ts) i = (ts[i].work, ts[i].needs) := by simp [tk, sp, h, TaskM.spec]
theorem sp_needs {ts : List TaskM} {i : Nat} (h : i < ts.length) : needs (sp ts) i = ts[i].needs := by rw [needs, sp_tk h]
theorem plan_cells {w : World} {ad : Addr} {ts : List TaskM} (h : PlanAt w (some ad) ts) (i : Nat) (hi : i < ts.length) : CellsAt w (ad.add (i * 2)) 0 [.int .i64 ts[i].work, .slice ts[i].hA ts[i].needs.length ts[i].hc] := h.row.cells (i * 2) 2 (rows_drop TaskM.cells_length ts i hi)
noncomputable def cxT1 : Cx := ⟨Tryd.prog, 68, 12, []⟩
theorem task1_calls (b : Nat) (A : Option Addr) (n c : Nat) (k : Int) (w0 : World) (hc : w0.cell? ⟨b, 0, none⟩ = some (.slice A n c)) :
    Calls Tryd.prog 68 #[.int .i64 k, .pointer (some ⟨b, 0, none⟩)] w0 fun e w' => e = .returned (.bool (decide (k < 0) || decide (k ≥ (n : Int)))) ∧ Below w0.heap.size w0 w' := by
  refine calls_of_X cxT1 [.int .i64 k, .pointer (some ⟨b, 0, none⟩)] Tryd.func68 (St.nil w0) ?_
  (refine X.seq ?_)
  refine X.region ?_
  refine O.assign ?_
  refine XO.nil ?_
  (refine X.seq ?_)
  refine X.region ?_
  refine O.move ?_
  refine O.lss ?_
  refine O.move ?_
  refine O.move ?_
  (first | refine O.loadB tf33 ?_ | refine O.loadO tf33 (by first | assumption | (simp only [Nat.add_zero, Nat.zero_add]; assumption)) ?_ | refine O.loadOwn tf33 ?_)
  refine O.lenSlice tl33 ?_
  refine O.geq ?_
  refine O.pickOr ?_
  refine O.assign ?_
  refine XO.nil ?_
  refine X.ret1 Tryd.func68 ?_
  exact fun w' hs => ⟨rfl, hs.below⟩
theorem incr_step {l : List Int} {k : Nat} (h : incr l = incr (l.drop k)) (hk : k + 1 < l.length) (hlt : l[k] < l[k + 1]) : incr l = incr (l.drop (k + 1)) := by
  rw [h, List.drop_eq_getElem_cons (show k < l.length by omega), List.drop_eq_getElem_cons hk]
  simp [incr, hlt]
noncomputable def cxTask : Cx := ⟨Tryd.prog, 45, 46, []⟩
theorem task_calls (A : Option Addr) (c : Nat) (ts : List TaskM) (i : Nat) (w0 : World) (hp : PlanAt w0 A ts) (hi : i < ts.length) (hl : ts.length ≤ maxLen) (hn : ts[i].needs.length ≤ maxLen) :
    Calls Tryd.prog 45 #[.slice A ts.length c, .int .i64 i] w0 fun e w' => e = .returned (errV (taskF (sp ts) (tk (sp ts) i))) ∧ Below w0.heap.size w0 w' := by
  obtain ⟨ad, rfl⟩ := hp.addr i hi
  have hcells := plan_cells hp i hi
  have hneed := hp.need i hi
  rw [sp_tk hi]
  generalize ts[i].work = wk at *
  generalize ts[i].needs = ns at *
  generalize ts[i].hA = hA at *
  generalize ts[i].hc = hc at *
  unfold maxLen at hl hn
  refine calls_of_X cxTask [.slice (some ad) ts.length c, .int .i64 i] Tryd.func45 (St.nil w0) ?_
  (refine X.seq ?_)
  refine X.region ?_
  refine O.box (fun b2 hb2 => ?_)
  refine O.assign ?_
  refine XO.nil ?_
  (refine X.seq ?_)
  refine X.region ?_
  (first | refine O.loadB tf33 ?_ | refine O.loadO tf33 (by first | assumption | (simp only [Nat.add_zero, Nat.zero_add]; assumption)) ?_ | refine O.loadOwn tf33 ?_)
  refine O.move ?_
  (first | refine O.indexBN tl33 ?_ | refine O.indexAddrN tl33 ?_)
  refine O.loadAgg [.int .i64 wk, .slice hA ns.length hc] ta46 (fun _ w hs => CellsAt.old hs hcells) ?_
  refine O.alloc tz46 (fun b5 hb5 => ?_)
  refine O.store _ ts46 ?_
  refine XO.nil ?_
  (refine X.seq ?_; refine X.seq ?_)
  refine X.region ?_
  (first | refine O.fieldB0 td46_0 ?_ | refine O.fieldA td46_0 ?_ | refine O.fieldB td46_0 ?_)
  (first | refine O.loadB tf3 ?_ | refine O.loadO tf3 (by first | assumption | (simp only [Nat.add_zero, Nat.zero_add]; assumption)) ?_ | refine O.loadOwn tf3 ?_)
  refine O.lss ?_
  refine O.move ?_
  (first | refine O.fieldB0 td46_0 ?_ | refine O.fieldA td46_0 ?_ | refine O.fieldB td46_0 ?_)
  (first | refine O.loadB tf3 ?_ | refine O.loadO tf3 (by first | assumption | (simp only [Nat.add_zero, Nat.zero_add]; assumption)) ?_ | refine O.loadOwn tf3 ?_)
  refine O.gtr ?_
  refine O.pickOr ?_
  refine O.move ?_
  (first | refine O.fieldB0 td46_1 ?_ | refine O.fieldA td46_1 ?_ | refine O.fieldB td46_1 ?_)
  (first | refine O.loadB tf44 ?_ | refine O.loadO tf44 (by first | assumption | (simp only [Nat.add_zero, Nat.zero_add]; assumption)) ?_ | refine O.loadOwn tf44 ?_)
  refine O.makeFunc ?_
  refine O.callB (.bool (ns.any fun k => decide (k < 0) || decide (k ≥ (ts.length : Int)))) te66 ?_ (hc := by intro _ w hs; exact ContainsFunc_calls hA hc ns 68 [.pointer (some ⟨b2, 0, none⟩)] _ w (hneed.st hs) hn te68 (fun k hk w' hb => task1_calls b2 (some ad) ts.length c k w' ((hb.cell (World.block_lt_of_cell? w _ (hs.cell (by repeat (first | with_reducible exact Rem.here | with_reducible apply Rem.there)) rfl))).trans (hs.cell (by repeat (first | with_reducible exact Rem.here | with_reducible apply Rem.there)) rfl))))
  refine O.pickOr ?_
  refine XO.nil ?_
  have hout : (ns.any fun k => decide (k < 0) || decide (k ≥ (ts.length : Int))) = ns.any (out (sp ts)) := by congr 1; funext k; simp [out, sp_len]
  rw [hout]
  refine X.cond rfl (fun c2 => ?_) (fun c2 => ?_)
  · (refine X.seq ?_)
    refine X.region ?_
    refine O.makeInterface ?_
    refine O.assign ?_
    refine XO.nil ?_
    refine X.ret1 Tryd.func45 ?_
    exact fun w' hs => ⟨by rw [taskF, if_pos c2]; rfl, hs.below⟩
  · have htf : taskF (sp ts) (wk, ns) = if incr ns then 0 else 7 := by rw [taskF, if_neg (by rw [c2]; decide)]
    rw [htf]
    (refine X.skip ?_; refine X.seq ?_; refine X.seq ?_)
    refine X.region ?_
    refine O.assign ?_
    refine XO.nil ?_
    (refine X.block ?_)
    refine X.loop (γ := Nat) (fun k => 1 ≤ k ∧ k ≤ max 1 ns.length ∧ incr ns = incr (ns.drop (k - 1))) (fun k => [⟨5, true, .pointer (some ⟨b5, 0, none⟩)⟩, ⟨6, true, .int .i64 k⟩]) (fun k => St w0 noS [HP.blk b5 (.cells #[.int .i64 wk, .slice hA ns.length hc] 46 (0, 0))]) (fun k => ns.length - k) (1) (⟨Nat.le_refl _, by omega, rfl⟩) (by repeat (first | exact Sub.nil | refine Sub.cons rfl (by first | rfl | simp) ?_)) (fun _ h => h.perm (by repeat (first | exact Rems.nil | (apply Rems.cons; focus (repeat (first | with_reducible exact Rem.here | with_reducible apply Rem.there)))))) ?_
    rintro k ⟨k1, k2, k3⟩ next
    try dsimp only at *
    (refine X.seq ?_; refine X.seq ?_)
    refine X.region ?_
    refine O.move ?_
    (first | refine O.fieldB0 td46_1 ?_ | refine O.fieldA td46_1 ?_ | refine O.fieldB td46_1 ?_)
    (first | refine O.loadB tf44 ?_ | refine O.loadO tf44 (by first | assumption | (simp only [Nat.add_zero, Nat.zero_add]; assumption)) ?_ | refine O.loadOwn tf44 ?_)
    refine O.lenSlice tl44 ?_
    refine O.lss ?_
    refine XO.nil ?_
    refine X.cond rfl (fun c5 => ?_) (fun c5 => ?_)
    · have hk : k < ns.length := by have := of_decide_eq_true c5; omega
      obtain ⟨nd, rfl, hc1⟩ := Reads.int_at hneed k hk
      obtain ⟨_, he, hc0⟩ := Reads.int_at hneed (k - 1) (by omega)
      cases he
      (refine X.skip ?_; refine X.seq ?_; refine X.block ?_; refine X.seq ?_)
      refine X.regionR mixed (by kernel_rfl) ?_
      (first | refine O.fieldB0 td46_1 ?_ | refine O.fieldA td46_1 ?_ | refine O.fieldB td46_1 ?_)
      (first | refine O.loadB tf44 ?_ | refine O.loadO tf44 (by first | assumption | (simp only [Nat.add_zero, Nat.zero_add]; assumption)) ?_ | refine O.loadOwn tf44 ?_)
      refine O.move ?_
      refine O.sub (r := ((k - 1 : Nat) : Int)) ?_ (hr := by intro _; rw [wrap_i64 (by omega) (by omega)]; omega)
      (first | refine O.indexBN tl44 ?_ | refine O.indexAddrN tl44 ?_)
      refine O.loadO tf3 hc0 ?_
      (first | refine O.fieldB0 td46_1 ?_ | refine O.fieldA td46_1 ?_ | refine O.fieldB td46_1 ?_)
      (first | refine O.loadB tf44 ?_ | refine O.loadO tf44 (by first | assumption | (simp only [Nat.add_zero, Nat.zero_add]; assumption)) ?_ | refine O.loadOwn tf44 ?_)
      refine O.move ?_
      (first | refine O.indexBN tl44 ?_ | refine O.indexAddrN tl44 ?_)
      refine O.loadO tf3 hc1 ?_
      refine O.geq ?_
      refine XO.nilS ?_
      refine XO.nil ?_
      refine X.cond rfl (fun c7 => ?_) (fun c7 => ?_)
      · (refine X.seq ?_)
        refine X.region ?_
        refine O.makeInterface ?_
        refine O.assign ?_
        refine XO.nil ?_
        refine X.ret1 Tryd.func45 ?_
        have hge : ns[k - 1] ≥ ns[k] := of_decide_eq_true c7
        have hfalse : incr ns = false := by
          rw [k3, List.drop_eq_getElem_cons (show k - 1 < ns.length by omega), show k - 1 + 1 = k from by omega, List.drop_eq_getElem_cons hk]
          simp only [incr, Bool.and_eq_false_iff, decide_eq_false_iff_not]
          exact .inl (by omega)
        exact fun w' hs => ⟨by rw [hfalse]; rfl, hs.below⟩
      · (refine X.skip ?_; refine X.inBlock ?_)
        refine X.region ?_
        refine O.move ?_
        refine O.add ?_
        refine O.assign ?_
        refine XO.nil ?_
        exact X.sub (by repeat (first | exact Sub.nil | refine Sub.cons rfl (by first | rfl | simp) ?_)) (next (k + 1) (⟨by omega, by omega, by
          have hlt : ns[k - 1] < ns[k] := Int.not_le.1 (of_decide_eq_false c7)
          have := incr_step k3 (by omega) (by simpa [show k - 1 + 1 = k from by omega] using hlt)
          rw [this, show k - 1 + 1 = k + 1 - 1 from by omega]⟩) (by omega))
    · (refine X.exit rfl ?_; refine X.seq ?_)
      refine X.region ?_
      refine O.assign ?_
      refine XO.nil ?_
      refine X.ret1 Tryd.func45 ?_
      have htrue : incr ns = true := by
        have hge := of_decide_eq_false c5
        have hlen : (ns.drop (k - 1)).length ≤ 1 := by rw [List.length_drop]; omega
        rw [k3]
        match hd : ns.drop (k - 1), hlen with
        | [], _ => rfl
        | [a], _ => rfl
      exact fun w' hs => ⟨by rw [htrue]; rfl, hs.below⟩

/-! ### plan.reaches -/
theorem bools_set (l : List Bool) (i : Nat) (b : Bool) : (bools l).set i (.bool b) = bools (l.set i b) := by simp [bools, List.map_set]
theorem bools_getD {l : List Bool} {i : Nat} (h : i < l.length) : (bools l)[i]? = some (.bool (l.getD i false)) := by simp [bools, List.getD, h]
noncomputable def cxReach : Cx := ⟨Tryd.prog, 46, 43, []⟩
theorem reaches_calls (A : Option Addr) (c : Nat) (ts : List TaskM) (i : Nat) (w0 : World) (hp : PlanAt w0 A ts) (hi : i < ts.length) (hl : ts.length ≤ 30) (hR : ∀ j, j < ts.length → ∀ k ∈ needs (sp ts) j, 0 ≤ k ∧ k < (ts.length : Int)) (hN : ∀ j, j < ts.length → (needs (sp ts) j).length ≤ 30) :
    Calls Tryd.prog 46 #[.slice A ts.length c, .int .i64 i] w0 fun e w' => e = .returned (.bool (cyc (sp ts) i)) ∧ Below w0.heap.size w0 w' := by
  obtain ⟨ad, rfl⟩ := hp.addr i hi
  have hhdr := hp.hdr i hi
  have hneed := hp.need i hi
  have hN0 := hN i hi
  have hpot : ∀ seen, pot seen (sp ts) ≤ 30 * 30 := fun seen => Nat.le_trans (pot_le seen (sp ts) 30 (fun t ht => by
    obtain ⟨j, hj, rfl⟩ := List.getElem_of_mem ht
    have := hN j (by simpa [sp] using hj)
    simpa [needs, tk, hj] using this)) (by rw [sp_len]; omega)
  have hw := Walk.init (p := sp ts) (i := i) (by rw [sp_len]; exact hR i hi)
  rw [sp_needs hi] at hw hN0
  rw [sp_len] at hw
  refine calls_of_X cxReach [.slice (some ad) ts.length c, .int .i64 i] Tryd.func46 (St.nil w0) ?_
  (refine X.seq ?_)
  refine X.region ?_
  refine O.assign ?_
  refine XO.nil ?_
  (refine X.seq ?_)
  refine X.region ?_
  refine O.move ?_
  refine O.lenSlice tl33 ?_
  refine O.makeSlice (n := ts.length) tl55 elemBool rfl (by simp only [maxLen]; omega) (by omega) (fun sd => ?_)
  refine O.assign ?_
  refine XO.nil ?_
  (refine X.seq ?_)
  refine X.region ?_
  refine O.move ?_
  refine O.move ?_
  (first | refine O.indexBN tl33 ?_ | refine O.indexAddrN tl33 ?_)
  (first | refine O.fieldB0 td46_1 ?_ | refine O.fieldA td46_1 ?_ | refine O.fieldB td46_1 ?_)
  refine O.loadO tf44 hhdr ?_
  refine O.callN (α := Option Addr × Nat) (φ := fun _ => True) (vo := fun x => .slice x.1 ts[i].needs.length x.2) (N := fun x => [HP.own 3 1 (.slice x.1 ts[i].needs.length x.2) ts[i].needs.length (ints ts[i].needs)]) te69 (hc := by intro w hs; exact Clone_calls _ _ _ w (hneed.st hs) (by omega)) (next := fun x _ => ?_)
  simp only [List.cons_append, List.nil_append]
  refine O.assign ?_
  refine XO.nil ?_
  (refine X.seq ?_; refine X.block ?_)
  refine X.loop (γ := List Bool × List Int × Option Addr × Nat) (fun y => Walk (sp ts) i y.1 y.2.1 ∧ y.2.1.length + pot y.1 (sp ts) ≤ 1000)
    (fun y => [⟨0, true, .slice (some ad) ts.length c⟩, ⟨1, true, .int .i64 i⟩, ⟨5, true, .slice (some sd) ts.length ts.length⟩, ⟨6, true, .slice y.2.2.1 y.2.1.length y.2.2.2⟩])
    (fun y => St w0 noS [HP.q 3 1 (.slice y.2.2.1 y.2.1.length y.2.2.2) y.2.1.length (ints y.2.1), HP.own 4 1 (.slice (some sd) ts.length ts.length) ts.length (bools y.1)]) (fun y => y.2.1.length + pot y.1 (sp ts)) (List.replicate ts.length false, ts[i].needs, x.1, x.2) ⟨hw, by have := hpot (List.replicate ts.length false); dsimp only; omega⟩ (by repeat (first | exact Sub.nil | refine Sub.cons rfl (by first | rfl | simp) ?_))
    (fun w hs => by
      have h1 := (hs.perm (L1 := [HP.own 3 1 (.slice x.1 ts[i].needs.length x.2) ts[i].needs.length (ints ts[i].needs), HP.own 4 1 (.slice (some sd) ts.length ts.length) ts.length (List.replicate ts.length (.bool false))]) (by repeat (first | exact Rems.nil | (apply Rems.cons; focus (repeat (first | with_reducible exact Rem.here | with_reducible apply Rem.there)))))).q_of_own
      dsimp only
      rw [show bools (List.replicate ts.length false) = List.replicate ts.length (.bool false) from by simp [bools]]
      exact h1) ?_
  rintro ⟨seen, row, rA, rc⟩ ⟨hW, hP⟩ next
  dsimp only at hW hP ⊢
  (refine X.seq ?_; refine X.seq ?_)
  refine X.region ?_
  refine O.move ?_
  refine O.lenSlice tl44 ?_
  refine O.gtr ?_
  refine XO.nil ?_
  refine X.cond rfl (fun c3 => ?_) (fun c3 => ?_)
  · obtain ⟨k, r, rfl⟩ : ∃ k r, row = k :: r := by
      cases row with
      | nil => have := of_decide_eq_true c3; simp at this
      | cons k r => exact ⟨k, r, rfl⟩
    refine X.fact (fun w hs => (hs.q_reads .here).addr (j := 0) (by simp)) ?_
    rintro ⟨rad, rfl⟩
    have hkr := hW.rng k (List.mem_cons_self ..)
    rw [sp_len] at hkr
    have hsl : seen.length = ts.length := by rw [hW.len, sp_len]
    (refine X.skip ?_; refine X.seq ?_; refine X.block ?_; refine X.seq ?_)
    refine X.region ?_
    refine O.move ?_
    refine O.indexAddrN (kk := 0) tl44 ?_ (hk := rfl) (h1 := by intro _; simp only [List.length_cons]; omega)
    refine O.load (.int .i64 k) tf3 (fun _ w hs => (hs.q_reads .here).at_ (j := 0) rfl) ?_
    refine O.assign ?_
    refine XO.nil ?_
    (refine X.seq ?_; refine X.seq ?_)
    refine X.region ?_
    refine O.move ?_
    refine O.move ?_
    refine O.eql ?_
    refine XO.nil ?_
    refine X.cond rfl (fun c6 => ?_) (fun c6 => ?_)
    · (refine X.seq ?_)
      refine X.region ?_
      refine O.assign ?_
      refine XO.nil ?_
      refine X.ret1 Tryd.func46 ?_
      have hk : k = (i : Int) := of_decide_eq_true c6
      have : cyc (sp ts) i = true := by
        have h1 := hW.reach k (List.mem_cons_self ..)
        rw [hk, Int.toNat_natCast] at h1
        exact cyc_iff.2 h1
      exact fun w' hs => ⟨by rw [this], hs.below⟩
    · have hki : k ≠ (i : Int) := of_decide_eq_false c6
      have hkl : k.toNat < ts.length := by omega
      have hsv := bools_getD (l := seen) (i := k.toNat) (by omega)
      (refine X.skip ?_; refine X.seq ?_)
      refine X.region ?_
      refine O.move ?_
      refine O.move ?_
      refine O.indexAddrN (kk := k.toNat) tl55 ?_ (hk := Nat.mul_one _)
      refine O.loadOwn tf4 ?_ (hv := hsv)
      refine O.not ?_
      refine XO.nil ?_
      refine X.cond rfl (fun c8 => ?_) (fun c8 => ?_)
      · have hns : seen.getD k.toNat false = false := by simpa using c8
        have hps := pot_set seen (sp ts) k.toNat hW.len (by rw [sp_len]; exact hkl) hns
        have hhk := hp.hdr k.toNat hkl
        have hnk := hp.need k.toNat hkl
        have hlk := hN k.toNat hkl
        rw [sp_needs hkl] at hlk hps
        (refine X.seq ?_)
        refine X.region ?_
        refine O.move ?_
        refine O.move ?_
        refine O.indexAddrN (kk := k.toNat) tl55 ?_ (hk := Nat.mul_one _)
        refine O.storeOwn (i := k.toNat) (bools (seen.set k.toNat true)) ts4 (hi := by simp [bools]; omega) (hcs := bools_set _ _ _) (next := ?_)
        refine XO.nil ?_
        refine X.region ?_
        refine O.move ?_
        refine O.move ?_
        refine O.move ?_
        (first | refine O.indexBN tl33 ?_ | refine O.indexAddrN tl33 ?_)
        (first | refine O.fieldB0 td46_1 ?_ | refine O.fieldA td46_1 ?_ | refine O.fieldB td46_1 ?_)
        refine O.loadO tf44 hhk ?_
        refine O.appendQ (ints ts[k.toNat].needs) ts[k.toNat].needs.length tl44 elemInt (hsrc := fun w hs => Src.ofReads tl44.1 (hnk.st hs) (by simp) (fun e => by
          cases hz : ts[k.toNat].needs with
          | nil => rfl
          | cons a r => rw [hz] at hnk; obtain ⟨ad2, h2⟩ := hnk.addr (j := 0) (by simp); rw [e] at h2; cases h2) (ints_one _)) (h63 := by simp only [maxLen, List.length_cons]; simp only [List.length_cons] at hP; omega) (hbytes := by simp only [List.length_cons] at hP ⊢; omega) (next := fun A' c' => ?_)
        refine O.assign ?_
        refine XO.nil ?_
        (refine X.inBlock ?_)
        rw [show (k :: r).length + ts[k.toNat].needs.length = (r ++ ts[k.toNat].needs).length + 1 from by simp only [List.length_cons, List.length_append]; omega, show ints (k :: r) ++ ints ts[k.toNat].needs = .int .i64 k :: ints (r ++ ts[k.toNat].needs) from by simp [ints]]
        refine X.region ?_
        refine O.move ?_
        refine O.sliceQ1 tl44 (fun A2 c2 => ?_)
        refine O.assign ?_
        refine XO.nil ?_
        refine X.st (fun w hs => ?_) (X.sub (by repeat (first | exact Sub.nil | refine Sub.cons rfl (by first | rfl | simp) ?_)) (next (seen.set k.toNat true, r ++ ts[k.toNat].needs, A2, c2) ⟨by have := hW.go hki (by rw [sp_len]; exact hR _ hkl); rw [sp_needs hkl] at this; exact this, by simp only [List.length_cons, List.length_append] at hP ⊢; omega⟩ (by simp only [List.length_cons, List.length_append]; omega)))
        dsimp only
        exact hs.perm (by repeat (first | exact Rems.nil | (apply Rems.cons; focus (repeat (first | with_reducible exact Rem.here | with_reducible apply Rem.there)))))
      · (refine X.skip ?_; refine X.inBlock ?_)
        rw [show (k :: r).length = r.length + 1 from rfl, show ints (k :: r) = .int .i64 k :: ints r from rfl]
        refine X.region ?_
        refine O.move ?_
        refine O.sliceQ1 tl44 (fun A2 c2 => ?_)
        refine O.assign ?_
        refine XO.nil ?_
        have hsn : seen.getD k.toNat false = true := by simpa using c8
        refine X.st (fun w hs => ?_) (X.sub (by repeat (first | exact Sub.nil | refine Sub.cons rfl (by first | rfl | simp) ?_)) (next (seen, r, A2, c2) ⟨hW.skip hsn, by simp only [List.length_cons] at hP ⊢; omega⟩ (by simp only [List.length_cons]; omega)))
        dsimp only
        exact hs.perm (by repeat (first | exact Rems.nil | (apply Rems.cons; focus (repeat (first | with_reducible exact Rem.here | with_reducible apply Rem.there)))))
  · (refine X.exit rfl ?_; refine X.seq ?_)
    refine X.region ?_
    refine O.assign ?_
    refine XO.nil ?_
    refine X.ret1 Tryd.func46 ?_
    have hrow : row = [] := by
      have := of_decide_eq_false c3
      exact List.eq_nil_of_length_eq_zero (by omega)
    subst hrow
    have : cyc (sp ts) i = false := by
      cases h : cyc (sp ts) i with
      | false => rfl
      | true => exact absurd (cyc_iff.1 h) hW.done
    exact fun w' hs => ⟨by rw [this], hs.below⟩

/-! ### plan.Check, plan.Right -/
noncomputable def cxCheck : Cx := ⟨Tryd.prog, 21, 35, []⟩
theorem Check_calls (A : Option Addr) (c : Nat) (ts : List TaskM) (w0 : World) (hp : PlanAt w0 A ts) (hl : ts.length ≤ maxLen) (hn : ∀ t ∈ ts, t.needs.length ≤ maxLen) :
    Calls Tryd.prog 21 #[.slice A ts.length c] w0 fun e w' => e = .returned (.tuple #[.int .i64 (checkF (sp ts)).1, errV (checkF (sp ts)).2]) ∧ Below w0.heap.size w0 w' := by
  have hl0 := hl
  unfold maxLen at hl
  have hsl := sp_len ts
  refine calls_of_X cxCheck [.slice A ts.length c] Tryd.func21 (St.nil w0) ?_
  (refine X.seq ?_)
  refine X.region ?_
  refine O.assign ?_
  refine O.assign ?_
  refine XO.nil ?_
  (refine X.seq ?_; refine X.seq ?_)
  refine X.region ?_
  refine O.move ?_
  refine O.lenSlice tl33 ?_
  refine O.gtr ?_
  refine XO.nil ?_
  refine X.cond rfl (fun c1 => ?_) (fun c1 => ?_)
  · (refine X.seq ?_)
    refine X.region ?_
    refine O.makeInterface ?_
    refine O.assign ?_
    refine O.assign ?_
    refine XO.nil ?_
    refine X.ret2 Tryd.func21 ?_
    exact fun w' hs => ⟨by rw [checkF, if_pos (by have := of_decide_eq_true c1; omega)]; rfl, hs.below⟩
  · have h30 : ts.length ≤ 30 := by have := of_decide_eq_false c1; omega
    (refine X.skip ?_; refine X.seq ?_; refine X.seq ?_)
    refine X.region ?_
    refine O.move ?_
    refine O.lenSlice tl33 ?_
    refine O.move ?_
    refine XO.nil ?_
    (refine X.block ?_)
    refine X.loop (γ := Nat) (fun k => k ≤ ts.length ∧ ∀ j, j < k → taskF (sp ts) (tk (sp ts) j) = 0) (fun k => [⟨0, true, .slice A ts.length c⟩, ⟨12, true, .int .i64 ts.length⟩, ⟨13, true, .int .i64 k⟩]) (fun k => St w0 noS []) (fun k => ts.length - k) (0) (⟨Nat.zero_le _, fun j h => absurd h (by omega)⟩) (by repeat (first | exact Sub.nil | refine Sub.cons rfl (by first | rfl | simp) ?_)) (fun _ h => h) ?_
    rintro k ⟨k1, k2⟩ next
    try dsimp only at *
    (refine X.seq ?_)
    refine X.region ?_
    refine O.lss ?_
    refine XO.nil ?_
    (refine X.seq ?_)
    refine X.cond rfl (fun c4 => ?_) (fun c4 => ?_)
    · have hk : k < ts.length := by have := of_decide_eq_true c4; omega
      (refine X.skip ?_; refine X.seq ?_; refine X.block ?_; refine X.seq ?_)
      refine X.region ?_
      refine O.move ?_
      refine O.assign ?_
      refine XO.nil ?_
      (refine X.seq ?_)
      refine X.region ?_
      refine O.move ?_
      refine O.move ?_
      refine O.callB (errV (taskF (sp ts) (tk (sp ts) k))) te45 ?_ (hc := by intro _ w hs; exact task_calls A c ts k w (hp.st hs) hk hl0 (hn _ (List.getElem_mem hk)))
      refine O.assign ?_
      refine XO.nil ?_
      (refine X.seq ?_)
      refine X.region ?_
      refine O.move ?_
      (first | refine Go.Proofs.YtgegppbjpaeljaaDoor.O.neErr ?_ | refine O.neNil ?_ | refine O.nilNe ?_)
      refine XO.nil ?_
      refine X.cond rfl (fun c7 => ?_) (fun c7 => ?_)
      · (refine X.seq ?_)
        refine X.region ?_
        refine O.move ?_
        refine O.move ?_
        refine O.assign ?_
        refine O.assign ?_
        refine XO.nil ?_
        refine X.ret2 Tryd.func21 ?_
        exact fun w' hs => ⟨by rw [checkF_fault (by omega) (by omega) (by simpa using c7) k2], hs.below⟩
      · (refine X.skip ?_; refine X.inBlock ?_)
        refine X.region ?_
        refine O.add ?_
        refine O.move ?_
        refine XO.nil ?_
        exact X.sub (by repeat (first | exact Sub.nil | refine Sub.cons rfl (by first | rfl | simp) ?_)) (next (k + 1) (⟨hk, fun j hj => if h5 : j < k then k2 j h5 else (by obtain rfl : j = k := (by omega); simpa using c7)⟩) (by omega))
    · have hall : ∀ j, j < (sp ts).length → taskF (sp ts) (tk (sp ts) j) = 0 := fun j hj => k2 j (by have := of_decide_eq_false c4; omega)
      have hzz := fun j hj => taskF_zero.1 (hall j hj)
      (refine X.exit rfl ?_; refine X.seq ?_; refine X.seq ?_)
      refine X.region ?_
      refine O.move ?_
      refine O.lenSlice tl33 ?_
      refine O.move ?_
      refine XO.nil ?_
      (refine X.block ?_)
      refine X.loop (γ := Nat) (fun m => m ≤ ts.length ∧ ∀ j, j < m → cyc (sp ts) j = false) (fun m => [⟨0, true, .slice A ts.length c⟩, ⟨25, true, .int .i64 ts.length⟩, ⟨26, true, .int .i64 m⟩]) (fun m => St w0 noS []) (fun m => ts.length - m) (0) (⟨Nat.zero_le _, fun j h => absurd h (by omega)⟩) (by repeat (first | exact Sub.nil | refine Sub.cons rfl (by first | rfl | simp) ?_)) (fun _ h => h) ?_
      rintro m ⟨m1, m2⟩ next
      try dsimp only at *
      (refine X.seq ?_)
      refine X.region ?_
      refine O.lss ?_
      refine XO.nil ?_
      (refine X.seq ?_)
      refine X.cond rfl (fun c11 => ?_) (fun c11 => ?_)
      · have hm : m < ts.length := by have := of_decide_eq_true c11; omega
        (refine X.skip ?_; refine X.seq ?_; refine X.block ?_; refine X.seq ?_)
        refine X.region ?_
        refine O.move ?_
        refine O.assign ?_
        refine XO.nil ?_
        (refine X.seq ?_)
        refine X.region ?_
        refine O.move ?_
        refine O.move ?_
        refine O.callB (.bool (cyc (sp ts) m)) te46 ?_ (hc := by intro _ w hs; exact reaches_calls A c ts m w (hp.st hs) hm h30 (fun j hj x hx => by have := (hzz j (by omega)).2.2.1 x hx; rw [hsl] at this; exact this) (fun j hj => by
  have h1 := hzz j (by omega)
  have := sorted_len (tk (sp ts) j).2 0 (sp ts).length (incr_sorted h1.2.2.2) h1.2.2.1 (by omega)
  show (tk (sp ts) j).2.length ≤ 30
  omega))
        refine XO.nil ?_
        refine X.cond rfl (fun c13 => ?_) (fun c13 => ?_)
        · (refine X.seq ?_)
          refine X.region ?_
          refine O.move ?_
          refine O.makeInterface ?_
          refine O.assign ?_
          refine O.assign ?_
          refine XO.nil ?_
          refine X.ret2 Tryd.func21 ?_
          exact fun w' hs => ⟨by rw [checkF_cyc (by omega) hall (by omega) c13 m2]; rfl, hs.below⟩
        · (refine X.skip ?_; refine X.inBlock ?_)
          refine X.region ?_
          refine O.add ?_
          refine O.move ?_
          refine XO.nil ?_
          exact X.sub (by repeat (first | exact Sub.nil | refine Sub.cons rfl (by first | rfl | simp) ?_)) (next (m + 1) (⟨hm, fun j hj => if h5 : j < m then m2 j h5 else (by obtain rfl : j = m := (by omega); exact c13)⟩) (by omega))
      · (refine X.exit rfl ?_; refine X.seq ?_)
        refine X.region ?_
        refine O.assign ?_
        refine O.assign ?_
        refine XO.nil ?_
        refine X.ret2 Tryd.func21 ?_
        exact fun w' hs => ⟨by rw [checkF_fine (by omega) hall (fun j hj => m2 j (by have := of_decide_eq_false c11; omega))]; rfl, hs.below⟩
noncomputable def cxRight : Cx := ⟨Tryd.prog, 38, 11, []⟩
theorem Right_calls (A : Option Addr) (c : Nat) (ts : List TaskM) (w0 : World) (hp : PlanAt w0 A ts) (hl : ts.length ≤ maxLen) (hn : ∀ t ∈ ts, t.needs.length ≤ maxLen) :
    Calls Tryd.prog 38 #[.slice A ts.length c] w0 fun e w' => e = .returned (errV (rightF (sp ts))) ∧ Below w0.heap.size w0 w' := by
  refine calls_of_X cxRight [.slice A ts.length c] Tryd.func38 (St.nil w0) ?_
  (refine X.seq ?_)
  refine X.region ?_
  refine O.assign ?_
  refine XO.nil ?_
  (refine X.seq ?_)
  refine X.region ?_
  refine O.move ?_
  refine O.callB (.tuple #[.int .i64 (checkF (sp ts)).1, errV (checkF (sp ts)).2]) te21 ?_ (hc := by intro _ w hs; exact Check_calls A c ts w (hp.st hs) hl hn)
  refine O.move ?_
  refine O.extract ?_
  refine O.extract ?_
  refine O.assign ?_
  refine O.assign ?_
  refine XO.nil ?_
  (refine X.seq ?_)
  refine X.region ?_
  refine O.move ?_
  refine O.assign ?_
  refine XO.nil ?_
  refine X.ret1 Tryd.func38 ?_
  exact fun w' hs => ⟨rfl, hs.below⟩
end Go.Proofs.YtgegppbjpaeljaaDoor.Pw
