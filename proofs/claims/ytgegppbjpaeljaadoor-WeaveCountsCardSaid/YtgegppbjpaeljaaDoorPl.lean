/- Proved here: plans in memory; yardsame.Ints and yardsame.Plan say whether two lists, two plans, are the same, and turn nothing. -/
import Derived.Test.YtgegppbjpaeljaaDoorEr
import Derived.Test.YtgegppbjpaeljaaDoorProg
import Derived.Test.YtgegppbjpaeljaaDoorTy
set_option linter.unusedVariables false
set_option linter.unusedSimpArgs false
set_option maxRecDepth 10000
namespace Go.Proofs.YtgegppbjpaeljaaDoor.Pl
open Go Go.X Go.RowKit Go.Proofs.YtgegppbjpaeljaaDoor.Ty

theorem Reads.int_at {w : World} {A : Option Addr} {xs : List Int} (h : Reads w A (ints xs)) (i : Nat) (hi : i < xs.length) : ∃ ad, A = some ad ∧ w.cell? (ad.add i) = some (.int .i64 xs[i]) := by
  obtain ⟨ad, rfl⟩ := h.addr (j := i) (by simpa using hi)
  exact ⟨ad, rfl, h.at_ (ints_at hi)⟩

/-- A task where it lies: its work, its needs, and where these lie. -/
structure TaskM where
  work : Int
  needs : List Int
  hA : Option Addr
  hc : Nat
deriving Inhabited
def TaskM.cells (t : TaskM) : List Value := [.int .i64 t.work, .slice t.hA t.needs.length t.hc]
def TaskM.spec (t : TaskM) : Int × List Int := (t.work, t.needs)
def planRow (ts : List TaskM) : List Value := ts.flatMap TaskM.cells
theorem TaskM.cells_length (t : TaskM) : t.cells.length = 2 := rfl
theorem planRow_length (ts : List TaskM) : (planRow ts).length = ts.length * 2 := rows_length TaskM.cells_length ts
def NeedsOK (ts : List TaskM) (w : World) : Prop := ∀ t ∈ ts, Reads w t.hA (ints t.needs)
/-- A plan lies at A. -/
structure PlanAt (w : World) (A : Option Addr) (ts : List TaskM) : Prop where
  row : Reads w A (planRow ts)
  needs : NeedsOK ts w
theorem planRow_at0 (ts : List TaskM) (i : Nat) (hi : i < ts.length) : (planRow ts)[i * 2]? = some (.int .i64 ts[i].work) := by
  have h := rows_drop TaskM.cells_length ts i hi
  have h2 := congrArg (·[0]?) h
  simpa [planRow, TaskM.cells, List.getElem?_take, List.getElem?_drop] using h2
theorem planRow_at1 (ts : List TaskM) (i : Nat) (hi : i < ts.length) : (planRow ts)[i * 2 + 1]? = some (.slice ts[i].hA ts[i].needs.length ts[i].hc) := by
  have h := rows_drop TaskM.cells_length ts i hi
  have h2 := congrArg (·[1]?) h
  simpa [planRow, TaskM.cells, List.getElem?_take, List.getElem?_drop] using h2
theorem PlanAt.addr {w : World} {A : Option Addr} {ts : List TaskM} (h : PlanAt w A ts) (i : Nat) (hi : i < ts.length) : ∃ ad, A = some ad :=
  h.row.addr (j := i * 2) (by rw [planRow_length]; omega)
theorem PlanAt.work {w : World} {ad : Addr} {ts : List TaskM} (h : PlanAt w (some ad) ts) (i : Nat) (hi : i < ts.length) : w.cell? (ad.add (i * 2)) = some (.int .i64 ts[i].work) := h.row.at_ (planRow_at0 ts i hi)
theorem PlanAt.hdr {w : World} {ad : Addr} {ts : List TaskM} (h : PlanAt w (some ad) ts) (i : Nat) (hi : i < ts.length) : w.cell? (ad.add (i * 2 + 1)) = some (.slice ts[i].hA ts[i].needs.length ts[i].hc) := h.row.at_ (planRow_at1 ts i hi)
theorem PlanAt.need {w : World} {A : Option Addr} {ts : List TaskM} (h : PlanAt w A ts) (i : Nat) (hi : i < ts.length) : Reads w ts[i].hA (ints ts[i].needs) := h.needs _ (List.getElem_mem hi)
theorem PlanAt.below {w w' : World} {A : Option Addr} {ts : List TaskM} (h : PlanAt w A ts) (hb : Below w.heap.size w w') : PlanAt w' A ts := ⟨h.row.below hb, fun t ht => (h.needs t ht).below hb⟩
theorem PlanAt.st {w0 w : World} {L : List HP} {A : Option Addr} {ts : List TaskM} (h : PlanAt w0 A ts) (hs : St w0 noS L w) : PlanAt w A ts := h.below hs.below
theorem planRow_snoc (ts : List TaskM) (t : TaskM) : planRow (ts ++ [t]) = planRow ts ++ t.cells := by simp [planRow]
theorem planRow_set (ts : List TaskM) (i : Nat) (hi : i < ts.length) (needs : List Int) (A : Option Addr) (c : Nat) :
    (planRow ts).set (i * 2 + 1) (.slice A needs.length c) = planRow (ts.set i ⟨ts[i].work, needs, A, c⟩) := by
  induction ts generalizing i with
  | nil => simp at hi
  | cons t r ih =>
    cases i with
    | zero => simp [planRow, TaskM.cells]
    | succ i =>
      have := ih i (by simpa using hi)
      simp only [planRow] at this
      simp only [planRow, TaskM.cells, List.flatMap_cons, List.cons_append, List.nil_append, List.set_cons_succ, List.getElem_cons_succ]
      rw [show (i + 1) * 2 = (i * 2 + 1) + 1 from by omega]
      simp only [List.set_cons_succ]
      rw [← this]

noncomputable def cxInts : Cx := ⟨Tryd.prog, 36, 26, []⟩
theorem Ints_calls (A B : Option Addr) (c d : Nat) (xs ys : List Int) (w0 : World) (hx : Reads w0 A (ints xs)) (hy : Reads w0 B (ints ys)) (lx : xs.length ≤ maxLen) (ly : ys.length ≤ maxLen) :
    Calls Tryd.prog 36 #[.slice A xs.length c, .slice B ys.length d] w0 fun e w' => e = .returned (.bool (decide (xs = ys))) ∧ Below w0.heap.size w0 w' := by
  unfold maxLen at lx ly
  refine calls_of_X cxInts [.slice A xs.length c, .slice B ys.length d] Tryd.func36 (St.nil w0) ?_
  (repeat (first | with_reducible refine X.seq ?_ | with_reducible refine X.region ?_ | with_reducible refine X.block ?_ | with_reducible refine X.skip ?_ | with_reducible refine X.inBlock ?_ | refine X.exit rfl ?_))
  refine O.assign ?_
  refine XO.nil ?_
  (repeat (first | with_reducible refine X.seq ?_ | with_reducible refine X.region ?_ | with_reducible refine X.block ?_ | with_reducible refine X.skip ?_ | with_reducible refine X.inBlock ?_ | refine X.exit rfl ?_))
  refine O.move ?_
  refine O.lenSlice tl44 ?_
  refine O.move ?_
  refine O.lenSlice tl44 ?_
  refine O.neq ?_
  refine XO.nil ?_
  (repeat (first | with_reducible refine X.seq ?_ | with_reducible refine X.region ?_ | with_reducible refine X.block ?_ | with_reducible refine X.skip ?_ | with_reducible refine X.inBlock ?_ | refine X.exit rfl ?_))
  refine X.cond rfl (fun h => ?_) (fun h => ?_)
  · (repeat (first | with_reducible refine X.seq ?_ | with_reducible refine X.region ?_ | with_reducible refine X.block ?_ | with_reducible refine X.skip ?_ | with_reducible refine X.inBlock ?_ | refine X.exit rfl ?_))
    refine O.assign ?_
    refine XO.nil ?_
    (repeat (first | with_reducible refine X.seq ?_ | with_reducible refine X.region ?_ | with_reducible refine X.block ?_ | with_reducible refine X.skip ?_ | with_reducible refine X.inBlock ?_ | refine X.exit rfl ?_))
    refine X.ret1 Tryd.func36 ?_
    refine fun w' hs => ⟨?_, hs.below⟩
    have : xs ≠ ys := fun e => by subst e; simp at h
    simp [this]
  · have hl : xs.length = ys.length := by
      have := h
      simp only [Bool.not_eq_false', decide_eq_true_eq] at this
      omega
    (repeat (first | with_reducible refine X.seq ?_ | with_reducible refine X.region ?_ | with_reducible refine X.block ?_ | with_reducible refine X.skip ?_ | with_reducible refine X.inBlock ?_ | refine X.exit rfl ?_))
    refine O.assign ?_
    refine XO.nil ?_
    (repeat (first | with_reducible refine X.seq ?_ | with_reducible refine X.region ?_ | with_reducible refine X.block ?_ | with_reducible refine X.skip ?_ | with_reducible refine X.inBlock ?_ | refine X.exit rfl ?_))
    refine X.loop (γ := Nat) (fun i => i ≤ xs.length ∧ xs.take i = ys.take i)
      (fun i => [⟨0, true, .slice A xs.length c⟩, ⟨1, true, .slice B ys.length d⟩, ⟨5, true, .int .i64 i⟩]) (fun _ => St w0 noS []) (fun i => xs.length - i) 0 ⟨Nat.zero_le _, by simp⟩ (by repeat (first | exact Sub.nil | refine Sub.cons rfl (by first | rfl | simp) ?_)) (fun _ h => h) ?_
    rintro i ⟨h1, h2⟩ next
    try dsimp only at h1 h2 ⊢
    (repeat (first | with_reducible refine X.seq ?_ | with_reducible refine X.region ?_ | with_reducible refine X.block ?_ | with_reducible refine X.skip ?_ | with_reducible refine X.inBlock ?_ | refine X.exit rfl ?_))
    refine O.move ?_
    refine O.move ?_
    refine O.lenSlice tl44 ?_
    refine O.lss ?_
    refine XO.nil ?_
    (repeat (first | with_reducible refine X.seq ?_ | with_reducible refine X.region ?_ | with_reducible refine X.block ?_ | with_reducible refine X.skip ?_ | with_reducible refine X.inBlock ?_ | refine X.exit rfl ?_))
    refine X.cond rfl (fun h => ?_) (fun h => ?_)
    · have hlt : i < xs.length := by have := of_decide_eq_true h; omega
      obtain ⟨ad, rfl, ha⟩ := Reads.int_at hx i hlt
      obtain ⟨bd, rfl, hb⟩ := Reads.int_at hy i (by omega)
      have hti : ((i : Int).toNat) * 1 = i := by omega
      (repeat (first | with_reducible refine X.seq ?_ | with_reducible refine X.region ?_ | with_reducible refine X.block ?_ | with_reducible refine X.skip ?_ | with_reducible refine X.inBlock ?_ | refine X.exit rfl ?_))
      refine X.regionR mixed (by kernel_rfl) ?_
      refine O.move ?_
      refine O.move ?_
      refine O.indexAddr tl44 ?_
      simp only [hti]
      refine O.loadO tf3 ha ?_
      refine O.move ?_
      refine O.move ?_
      refine O.indexAddr tl44 ?_
      simp only [hti]
      refine O.loadO tf3 hb ?_
      refine O.neq ?_
      refine XO.nilS ?_
      refine XO.nil ?_
      (repeat (first | with_reducible refine X.seq ?_ | with_reducible refine X.region ?_ | with_reducible refine X.block ?_ | with_reducible refine X.skip ?_ | with_reducible refine X.inBlock ?_ | refine X.exit rfl ?_))
      refine X.cond rfl (fun h6 => ?_) (fun h6 => ?_)
      · (repeat (first | with_reducible refine X.seq ?_ | with_reducible refine X.region ?_ | with_reducible refine X.block ?_ | with_reducible refine X.skip ?_ | with_reducible refine X.inBlock ?_ | refine X.exit rfl ?_))
        refine O.assign ?_
        refine XO.nil ?_
        (repeat (first | with_reducible refine X.seq ?_ | with_reducible refine X.region ?_ | with_reducible refine X.block ?_ | with_reducible refine X.skip ?_ | with_reducible refine X.inBlock ?_ | refine X.exit rfl ?_))
        refine X.ret1 Tryd.func36 ?_
        refine fun w' hs => ⟨?_, hs.below⟩
        have : xs ≠ ys := fun e => by subst e; simp at h6
        simp [this]
      · have he : xs[i] = ys[i] := by simpa using h6
        (repeat (first | with_reducible refine X.seq ?_ | with_reducible refine X.region ?_ | with_reducible refine X.block ?_ | with_reducible refine X.skip ?_ | with_reducible refine X.inBlock ?_ | refine X.exit rfl ?_))
        refine O.move ?_
        refine O.add ?_
        refine O.assign ?_
        refine XO.nil ?_
        (repeat (first | with_reducible refine X.seq ?_ | with_reducible refine X.region ?_ | with_reducible refine X.block ?_ | with_reducible refine X.skip ?_ | with_reducible refine X.inBlock ?_ | refine X.exit rfl ?_))
        refine X.sub (by repeat (first | exact Sub.nil | refine Sub.cons rfl (by first | rfl | simp) ?_)) (next (i + 1) ⟨by omega, ?_⟩ (by omega))
        rw [List.take_add_one, List.take_add_one, h2, List.getElem?_eq_getElem hlt, List.getElem?_eq_getElem (by omega), he]
    · have hge : i = xs.length := by have := of_decide_eq_false h; omega
      (repeat (first | with_reducible refine X.seq ?_ | with_reducible refine X.region ?_ | with_reducible refine X.block ?_ | with_reducible refine X.skip ?_ | with_reducible refine X.inBlock ?_ | refine X.exit rfl ?_))
      refine O.assign ?_
      refine XO.nil ?_
      (repeat (first | with_reducible refine X.seq ?_ | with_reducible refine X.region ?_ | with_reducible refine X.block ?_ | with_reducible refine X.skip ?_ | with_reducible refine X.inBlock ?_ | refine X.exit rfl ?_))
      refine X.ret1 Tryd.func36 ?_
      refine fun w' hs => ⟨?_, hs.below⟩
      have : xs = ys := by
        rw [hge, List.take_length, hl, List.take_length] at h2
        exact h2
      simp [this]

noncomputable def cxPlan : Cx := ⟨Tryd.prog, 13, 44, []⟩
theorem Plan_calls (A B : Option Addr) (c d : Nat) (ts us : List TaskM) (w0 : World) (hx : PlanAt w0 A ts) (hy : PlanAt w0 B us) (lx : ts.length ≤ maxLen) (ly : us.length ≤ maxLen)
    (nx : ∀ t ∈ ts, t.needs.length ≤ maxLen) (ny : ∀ t ∈ us, t.needs.length ≤ maxLen) :
    Calls Tryd.prog 13 #[.slice A ts.length c, .slice B us.length d] w0 fun e w' => e = .returned (.bool (decide (ts.map TaskM.spec = us.map TaskM.spec))) ∧ Below w0.heap.size w0 w' := by
  have lx0 := lx
  have ly0 := ly
  unfold maxLen at lx ly
  refine calls_of_X cxPlan [.slice A ts.length c, .slice B us.length d] Tryd.func13 (St.nil w0) ?_
  (repeat (first | with_reducible refine X.seq ?_ | with_reducible refine X.region ?_ | with_reducible refine X.block ?_ | with_reducible refine X.skip ?_ | with_reducible refine X.inBlock ?_ | refine X.exit rfl ?_))
  refine O.assign ?_
  refine XO.nil ?_
  (repeat (first | with_reducible refine X.seq ?_ | with_reducible refine X.region ?_ | with_reducible refine X.block ?_ | with_reducible refine X.skip ?_ | with_reducible refine X.inBlock ?_ | refine X.exit rfl ?_))
  refine O.move ?_
  refine O.lenSlice tl33 ?_
  refine O.move ?_
  refine O.lenSlice tl33 ?_
  refine O.neq ?_
  refine XO.nil ?_
  (repeat (first | with_reducible refine X.seq ?_ | with_reducible refine X.region ?_ | with_reducible refine X.block ?_ | with_reducible refine X.skip ?_ | with_reducible refine X.inBlock ?_ | refine X.exit rfl ?_))
  refine X.cond rfl (fun h => ?_) (fun h => ?_)
  · (repeat (first | with_reducible refine X.seq ?_ | with_reducible refine X.region ?_ | with_reducible refine X.block ?_ | with_reducible refine X.skip ?_ | with_reducible refine X.inBlock ?_ | refine X.exit rfl ?_))
    refine O.assign ?_
    refine XO.nil ?_
    (repeat (first | with_reducible refine X.seq ?_ | with_reducible refine X.region ?_ | with_reducible refine X.block ?_ | with_reducible refine X.skip ?_ | with_reducible refine X.inBlock ?_ | refine X.exit rfl ?_))
    refine X.ret1 Tryd.func13 ?_
    refine fun w' hs => ⟨?_, hs.below⟩
    have : ts.map TaskM.spec ≠ us.map TaskM.spec := fun e => by have e2 := congrArg List.length e; simp only [List.length_map] at e2; simp [e2] at h
    simp [this]
  · have hl : ts.length = us.length := by
      have := h
      simp only [Bool.not_eq_false', decide_eq_true_eq] at this
      omega
    (repeat (first | with_reducible refine X.seq ?_ | with_reducible refine X.region ?_ | with_reducible refine X.block ?_ | with_reducible refine X.skip ?_ | with_reducible refine X.inBlock ?_ | refine X.exit rfl ?_))
    refine O.assign ?_
    refine XO.nil ?_
    (repeat (first | with_reducible refine X.seq ?_ | with_reducible refine X.region ?_ | with_reducible refine X.block ?_ | with_reducible refine X.skip ?_ | with_reducible refine X.inBlock ?_ | refine X.exit rfl ?_))
    refine X.loop (γ := Nat) (fun i => i ≤ ts.length ∧ (ts.map TaskM.spec).take i = (us.map TaskM.spec).take i)
      (fun i => [⟨0, true, .slice A ts.length c⟩, ⟨1, true, .slice B us.length d⟩, ⟨5, true, .int .i64 i⟩]) (fun _ => St w0 noS []) (fun i => ts.length - i) 0 ⟨Nat.zero_le _, by simp⟩ (by repeat (first | exact Sub.nil | refine Sub.cons rfl (by first | rfl | simp) ?_)) (fun _ h => h) ?_
    rintro i ⟨h1, h2⟩ next
    try dsimp only at h1 h2 ⊢
    (repeat (first | with_reducible refine X.seq ?_ | with_reducible refine X.region ?_ | with_reducible refine X.block ?_ | with_reducible refine X.skip ?_ | with_reducible refine X.inBlock ?_ | refine X.exit rfl ?_))
    refine O.move ?_
    refine O.move ?_
    refine O.lenSlice tl33 ?_
    refine O.lss ?_
    refine XO.nil ?_
    (repeat (first | with_reducible refine X.seq ?_ | with_reducible refine X.region ?_ | with_reducible refine X.block ?_ | with_reducible refine X.skip ?_ | with_reducible refine X.inBlock ?_ | refine X.exit rfl ?_))
    refine X.cond rfl (fun h => ?_) (fun h => ?_)
    · have hlt : i < ts.length := by have := of_decide_eq_true h; omega
      obtain ⟨ad, rfl⟩ := hx.addr i hlt
      obtain ⟨bd, rfl⟩ := hy.addr i (by omega)
      have hti : ((i : Int).toNat) * 2 = i * 2 := by omega
      (repeat (first | with_reducible refine X.seq ?_ | with_reducible refine X.region ?_ | with_reducible refine X.block ?_ | with_reducible refine X.skip ?_ | with_reducible refine X.inBlock ?_ | refine X.exit rfl ?_))
      refine X.regionQ mixed (by kernel_rfl) ?_
      refine O.move ?_
      refine O.move ?_
      refine O.indexAddr tl33 ?_
      simp only [hti]
      refine O.fieldA td46_1 ?_
      refine O.loadO tf44 (hx.hdr i hlt) ?_
      refine O.move ?_
      refine O.move ?_
      refine O.indexAddr tl33 ?_
      simp only [hti]
      refine O.fieldA td46_1 ?_
      refine O.loadO tf44 (hy.hdr i (by omega)) ?_
      refine O.callB (.bool (decide (ts[i].needs = us[i].needs))) te36 ?_ (hc := by intro _ w hs; exact Ints_calls _ _ _ _ _ _ w ((hx.need i hlt).st hs) ((hy.need i (by omega)).st hs) (nx _ (List.getElem_mem hlt)) (ny _ (List.getElem_mem (by omega))))
      refine O.assign ?_
      refine XO.nilQ ?_
      (repeat (first | with_reducible refine X.seq ?_ | with_reducible refine X.region ?_ | with_reducible refine X.block ?_ | with_reducible refine X.skip ?_ | with_reducible refine X.inBlock ?_ | refine X.exit rfl ?_))
      refine X.regionR mixed (by kernel_rfl) ?_
      refine O.move ?_
      refine O.not ?_
      refine O.move ?_
      refine O.move ?_
      refine O.move ?_
      refine O.indexAddr tl33 ?_
      simp only [hti]
      refine O.fieldA td46_0 ?_
      simp only [Nat.add_zero]
      refine O.loadO tf3 (hx.work i hlt) ?_
      refine O.move ?_
      refine O.move ?_
      refine O.indexAddr tl33 ?_
      simp only [hti]
      refine O.fieldA td46_0 ?_
      simp only [Nat.add_zero]
      refine O.loadO tf3 (hy.work i (by omega)) ?_
      refine O.neq ?_
      refine O.pickOr ?_
      refine XO.nilS ?_
      refine XO.nil ?_
      (repeat (first | with_reducible refine X.seq ?_ | with_reducible refine X.region ?_ | with_reducible refine X.block ?_ | with_reducible refine X.skip ?_ | with_reducible refine X.inBlock ?_ | refine X.exit rfl ?_))
      refine X.cond rfl (fun h6 => ?_) (fun h6 => ?_)
      · (repeat (first | with_reducible refine X.seq ?_ | with_reducible refine X.region ?_ | with_reducible refine X.block ?_ | with_reducible refine X.skip ?_ | with_reducible refine X.inBlock ?_ | refine X.exit rfl ?_))
        refine O.assign ?_
        refine XO.nil ?_
        (repeat (first | with_reducible refine X.seq ?_ | with_reducible refine X.region ?_ | with_reducible refine X.block ?_ | with_reducible refine X.skip ?_ | with_reducible refine X.inBlock ?_ | refine X.exit rfl ?_))
        refine X.ret1 Tryd.func13 ?_
        refine fun w' hs => ⟨?_, hs.below⟩
        have : ts.map TaskM.spec ≠ us.map TaskM.spec := fun e => by
          have e1 : (ts.map TaskM.spec)[i]? = (us.map TaskM.spec)[i]? := by rw [e]
          have hlu : i < us.length := by omega
          simp only [List.getElem?_map, List.getElem?_eq_getElem hlt, List.getElem?_eq_getElem hlu, Option.map_some, Option.some.injEq, TaskM.spec, Prod.mk.injEq] at e1
          simp [e1.1, e1.2] at h6
        simp [this]
      · have he : ts[i].spec = us[i].spec := by
          simp only [Bool.or_eq_false_iff, Bool.not_eq_false', decide_eq_true_eq] at h6
          simp [TaskM.spec, h6.1, h6.2]
        (repeat (first | with_reducible refine X.seq ?_ | with_reducible refine X.region ?_ | with_reducible refine X.block ?_ | with_reducible refine X.skip ?_ | with_reducible refine X.inBlock ?_ | refine X.exit rfl ?_))
        refine O.move ?_
        refine O.add ?_
        refine O.assign ?_
        refine XO.nil ?_
        (repeat (first | with_reducible refine X.seq ?_ | with_reducible refine X.region ?_ | with_reducible refine X.block ?_ | with_reducible refine X.skip ?_ | with_reducible refine X.inBlock ?_ | refine X.exit rfl ?_))
        refine X.sub (by repeat (first | exact Sub.nil | refine Sub.cons rfl (by first | rfl | simp) ?_)) (next (i + 1) ⟨by omega, ?_⟩ (by omega))
        rw [List.take_add_one, List.take_add_one, h2]
        simp [List.getElem?_eq_getElem hlt, List.getElem?_eq_getElem (show i < us.length by omega), he]
    · have hge : i = ts.length := by have := of_decide_eq_false h; omega
      (repeat (first | with_reducible refine X.seq ?_ | with_reducible refine X.region ?_ | with_reducible refine X.block ?_ | with_reducible refine X.skip ?_ | with_reducible refine X.inBlock ?_ | refine X.exit rfl ?_))
      refine O.assign ?_
      refine XO.nil ?_
      (repeat (first | with_reducible refine X.seq ?_ | with_reducible refine X.region ?_ | with_reducible refine X.block ?_ | with_reducible refine X.skip ?_ | with_reducible refine X.inBlock ?_ | refine X.exit rfl ?_))
      refine X.ret1 Tryd.func13 ?_
      refine fun w' hs => ⟨?_, hs.below⟩
      have : ts.map TaskM.spec = us.map TaskM.spec := by
        have e1 : (ts.map TaskM.spec).take i = ts.map TaskM.spec := List.take_of_length_le (by simp; omega)
        have e2 : (us.map TaskM.spec).take i = us.map TaskM.spec := List.take_of_length_le (by simp; omega)
        rw [e1, e2] at h2
        exact h2
      simp [this]
end Go.Proofs.YtgegppbjpaeljaaDoor.Pl
