/- trace: what is wrong with deeds. -/
import Derived.Test.YtgegppbjpaeljaaDoorTy
import Derived.Test.YtgegppbjpaeljaaDoorF
import Derived.Test.YtgegppbjpaeljaaDoorBd
import Derived.Test.YtgegppbjpaeljaaDoorShelf
set_option linter.unusedVariables false
set_option linter.unusedSimpArgs false
set_option maxRecDepth 10000
namespace Go.Proofs.YtgegppbjpaeljaaDoor.Tr
open Go Go.X Go.RowKit Go.Proofs.YtgegppbjpaeljaaDoor.Ty Go.Proofs.YtgegppbjpaeljaaDoor.Bd

structure Deed where
  what : Int
  hand : Int
  task : Int
  other : Int
deriving Inhabited
def Deed.zero : Deed := ⟨0, 0, 0, 0⟩
def Deed.cells (x : Deed) : List Value := [.int .i64 x.what, .int .i64 x.hand, .int .i64 x.task, .int .i64 x.other]
def deeds (l : List Deed) : List Value := l.flatMap Deed.cells
theorem Deed.cells_length (x : Deed) : x.cells.length = 4 := rfl
theorem deed_at {w : World} {A : Option Addr} {l : List Deed} (h : Reads w A (deeds l)) (i : Nat) (hi : i < l.length) : ∃ ad, A = some ad ∧ CellsAt w (ad.add (i * 4)) 0 (l[i]).cells := by
  obtain ⟨ad, rfl⟩ := h.addr (j := i * 4) (by rw [deeds, rows_length Deed.cells_length]; omega)
  exact ⟨ad, rfl, h.cells (i * 4) 4 (rows_drop Deed.cells_length l i hi)⟩
theorem CellsAt.old {w0 w : World} {L : List HP} (h : St w0 noS L w) {p : Addr} : ∀ {vs : List Value} {i : Nat}, CellsAt w0 p i vs → CellsAt w p i vs
  | [], _, _ => trivial
  | _ :: _, _, ⟨h1, h2⟩ => ⟨h.old0 h1, CellsAt.old h h2⟩

def aloneB (n : Int) : Bool := decide (n = 5) || decide (n = 6)
def errW : Option Int → Value
  | none => .nilIface
  | some c => .iface 78 (.int .i64 c)

noncomputable def cxAlone : Cx := ⟨Tryd.prog, 52, 9, []⟩
theorem alone_calls (n : Int) (w : World) : Calls Tryd.prog 52 #[.int .i64 n] w fun e w' => e = .returned (.bool (aloneB n)) ∧ Below w.heap.size w w' := by
  refine calls_of_X cxAlone [.int .i64 n] Tryd.func52 (St.nil w) ?_
  (repeat (first | with_reducible refine X.seq ?_ | with_reducible refine X.region ?_ | with_reducible refine X.block ?_ | with_reducible refine X.skip ?_ | with_reducible refine X.inBlock ?_ | refine X.exit rfl ?_))
  refine O.assign ?_
  refine XO.nil ?_
  (repeat (first | with_reducible refine X.seq ?_ | with_reducible refine X.region ?_ | with_reducible refine X.block ?_ | with_reducible refine X.skip ?_ | with_reducible refine X.inBlock ?_ | refine X.exit rfl ?_))
  refine O.move ?_
  refine O.eql ?_
  refine O.move ?_
  refine O.move ?_
  refine O.eql ?_
  refine O.pickOr ?_
  refine O.assign ?_
  refine XO.nil ?_
  (repeat (first | with_reducible refine X.seq ?_ | with_reducible refine X.region ?_ | with_reducible refine X.block ?_ | with_reducible refine X.skip ?_ | with_reducible refine X.inBlock ?_ | refine X.exit rfl ?_))
  exact X.ret1 Tryd.func52 (fun w' hs => ⟨rfl, hs.below⟩)

def rangeB (d : Deed) : Bool := decide (d.what < 1) || decide (d.what > 6) || decide (d.hand < 0) || decide (d.hand ≥ 6) || decide (d.task < 0) || decide (d.task ≥ 30) || (decide (d.what = 2) && (decide (d.other < 0) || decide (d.other ≥ 6)))
def shapeB (d : Deed) : Bool := (!decide (d.what = 2) && !decide (d.other = 0)) || (aloneB d.what && !decide (d.task = 0))
def faultD (d : Deed) : Option Int := if rangeB d then some 1 else if shapeB d then some 3 else none
def faultL : List Deed → Option Int
  | [] => none
  | d :: r => match faultD d with | some e => some e | none => faultL r
def wholeF (l : List Deed) : Option Int := if 1000 < l.length then some 4 else faultL l
theorem faultL_drop (l : List Deed) (k : Nat) (h : k < l.length) : faultL (l.drop k) = match faultD l[k] with | some e => some e | none => faultL (l.drop (k + 1)) := by
  rw [List.drop_eq_getElem_cons h]; rfl

noncomputable def cxWhole : Cx := ⟨Tryd.prog, 28, 82, []⟩
theorem whole_calls (A0 : Option Addr) (c0 : Nat) (l : List Deed) (w0 : World) (hr0 : Reads w0 A0 (deeds l)) :
    Calls Tryd.prog 28 #[.slice A0 l.length c0] w0 fun e w' => e = .returned (errW (wholeF l)) ∧ Below w0.heap.size w0 w' := by
  refine calls_of_X cxWhole [.slice A0 l.length c0] Tryd.func28 (St.nil w0) ?_
  (repeat (first | with_reducible refine X.seq ?_ | with_reducible refine X.region ?_ | with_reducible refine X.block ?_ | with_reducible refine X.skip ?_ | with_reducible refine X.inBlock ?_ | refine X.exit rfl ?_))
  refine O.assign ?_
  refine XO.nil ?_
  (repeat (first | with_reducible refine X.seq ?_ | with_reducible refine X.region ?_ | with_reducible refine X.block ?_ | with_reducible refine X.skip ?_ | with_reducible refine X.inBlock ?_ | refine X.exit rfl ?_))
  refine O.move ?_
  refine O.lenSlice tl22 ?_
  refine O.gtr ?_
  refine XO.nil ?_
  (repeat (first | with_reducible refine X.seq ?_ | with_reducible refine X.region ?_ | with_reducible refine X.block ?_ | with_reducible refine X.skip ?_ | with_reducible refine X.inBlock ?_ | refine X.exit rfl ?_))
  refine X.cond rfl (fun h => ?_) (fun h => ?_)
  · have h1 : 1000 < l.length := by have := of_decide_eq_true h; omega
    (repeat (first | with_reducible refine X.seq ?_ | with_reducible refine X.region ?_ | with_reducible refine X.block ?_ | with_reducible refine X.skip ?_ | with_reducible refine X.inBlock ?_ | refine X.exit rfl ?_))
    refine O.makeInterface ?_
    refine O.assign ?_
    refine XO.nil ?_
    (repeat (first | with_reducible refine X.seq ?_ | with_reducible refine X.region ?_ | with_reducible refine X.block ?_ | with_reducible refine X.skip ?_ | with_reducible refine X.inBlock ?_ | refine X.exit rfl ?_))
    refine X.ret1 Tryd.func28 ?_
    exact fun w' hs => ⟨by simp [wholeF, h1, errW], hs.below⟩
  · have h1 : ¬ 1000 < l.length := by have := of_decide_eq_false h; omega
    rw [show wholeF l = faultL l from by simp [wholeF, h1]]
    (repeat (first | with_reducible refine X.seq ?_ | with_reducible refine X.region ?_ | with_reducible refine X.block ?_ | with_reducible refine X.skip ?_ | with_reducible refine X.inBlock ?_ | refine X.exit rfl ?_))
    refine O.move ?_
    refine O.lenSlice tl22 ?_
    refine O.move ?_
    refine XO.nil ?_
    (repeat (first | with_reducible refine X.seq ?_ | with_reducible refine X.region ?_ | with_reducible refine X.block ?_ | with_reducible refine X.skip ?_ | with_reducible refine X.inBlock ?_ | refine X.exit rfl ?_))
    refine X.loop (γ := Nat) (fun k => k ≤ l.length ∧ faultL l = faultL (l.drop k)) (fun k => [⟨10, true, .slice A0 l.length c0⟩, ⟨11, true, .int .i64 l.length⟩, ⟨12, true, .int .i64 k⟩]) (fun _ => St w0 noS []) (fun k => l.length - k) 0 ⟨Nat.zero_le _, rfl⟩ (by repeat (first | exact Sub.nil | refine Sub.cons rfl (by first | rfl | simp) ?_)) (fun _ h => h) ?_
    rintro k ⟨hk, hF⟩ next
    (repeat (first | with_reducible refine X.seq ?_ | with_reducible refine X.region ?_ | with_reducible refine X.block ?_ | with_reducible refine X.skip ?_ | with_reducible refine X.inBlock ?_ | refine X.exit rfl ?_))
    refine O.lss ?_
    refine XO.nil ?_
    (repeat (first | with_reducible refine X.seq ?_ | with_reducible refine X.region ?_ | with_reducible refine X.block ?_ | with_reducible refine X.skip ?_ | with_reducible refine X.inBlock ?_ | refine X.exit rfl ?_))
    refine X.cond rfl (fun h => ?_) (fun h => ?_)
    · have hlt : k < l.length := by have := of_decide_eq_true h; omega
      obtain ⟨ad, rfl, hc⟩ := deed_at hr0 k hlt
      rw [faultL_drop l k hlt] at hF
      generalize l[k] = d at hc hF
      (repeat (first | with_reducible refine X.seq ?_ | with_reducible refine X.region ?_ | with_reducible refine X.block ?_ | with_reducible refine X.skip ?_ | with_reducible refine X.inBlock ?_ | refine X.exit rfl ?_))
      refine O.indexAddr tl22 ?_
      refine O.loadAgg [.int .i64 d.what, .int .i64 d.hand, .int .i64 d.task, .int .i64 d.other] ta28 (fun _ w hs => CellsAt.old hs hc) ?_
      refine O.alloc tz28 (fun b4 hb4 => ?_)
      refine O.store _ ts28 ?_
      refine XO.nil ?_
      (repeat (first | with_reducible refine X.seq ?_ | with_reducible refine X.region ?_ | with_reducible refine X.block ?_ | with_reducible refine X.skip ?_ | with_reducible refine X.inBlock ?_ | refine X.exit rfl ?_))
      (first | refine O.fieldB0 td28_0 ?_ | refine O.fieldA td28_0 ?_ | refine O.fieldB td28_0 ?_)
      (first | refine O.loadB tf3 ?_ | refine O.loadO tf3 (by first | assumption | (simp only [Nat.add_zero, Nat.zero_add]; assumption)) ?_)
      refine O.eql ?_
      refine O.assign ?_
      refine XO.nil ?_
      (repeat (first | with_reducible refine X.seq ?_ | with_reducible refine X.region ?_ | with_reducible refine X.block ?_ | with_reducible refine X.skip ?_ | with_reducible refine X.inBlock ?_ | refine X.exit rfl ?_))
      (first | refine O.fieldB0 td28_0 ?_ | refine O.fieldA td28_0 ?_ | refine O.fieldB td28_0 ?_)
      (first | refine O.loadB tf3 ?_ | refine O.loadO tf3 (by first | assumption | (simp only [Nat.add_zero, Nat.zero_add]; assumption)) ?_)
      refine O.lss ?_
      refine O.move ?_
      (first | refine O.fieldB0 td28_0 ?_ | refine O.fieldA td28_0 ?_ | refine O.fieldB td28_0 ?_)
      (first | refine O.loadB tf3 ?_ | refine O.loadO tf3 (by first | assumption | (simp only [Nat.add_zero, Nat.zero_add]; assumption)) ?_)
      refine O.gtr ?_
      refine O.pickOr ?_
      refine O.move ?_
      (first | refine O.fieldB0 td28_1 ?_ | refine O.fieldA td28_1 ?_ | refine O.fieldB td28_1 ?_)
      (first | refine O.loadB tf3 ?_ | refine O.loadO tf3 (by first | assumption | (simp only [Nat.add_zero, Nat.zero_add]; assumption)) ?_)
      refine O.lss ?_
      refine O.pickOr ?_
      refine O.move ?_
      (first | refine O.fieldB0 td28_1 ?_ | refine O.fieldA td28_1 ?_ | refine O.fieldB td28_1 ?_)
      (first | refine O.loadB tf3 ?_ | refine O.loadO tf3 (by first | assumption | (simp only [Nat.add_zero, Nat.zero_add]; assumption)) ?_)
      refine O.geq ?_
      refine O.pickOr ?_
      refine O.move ?_
      (first | refine O.fieldB0 td28_2 ?_ | refine O.fieldA td28_2 ?_ | refine O.fieldB td28_2 ?_)
      (first | refine O.loadB tf3 ?_ | refine O.loadO tf3 (by first | assumption | (simp only [Nat.add_zero, Nat.zero_add]; assumption)) ?_)
      refine O.lss ?_
      refine O.pickOr ?_
      refine O.move ?_
      (first | refine O.fieldB0 td28_2 ?_ | refine O.fieldA td28_2 ?_ | refine O.fieldB td28_2 ?_)
      (first | refine O.loadB tf3 ?_ | refine O.loadO tf3 (by first | assumption | (simp only [Nat.add_zero, Nat.zero_add]; assumption)) ?_)
      refine O.geq ?_
      refine O.pickOr ?_
      refine O.move ?_
      refine O.move ?_
      refine O.move ?_
      (first | refine O.fieldB0 td28_3 ?_ | refine O.fieldA td28_3 ?_ | refine O.fieldB td28_3 ?_)
      (first | refine O.loadB tf3 ?_ | refine O.loadO tf3 (by first | assumption | (simp only [Nat.add_zero, Nat.zero_add]; assumption)) ?_)
      refine O.lss ?_
      refine O.move ?_
      (first | refine O.fieldB0 td28_3 ?_ | refine O.fieldA td28_3 ?_ | refine O.fieldB td28_3 ?_)
      (first | refine O.loadB tf3 ?_ | refine O.loadO tf3 (by first | assumption | (simp only [Nat.add_zero, Nat.zero_add]; assumption)) ?_)
      refine O.geq ?_
      refine O.pickOr ?_
      refine O.pickAnd ?_
      refine O.pickOr ?_
      refine O.assign ?_
      refine XO.nil ?_
      (repeat (first | with_reducible refine X.seq ?_ | with_reducible refine X.region ?_ | with_reducible refine X.block ?_ | with_reducible refine X.skip ?_ | with_reducible refine X.inBlock ?_ | refine X.exit rfl ?_))
      refine X.cond rfl (fun h => ?_) (fun h => ?_)
      · have h' : rangeB d = true := h
        (repeat (first | with_reducible refine X.seq ?_ | with_reducible refine X.region ?_ | with_reducible refine X.block ?_ | with_reducible refine X.skip ?_ | with_reducible refine X.inBlock ?_ | refine X.exit rfl ?_))
        refine O.makeInterface ?_
        refine O.assign ?_
        refine XO.nil ?_
        (repeat (first | with_reducible refine X.seq ?_ | with_reducible refine X.region ?_ | with_reducible refine X.block ?_ | with_reducible refine X.skip ?_ | with_reducible refine X.inBlock ?_ | refine X.exit rfl ?_))
        refine X.ret1 Tryd.func28 ?_
        exact fun w' hs => ⟨by rw [hF, faultD, h']; rfl, hs.below⟩
      · have h' : rangeB d = false := h
        (repeat (first | with_reducible refine X.seq ?_ | with_reducible refine X.region ?_ | with_reducible refine X.block ?_ | with_reducible refine X.skip ?_ | with_reducible refine X.inBlock ?_ | refine X.exit rfl ?_))
        refine O.move ?_
        refine O.not ?_
        refine O.move ?_
        (first | refine O.fieldB0 td28_3 ?_ | refine O.fieldA td28_3 ?_ | refine O.fieldB td28_3 ?_)
        (first | refine O.loadB tf3 ?_ | refine O.loadO tf3 (by first | assumption | (simp only [Nat.add_zero, Nat.zero_add]; assumption)) ?_)
        refine O.neq ?_
        refine O.pickAnd ?_
        refine O.move ?_
        (first | refine O.fieldB0 td28_0 ?_ | refine O.fieldA td28_0 ?_ | refine O.fieldB td28_0 ?_)
        (first | refine O.loadB tf3 ?_ | refine O.loadO tf3 (by first | assumption | (simp only [Nat.add_zero, Nat.zero_add]; assumption)) ?_)
        refine O.callB (.bool (aloneB d.what)) te52 ?_ (hc := by intro _ w hs; exact alone_calls d.what w)
        refine O.move ?_
        (first | refine O.fieldB0 td28_2 ?_ | refine O.fieldA td28_2 ?_ | refine O.fieldB td28_2 ?_)
        (first | refine O.loadB tf3 ?_ | refine O.loadO tf3 (by first | assumption | (simp only [Nat.add_zero, Nat.zero_add]; assumption)) ?_)
        refine O.neq ?_
        refine O.pickAnd ?_
        refine O.pickOr ?_
        refine O.assign ?_
        refine XO.nil ?_
        (repeat (first | with_reducible refine X.seq ?_ | with_reducible refine X.region ?_ | with_reducible refine X.block ?_ | with_reducible refine X.skip ?_ | with_reducible refine X.inBlock ?_ | refine X.exit rfl ?_))
        refine X.cond rfl (fun h => ?_) (fun h => ?_)
        · have h'' : shapeB d = true := h
          (repeat (first | with_reducible refine X.seq ?_ | with_reducible refine X.region ?_ | with_reducible refine X.block ?_ | with_reducible refine X.skip ?_ | with_reducible refine X.inBlock ?_ | refine X.exit rfl ?_))
          refine O.makeInterface ?_
          refine O.assign ?_
          refine XO.nil ?_
          (repeat (first | with_reducible refine X.seq ?_ | with_reducible refine X.region ?_ | with_reducible refine X.block ?_ | with_reducible refine X.skip ?_ | with_reducible refine X.inBlock ?_ | refine X.exit rfl ?_))
          refine X.ret1 Tryd.func28 ?_
          exact fun w' hs => ⟨by rw [hF, faultD, h', h'']; rfl, hs.below⟩
        · have h'' : shapeB d = false := h
          have hd : faultD d = none := by rw [faultD, h', h'']; rfl
          rw [hd] at hF
          (repeat (first | with_reducible refine X.seq ?_ | with_reducible refine X.region ?_ | with_reducible refine X.block ?_ | with_reducible refine X.skip ?_ | with_reducible refine X.inBlock ?_ | refine X.exit rfl ?_))
          refine O.add ?_
          refine O.move ?_
          refine XO.nil ?_
          (repeat (first | with_reducible refine X.seq ?_ | with_reducible refine X.region ?_ | with_reducible refine X.block ?_ | with_reducible refine X.skip ?_ | with_reducible refine X.inBlock ?_ | refine X.exit rfl ?_))
          exact X.st (fun w hs => hs.drop1) (X.sub (by repeat (first | exact Sub.nil | refine Sub.cons rfl (by first | rfl | simp) ?_)) (next (k + 1) ⟨hlt, hF⟩ (by omega)))
    · have hge : k = l.length := by have := of_decide_eq_false h; omega
      subst hge
      (repeat (first | with_reducible refine X.seq ?_ | with_reducible refine X.region ?_ | with_reducible refine X.block ?_ | with_reducible refine X.skip ?_ | with_reducible refine X.inBlock ?_ | refine X.exit rfl ?_))
      refine O.assign ?_
      refine XO.nil ?_
      (repeat (first | with_reducible refine X.seq ?_ | with_reducible refine X.region ?_ | with_reducible refine X.block ?_ | with_reducible refine X.skip ?_ | with_reducible refine X.inBlock ?_ | refine X.exit rfl ?_))
      refine X.ret1 Tryd.func28 ?_
      have hN : faultL l = none := by rw [hF, List.drop_length]; rfl
      exact fun w' hs => ⟨by rw [hN]; rfl, hs.below⟩

/-! ### the fields of a deed that stand in its line -/
def fieldsN (what : Int) : List Nat := if aloneB what then [1] else if what = 2 then [1, 2, 3] else [1, 2]
noncomputable def cxFields : Cx := ⟨Tryd.prog, 30, 36, []⟩
set_option maxRecDepth 4000 in
theorem fields_calls (b : Nat) (what : Int) (w0 : World) (hc : w0.cell? ⟨b, 0, none⟩ = some (.int .i64 what)) :
    Calls Tryd.prog 30 #[.pointer (some ⟨b, 0, none⟩)] w0 fun e w' => ∃ g : Nat, True ∧ e = .returned (.slice (some ⟨g, 0, none⟩) (fieldsN what).length (fieldsN what).length) ∧
      St w0 noS [HP.blk g (.cells ((fieldsN what).map fun j => Value.pointer (some ⟨b, j, none⟩)).toArray 75 (0, 0))] w' := by
  refine calls_of_X cxFields [.pointer (some ⟨b, 0, none⟩)] Tryd.func30 (St.nil w0) ?_
  (repeat (first | with_reducible refine X.seq ?_ | with_reducible refine X.region ?_ | with_reducible refine X.block ?_ | with_reducible refine X.skip ?_ | with_reducible refine X.inBlock ?_ | refine X.exit rfl ?_))
  refine O.assign ?_
  refine XO.nil ?_
  (repeat (first | with_reducible refine X.seq ?_ | with_reducible refine X.region ?_ | with_reducible refine X.block ?_ | with_reducible refine X.skip ?_ | with_reducible refine X.inBlock ?_ | refine X.exit rfl ?_))
  refine O.move ?_
  refine O.nilCheck ?_
  (first | refine O.fieldB0 td28_0 ?_ | refine O.fieldA td28_0 ?_ | refine O.fieldB td28_0 ?_)
  (first | refine O.loadB tf3 ?_ | refine O.loadO tf3 (by first | assumption | (simp only [Nat.add_zero, Nat.zero_add]; assumption)) ?_)
  refine O.callB (.bool (aloneB what)) te52 ?_ (hc := by intro _ w hs; exact alone_calls what w)
  refine O.assign ?_
  refine XO.nil ?_
  (repeat (first | with_reducible refine X.seq ?_ | with_reducible refine X.region ?_ | with_reducible refine X.block ?_ | with_reducible refine X.skip ?_ | with_reducible refine X.inBlock ?_ | refine X.exit rfl ?_))
  refine X.cond rfl (fun h => ?_) (fun h => ?_)
  · have hn : fieldsN what = [1] := by simp [fieldsN, h]
    rw [hn]
    (repeat (first | with_reducible refine X.seq ?_ | with_reducible refine X.region ?_ | with_reducible refine X.block ?_ | with_reducible refine X.skip ?_ | with_reducible refine X.inBlock ?_ | refine X.exit rfl ?_))
    refine O.move ?_
    refine O.nilCheck ?_
    (first | refine O.fieldB0 td28_1 ?_ | refine O.fieldA td28_1 ?_ | refine O.fieldB td28_1 ?_)
    refine O.buildSlice 75 #[.pointer (some ⟨b, 1, none⟩)] (fun g hg => ?_)
    refine O.assign ?_
    refine XO.nil ?_
    (repeat (first | with_reducible refine X.seq ?_ | with_reducible refine X.region ?_ | with_reducible refine X.block ?_ | with_reducible refine X.skip ?_ | with_reducible refine X.inBlock ?_ | refine X.exit rfl ?_))
    refine X.ret1 Tryd.func30 ?_
    exact fun w' hs => ⟨g, trivial, rfl, hs⟩
  · (repeat (first | with_reducible refine X.seq ?_ | with_reducible refine X.region ?_ | with_reducible refine X.block ?_ | with_reducible refine X.skip ?_ | with_reducible refine X.inBlock ?_ | refine X.exit rfl ?_))
    refine O.move ?_
    refine O.nilCheck ?_
    (first | refine O.fieldB0 td28_0 ?_ | refine O.fieldA td28_0 ?_ | refine O.fieldB td28_0 ?_)
    (first | refine O.loadB tf3 ?_ | refine O.loadO tf3 (by first | assumption | (simp only [Nat.add_zero, Nat.zero_add]; assumption)) ?_)
    refine O.eql ?_
    refine O.assign ?_
    refine XO.nil ?_
    (repeat (first | with_reducible refine X.seq ?_ | with_reducible refine X.region ?_ | with_reducible refine X.block ?_ | with_reducible refine X.skip ?_ | with_reducible refine X.inBlock ?_ | refine X.exit rfl ?_))
    refine X.cond rfl (fun h2 => ?_) (fun h2 => ?_)
    · obtain rfl : what = 2 := of_decide_eq_true h2
      (repeat (first | with_reducible refine X.seq ?_ | with_reducible refine X.region ?_ | with_reducible refine X.block ?_ | with_reducible refine X.skip ?_ | with_reducible refine X.inBlock ?_ | refine X.exit rfl ?_))
      refine X.regionS 9 mixed (by kernel_rfl) ?_
      simp only [List.take_succ_cons, List.take_zero, List.drop_succ_cons, List.drop_zero]
      refine O.move ?_
      refine O.nilCheck ?_
      (first | refine O.fieldB0 td28_1 ?_ | refine O.fieldA td28_1 ?_ | refine O.fieldB td28_1 ?_)
      refine O.move ?_
      refine O.nilCheck ?_
      (first | refine O.fieldB0 td28_2 ?_ | refine O.fieldA td28_2 ?_ | refine O.fieldB td28_2 ?_)
      refine O.move ?_
      refine O.nilCheck ?_
      (first | refine O.fieldB0 td28_3 ?_ | refine O.fieldA td28_3 ?_ | refine O.fieldB td28_3 ?_)
      refine XO.nilS ?_
      refine O.buildSlice 75 #[.pointer (some ⟨b, 1, none⟩), .pointer (some ⟨b, 2, none⟩), .pointer (some ⟨b, 3, none⟩)] (fun g hg => ?_)
      refine O.assign ?_
      refine XO.nil ?_
      (repeat (first | with_reducible refine X.seq ?_ | with_reducible refine X.region ?_ | with_reducible refine X.block ?_ | with_reducible refine X.skip ?_ | with_reducible refine X.inBlock ?_ | refine X.exit rfl ?_))
      refine X.ret1 Tryd.func30 ?_
      exact fun w' hs => ⟨g, trivial, rfl, hs⟩
    · have hn : fieldsN what = [1, 2] := by simp [fieldsN, h, of_decide_eq_false h2]
      rw [hn]
      (repeat (first | with_reducible refine X.seq ?_ | with_reducible refine X.region ?_ | with_reducible refine X.block ?_ | with_reducible refine X.skip ?_ | with_reducible refine X.inBlock ?_ | refine X.exit rfl ?_))
      refine X.regionS 6 mixed (by kernel_rfl) ?_
      simp only [List.take_succ_cons, List.take_zero, List.drop_succ_cons, List.drop_zero]
      refine O.move ?_
      refine O.nilCheck ?_
      (first | refine O.fieldB0 td28_1 ?_ | refine O.fieldA td28_1 ?_ | refine O.fieldB td28_1 ?_)
      refine O.move ?_
      refine O.nilCheck ?_
      (first | refine O.fieldB0 td28_2 ?_ | refine O.fieldA td28_2 ?_ | refine O.fieldB td28_2 ?_)
      refine XO.nilS ?_
      refine O.buildSlice 75 #[.pointer (some ⟨b, 1, none⟩), .pointer (some ⟨b, 2, none⟩)] (fun g hg => ?_)
      refine O.assign ?_
      refine XO.nil ?_
      (repeat (first | with_reducible refine X.seq ?_ | with_reducible refine X.region ?_ | with_reducible refine X.block ?_ | with_reducible refine X.skip ?_ | with_reducible refine X.inBlock ?_ | refine X.exit rfl ?_))
      refine X.ret1 Tryd.func30 ?_
      exact fun w' hs => ⟨g, trivial, rfl, hs⟩

/-! ### Print -/
def wordL : Nat → List UInt8
  | 1 => [116, 111, 111, 107]
  | 2 => [115, 116, 111, 108, 101]
  | 3 => [102, 101, 116, 99, 104, 101, 100]
  | 4 => [102, 105, 110, 105, 115, 104, 101, 100]
  | 5 => [115, 108, 101, 112, 116]
  | 6 => [119, 111, 107, 101]
  | _ => []
def fld (d : Deed) : Nat → Int
  | 1 => d.hand
  | 2 => d.task
  | _ => d.other
def fieldText (d : Deed) (j : Nat) : List UInt8 := 32 :: Lib.decDigits (fld d j).toNat
def deedText (d : Deed) : List UInt8 := wordL d.what.toNat ++ (fieldsN d.what).flatMap (fieldText d) ++ [10]
def textL (l : List Deed) : List UInt8 := l.flatMap deedText
def WordsAt (w : World) : Prop := ∀ i, i < 7 → w.cell? ⟨0, i, none⟩ = some (.string ⟨(wordL i).toArray⟩)
def valid (d : Deed) : Prop := 1 ≤ d.what ∧ d.what ≤ 6 ∧ 0 ≤ d.hand ∧ d.hand < 6 ∧ 0 ≤ d.task ∧ d.task < 30 ∧ (d.what = 2 → 0 ≤ d.other ∧ d.other < 6)
theorem valid_of {d : Deed} (h : faultD d = none) : valid d := by
  have hr : rangeB d = false := by
    cases h1 : rangeB d with
    | false => rfl
    | true => rw [faultD, h1] at h; cases h
  simp only [rangeB, Bool.or_eq_false_iff, Bool.and_eq_false_iff, decide_eq_false_iff_not] at hr
  obtain ⟨⟨⟨⟨⟨⟨h1, h2⟩, h3⟩, h4⟩, h5⟩, h6⟩, h7⟩ := hr
  refine ⟨by omega, by omega, by omega, by omega, by omega, by omega, fun h8 => ?_⟩
  rcases h7 with h7 | ⟨h7, h9⟩
  · exact absurd h8 h7
  · omega
theorem faultL_none : ∀ {l : List Deed}, faultL l = none → ∀ d ∈ l, faultD d = none
  | [], _, _, h => by cases h
  | x :: r, h, d, hd => by
    have h1 : faultD x = none ∧ faultL r = none := by
      unfold faultL at h
      cases hx : faultD x with
      | none => rw [hx] at h; exact ⟨rfl, h⟩
      | some e => rw [hx] at h; cases h
    cases hd with
    | head => exact h1.1
    | tail _ hd => exact faultL_none h1.2 d hd
theorem dec_len (m : Nat) (h : m < 100) : (Lib.decDigits m).length ≤ 2 := by
  have : ∀ m : Fin 100, (Lib.decDigits m.1).length ≤ 2 := by decide +kernel
  exact this ⟨m, h⟩
theorem fieldsN_mem {d : Deed} (h : valid d) {j : Nat} (hj : j ∈ fieldsN d.what) : 1 ≤ j ∧ j ≤ 3 ∧ 0 ≤ fld d j ∧ fld d j < 100 := by
  obtain ⟨h1, h2, h3, h4, h5, h6, h7⟩ := h
  unfold fieldsN at hj
  split at hj
  · simp at hj; subst hj; simp [fld]; omega
  · split at hj
    · rename_i hw
      have := h7 hw
      simp at hj
      rcases hj with rfl | rfl | rfl <;> simp [fld] <;> omega
    · simp at hj
      rcases hj with rfl | rfl <;> simp [fld] <;> omega
theorem fieldsN_len (n : Int) : (fieldsN n).length ≤ 3 := by
  unfold fieldsN
  repeat' split
  all_goals simp
theorem wordL_len (i : Nat) : (wordL i).length ≤ 8 := by unfold wordL; split <;> simp
theorem fields_len {d : Deed} (h : valid d) (k : Nat) : (((fieldsN d.what).take k).flatMap (fieldText d)).length ≤ 3 * 3 := by
  have : ∀ l : List Nat, (∀ j ∈ l, j ∈ fieldsN d.what) → (l.flatMap (fieldText d)).length ≤ 3 * l.length := by
    intro l
    induction l with
    | nil => intro _; simp
    | cons j r ih =>
      intro hl
      have h1 := ih (fun x hx => hl x (List.mem_cons_of_mem _ hx))
      have h2 := fieldsN_mem h (hl j List.mem_cons_self)
      have h3 := dec_len (fld d j).toNat (by omega)
      simp only [List.flatMap_cons, List.length_append, List.length_cons, fieldText]
      omega
  have h1 := this ((fieldsN d.what).take k) (fun j hj => List.mem_of_mem_take hj)
  have h2 := fieldsN_len d.what
  have h3 : ((fieldsN d.what).take k).length ≤ (fieldsN d.what).length := List.length_take_le' _ _
  omega
theorem deedText_len {d : Deed} (h : valid d) : (deedText d).length ≤ 18 := by
  have h1 := fields_len h (fieldsN d.what).length
  rw [List.take_length] at h1
  have h2 := wordL_len d.what.toNat
  simp only [deedText, List.length_append, List.length_cons, List.length_nil]
  omega
theorem textL_len : ∀ {l : List Deed}, (∀ d ∈ l, faultD d = none) → (textL l).length ≤ 18 * l.length
  | [], _ => by simp [textL]
  | d :: r, h => by
    have h1 := textL_len (l := r) (fun x hx => h x (List.mem_cons_of_mem _ hx))
    have h2 := deedText_len (valid_of (h d List.mem_cons_self))
    simp only [textL, List.flatMap_cons, List.length_append, List.length_cons] at h1 ⊢
    omega
theorem bytes_append (a b : List UInt8) : Lib.byteCells (a ++ b) = Lib.byteCells a ++ Lib.byteCells b := by simp [Lib.byteCells]
theorem byteCells_mk (a : List UInt8) : byteCells ⟨a.toArray⟩ = Lib.byteCells a := by simp [byteCells, Lib.byteCells]

def printV (l : List Deed) : Value := match wholeF l with
  | none => .tuple #[.string ⟨(textL l).toArray⟩, .nilIface]
  | some c => .tuple #[.string ⟨#[]⟩, .iface 78 (.int .i64 c)]
theorem tarrW : TArr Tryd.prog 71 7 9 1 := ⟨fun w => by kernel_rfl, fun w => by kernel_rfl⟩
noncomputable def cxPrint : Cx := ⟨Tryd.prog, 9, 42, []⟩
theorem Print_calls (A0 : Option Addr) (c0 : Nat) (l : List Deed) (w0 : World) (hr0 : Reads w0 A0 (deeds l)) (hW : WordsAt w0) :
    Calls Tryd.prog 9 #[.slice A0 l.length c0] w0 fun e w' => e = .returned (printV l) ∧ Below w0.heap.size w0 w' := by
  refine calls_of_X cxPrint [.slice A0 l.length c0] Tryd.func9 (St.nil w0) ?_
  (repeat (first | with_reducible refine X.seq ?_ | with_reducible refine X.region ?_ | with_reducible refine X.block ?_ | with_reducible refine X.skip ?_ | with_reducible refine X.inBlock ?_ | refine X.exit rfl ?_))
  refine O.assign ?_
  refine O.assign ?_
  refine XO.nil ?_
  (repeat (first | with_reducible refine X.seq ?_ | with_reducible refine X.region ?_ | with_reducible refine X.block ?_ | with_reducible refine X.skip ?_ | with_reducible refine X.inBlock ?_ | refine X.exit rfl ?_))
  refine O.move ?_
  refine O.callB (errW (wholeF l)) te28 ?_ (hc := by intro _ w hs; exact whole_calls A0 c0 l w (hr0.st hs))
  refine O.assign ?_
  refine XO.nil ?_
  (repeat (first | with_reducible refine X.seq ?_ | with_reducible refine X.region ?_ | with_reducible refine X.block ?_ | with_reducible refine X.skip ?_ | with_reducible refine X.inBlock ?_ | refine X.exit rfl ?_))
  cases hw : wholeF l with
  | some c =>
    refine O.move ?_
    first | refine O.neNil ?_ | refine O.nilNe ?_
    refine XO.nil ?_
    (repeat (first | with_reducible refine X.seq ?_ | with_reducible refine X.region ?_ | with_reducible refine X.block ?_ | with_reducible refine X.skip ?_ | with_reducible refine X.inBlock ?_ | refine X.exit rfl ?_))
    refine X.condT rfl rfl ?_
    (repeat (first | with_reducible refine X.seq ?_ | with_reducible refine X.region ?_ | with_reducible refine X.block ?_ | with_reducible refine X.skip ?_ | with_reducible refine X.inBlock ?_ | refine X.exit rfl ?_))
    refine O.move ?_
    refine O.assign ?_
    refine O.assign ?_
    refine XO.nil ?_
    (repeat (first | with_reducible refine X.seq ?_ | with_reducible refine X.region ?_ | with_reducible refine X.block ?_ | with_reducible refine X.skip ?_ | with_reducible refine X.inBlock ?_ | refine X.exit rfl ?_))
    refine X.ret2 Tryd.func9 ?_
    exact fun w' hs => ⟨by rw [printV, hw]; rfl, hs.below⟩
  | none =>
    have hl1 : l.length ≤ 1000 := by
      unfold wholeF at hw
      split at hw
      · cases hw
      · omega
    have hfl : faultL l = none := by
      unfold wholeF at hw
      split at hw
      · cases hw
      · exact hw
    have hall := faultL_none hfl
    refine O.move ?_
    first | refine O.neNil ?_ | refine O.nilNe ?_
    refine XO.nil ?_
    (repeat (first | with_reducible refine X.seq ?_ | with_reducible refine X.region ?_ | with_reducible refine X.block ?_ | with_reducible refine X.skip ?_ | with_reducible refine X.inBlock ?_ | refine X.exit rfl ?_))
    refine X.condF rfl rfl ?_
    (repeat (first | with_reducible refine X.seq ?_ | with_reducible refine X.region ?_ | with_reducible refine X.block ?_ | with_reducible refine X.skip ?_ | with_reducible refine X.inBlock ?_ | refine X.exit rfl ?_))
    refine O.alloc tz69 (fun b5 hb5 => ?_)
    refine XO.nil ?_
    (repeat (first | with_reducible refine X.seq ?_ | with_reducible refine X.region ?_ | with_reducible refine X.block ?_ | with_reducible refine X.skip ?_ | with_reducible refine X.inBlock ?_ | refine X.exit rfl ?_))
    refine O.move ?_
    refine O.lenSlice tl22 ?_
    refine O.move ?_
    refine XO.nil ?_
    (repeat (first | with_reducible refine X.seq ?_ | with_reducible refine X.region ?_ | with_reducible refine X.block ?_ | with_reducible refine X.skip ?_ | with_reducible refine X.inBlock ?_ | refine X.exit rfl ?_))
    refine X.st (fun w hs => bld_open.2 ⟨.pointer none, none, 0, .inl rfl, Rem.sats1 (.there .here) (hs.own_nil 5 1)⟩) ?_
    refine X.loop (γ := Nat) (fun k => k ≤ l.length) (fun k => [⟨5, true, bptr b5⟩, ⟨15, true, .slice A0 l.length c0⟩, ⟨16, true, .int .i64 l.length⟩, ⟨17, true, .int .i64 k⟩]) (fun k => St w0 noS [HP.bld b5 (Lib.byteCells (textL (l.take k)))]) (fun k => l.length - k) 0 (Nat.zero_le _) (by repeat (first | exact Sub.nil | refine Sub.cons rfl (by first | rfl | simp) ?_)) (fun _ h => h) ?_
    rintro k hk next
    (repeat (first | with_reducible refine X.seq ?_ | with_reducible refine X.region ?_ | with_reducible refine X.block ?_ | with_reducible refine X.skip ?_ | with_reducible refine X.inBlock ?_ | refine X.exit rfl ?_))
    refine O.lss ?_
    refine XO.nil ?_
    (repeat (first | with_reducible refine X.seq ?_ | with_reducible refine X.region ?_ | with_reducible refine X.block ?_ | with_reducible refine X.skip ?_ | with_reducible refine X.inBlock ?_ | refine X.exit rfl ?_))
    refine X.cond rfl (fun h => ?_) (fun h => ?_)
    · have hlt : k < l.length := by have := of_decide_eq_true h; omega
      obtain ⟨ad, rfl, hc⟩ := deed_at hr0 k hlt
      have htl : textL (l.take (k + 1)) = textL (l.take k) ++ deedText l[k] := by
        rw [textL, textL, List.take_add_one, List.flatMap_append]
        simp [hlt]
      have hv := valid_of (hall l[k] (List.getElem_mem hlt))
      have hlen1 : (textL (l.take k)).length ≤ 18 * 1000 := by
        have h1 := textL_len (l := l.take k) (fun d hd => hall d (List.mem_of_mem_take hd))
        have h2 : (l.take k).length ≤ l.length := List.length_take_le' _ _
        omega
      generalize l[k] = d at hc htl hv
      generalize hT : textL (l.take k) = T at hlen1 htl
      obtain ⟨hv1, hv2, _⟩ := id hv
      have hlenT : (Lib.byteCells T).length = T.length := Lib.byteCells_length T
      have hlenw : (ByteArray.mk (wordL d.what.toNat).toArray).size ≤ 8 := by show (wordL d.what.toNat).toArray.size ≤ 8; simpa using wordL_len d.what.toNat
      have hwd : w0.cell? ((⟨0, 0, none⟩ : Addr).add (d.what.toNat * 1)) = some (.string ⟨(wordL d.what.toNat).toArray⟩) := by
        rw [add_blk, Nat.zero_add, Nat.mul_one]
        exact hW _ (by omega)
      (repeat (first | with_reducible refine X.seq ?_ | with_reducible refine X.region ?_ | with_reducible refine X.block ?_ | with_reducible refine X.skip ?_ | with_reducible refine X.inBlock ?_ | refine X.exit rfl ?_))
      refine O.indexAddr tl22 ?_
      refine O.loadAgg [.int .i64 d.what, .int .i64 d.hand, .int .i64 d.task, .int .i64 d.other] ta28 (fun _ w hs => CellsAt.old hs hc) ?_
      refine O.alloc tz28 (fun b7 hb7 => ?_)
      refine O.store _ ts28 ?_
      refine XO.nil ?_
      (repeat (first | with_reducible refine X.seq ?_ | with_reducible refine X.region ?_ | with_reducible refine X.block ?_ | with_reducible refine X.skip ?_ | with_reducible refine X.inBlock ?_ | refine X.exit rfl ?_))
      (first | refine O.fieldB0 td28_0 ?_ | refine O.fieldA td28_0 ?_ | refine O.fieldB td28_0 ?_)
      (first | refine O.loadB tf3 ?_ | refine O.loadO tf3 (by first | assumption | (simp only [Nat.add_zero, Nat.zero_add]; assumption)) ?_)
      refine O.indexArr tarrW ?_
      refine O.loadO tf9 hwd ?_
      refine O.callS (α := Unit) (φ := fun _ => True) (vo := fun _ => .tuple #[.int .i64 _, .nilIface]) (L1' := fun _ => [HP.bld b5 (Lib.byteCells T ++ byteCells ⟨(wordL d.what.toNat).toArray⟩)]) te29 (hr := Rems.cons (.there .here) .nil) (hc := by intro w S' hs' _ _; exact WriteString_calls b5 _ _ (by omega) w S' hs') (next := fun _ _ => ?_)
      simp only [List.cons_append, List.nil_append]
      refine XO.nil ?_
      (repeat (first | with_reducible refine X.seq ?_ | with_reducible refine X.region ?_ | with_reducible refine X.block ?_ | with_reducible refine X.skip ?_ | with_reducible refine X.inBlock ?_ | refine X.exit rfl ?_))
      refine O.callN (α := Nat) (φ := fun _ => True) (vo := fun g => .slice (some ⟨g, 0, none⟩) (fieldsN d.what).length (fieldsN d.what).length) (N := fun g => [HP.blk g (.cells ((fieldsN d.what).map fun j => Value.pointer (some ⟨b7, j, none⟩)).toArray 75 (0, 0))]) te30 (hc := by intro w hs; exact fields_calls b7 d.what w (hs.cell (.there .here) rfl)) (next := fun g _ => ?_)
      simp only [List.cons_append, List.nil_append]
      refine O.lenSlice tl72 ?_
      refine O.move ?_
      refine XO.nil ?_
      (repeat (first | with_reducible refine X.seq ?_ | with_reducible refine X.region ?_ | with_reducible refine X.block ?_ | with_reducible refine X.skip ?_ | with_reducible refine X.inBlock ?_ | refine X.exit rfl ?_))
      have hF3 := fieldsN_len d.what
      refine X.loop (γ := Nat) (fun j => j ≤ (fieldsN d.what).length) (fun j => [⟨5, true, bptr b5⟩, ⟨15, true, .slice (some ad) l.length c0⟩, ⟨16, true, .int .i64 l.length⟩, ⟨17, true, .int .i64 k⟩, ⟨26, true, .slice (some ⟨g, 0, none⟩) (fieldsN d.what).length (fieldsN d.what).length⟩, ⟨27, true, .int .i64 (fieldsN d.what).length⟩, ⟨28, true, .int .i64 j⟩])
        (fun j => St w0 noS [HP.blk g (.cells ((fieldsN d.what).map fun j => Value.pointer (some ⟨b7, j, none⟩)).toArray 75 (0, 0)), HP.bld b5 (Lib.byteCells (T ++ wordL d.what.toNat ++ ((fieldsN d.what).take j).flatMap (fieldText d))), HP.blk b7 (.cells #[.int .i64 d.what, .int .i64 d.hand, .int .i64 d.task, .int .i64 d.other] 28 (0, 0))]) (fun j => (fieldsN d.what).length - j) 0 (Nat.zero_le _) (by repeat (first | exact Sub.nil | refine Sub.cons rfl (by first | rfl | simp) ?_))
        (fun _ h => by simpa [bytes_append, byteCells_mk] using h) ?_
      rintro j hj next2
      (repeat (first | with_reducible refine X.seq ?_ | with_reducible refine X.region ?_ | with_reducible refine X.block ?_ | with_reducible refine X.skip ?_ | with_reducible refine X.inBlock ?_ | refine X.exit rfl ?_))
      refine O.lss ?_
      refine XO.nil ?_
      (repeat (first | with_reducible refine X.seq ?_ | with_reducible refine X.region ?_ | with_reducible refine X.block ?_ | with_reducible refine X.skip ?_ | with_reducible refine X.inBlock ?_ | refine X.exit rfl ?_))
      refine X.cond rfl (fun h2 => ?_) (fun h2 => ?_)
      · have hlt2 : j < (fieldsN d.what).length := by have := of_decide_eq_true h2; omega
        have htk : ((fieldsN d.what).take (j + 1)).flatMap (fieldText d) = ((fieldsN d.what).take j).flatMap (fieldText d) ++ fieldText d (fieldsN d.what)[j] := by
          rw [List.take_add_one, List.flatMap_append]
          simp [hlt2]
        obtain ⟨hj1, hj2, hj3, hj4⟩ := fieldsN_mem hv (List.getElem_mem hlt2)
        have hcell : (((fieldsN d.what).map fun j => Value.pointer (some ⟨b7, j, none⟩)).toArray)[(j : Int).toNat * 1]? = some (.pointer (some ⟨b7, (fieldsN d.what)[j], none⟩)) := by
          simp [hlt2]
        have hflen := fields_len hv j
        generalize (fieldsN d.what)[j] = q at hj1 hj2 hj3 hj4 hcell htk
        generalize hU : ((fieldsN d.what).take j).flatMap (fieldText d) = U at hflen htk
        have hq : (#[Value.int .i64 d.what, .int .i64 d.hand, .int .i64 d.task, .int .i64 d.other] : Array Value)[q]? = some (.int .i64 ((fld d q).toNat : Int)) := by
          have h5 : ((fld d q).toNat : Int) = fld d q := by omega
          rw [h5]
          have : q = 1 ∨ q = 2 ∨ q = 3 := by omega
          rcases this with rfl | rfl | rfl <;> rfl
        have hm : (fld d q).toNat < 100 := by omega
        have hdl := dec_len _ hm
        have hdsz : (ByteArray.mk (Lib.decDigits (fld d q).toNat).toArray).size ≤ 2 := by show (Lib.decDigits (fld d q).toNat).toArray.size ≤ 2; simpa using hdl
        have hsp : (ByteArray.mk #[32]).size = 1 := rfl
        have hlen2 : (Lib.byteCells (T ++ wordL d.what.toNat ++ U)).length ≤ 18 * 1000 + 8 + 9 := by
          have h6 := wordL_len d.what.toNat
          rw [Lib.byteCells_length]
          simp only [List.length_append]
          omega
        (repeat (first | with_reducible refine X.seq ?_ | with_reducible refine X.region ?_ | with_reducible refine X.block ?_ | with_reducible refine X.skip ?_ | with_reducible refine X.inBlock ?_ | refine X.exit rfl ?_))
        refine O.indexB tl72 ?_
        refine O.loadB tf75 ?_ (hv := hcell)
        refine O.assign ?_
        refine XO.nil ?_
        (repeat (first | with_reducible refine X.seq ?_ | with_reducible refine X.region ?_ | with_reducible refine X.block ?_ | with_reducible refine X.skip ?_ | with_reducible refine X.inBlock ?_ | refine X.exit rfl ?_))
        refine O.move ?_
        refine O.nilCheck ?_
        refine O.loadB tf3 ?_ (hv := hq)
        refine O.callB (.string ⟨(Lib.decDigits (fld d q).toNat).toArray⟩) te31 ?_ (hc := by intro _ w hs; exact (Tryd.strconv_Itoa_small _ hm w).mono fun e w' h => ⟨h.1, by rw [h.2]; exact Below.refl _ _⟩)
        refine O.addStr ?_
        refine O.callS (α := Unit) (φ := fun _ => True) (vo := fun _ => .tuple #[.int .i64 _, .nilIface]) (L1' := fun _ => [HP.bld b5 (Lib.byteCells (T ++ wordL d.what.toNat ++ U) ++ byteCells (ByteArray.mk #[32] ++ ByteArray.mk (Lib.decDigits (fld d q).toNat).toArray))]) te29 (hr := Rems.cons (.there .here) .nil) (hc := by intro w S' hs' _ _; exact WriteString_calls b5 _ _ (by rw [ByteArray.size_append]; omega) w S' hs') (next := fun _ _ => ?_)
        simp only [List.cons_append, List.nil_append]
        refine XO.nil ?_
        (repeat (first | with_reducible refine X.seq ?_ | with_reducible refine X.region ?_ | with_reducible refine X.block ?_ | with_reducible refine X.skip ?_ | with_reducible refine X.inBlock ?_ | refine X.exit rfl ?_))
        refine O.add ?_
        refine O.move ?_
        refine XO.nil ?_
        (repeat (first | with_reducible refine X.seq ?_ | with_reducible refine X.region ?_ | with_reducible refine X.block ?_ | with_reducible refine X.skip ?_ | with_reducible refine X.inBlock ?_ | refine X.exit rfl ?_))
        refine X.st (fun w hs => ?_) (X.sub (by repeat (first | exact Sub.nil | refine Sub.cons rfl (by first | rfl | simp) ?_)) (next2 (j + 1) hlt2 (by omega)))
        have hb : Lib.byteCells (T ++ wordL d.what.toNat ++ U) ++ byteCells (ByteArray.mk #[32] ++ ByteArray.mk (Lib.decDigits (fld d q).toNat).toArray) = Lib.byteCells (T ++ wordL d.what.toNat ++ ((fieldsN d.what).take (j + 1)).flatMap (fieldText d)) := by
          rw [htk]
          simp [bytes_append, fieldText, Lib.byteCells, byteCells, ByteArray.data_append]
        rw [hb] at hs
        exact hs.rems (.cons (.there .here) (.cons .here .nil))
      · have hge2 : j = (fieldsN d.what).length := by have := of_decide_eq_false h2; omega
        subst hge2
        (repeat (first | with_reducible refine X.seq ?_ | with_reducible refine X.region ?_ | with_reducible refine X.block ?_ | with_reducible refine X.skip ?_ | with_reducible refine X.inBlock ?_ | refine X.exit rfl ?_))
        refine O.callS (α := Unit) (φ := fun _ => True) (vo := fun _ => .tuple #[.int .i64 _, .nilIface]) (L1' := fun _ => [HP.bld b5 (Lib.byteCells (T ++ wordL d.what.toNat ++ ((fieldsN d.what).take (fieldsN d.what).length).flatMap (fieldText d)) ++ byteCells (ByteArray.mk #[10]))]) te29 (hr := Rems.cons (.there .here) .nil) (hc := by intro w S' hs' _ _; exact WriteString_calls b5 _ _ (by have h6 := wordL_len d.what.toNat; have h7 := fields_len hv (fieldsN d.what).length; have h8 : (ByteArray.mk #[10]).size = 1 := rfl; rw [Lib.byteCells_length, h8]; simp only [List.length_append]; omega) w S' hs') (next := fun _ _ => ?_)
        simp only [List.cons_append, List.nil_append]
        refine XO.nil ?_
        (repeat (first | with_reducible refine X.seq ?_ | with_reducible refine X.region ?_ | with_reducible refine X.block ?_ | with_reducible refine X.skip ?_ | with_reducible refine X.inBlock ?_ | refine X.exit rfl ?_))
        refine O.add ?_
        refine O.move ?_
        refine XO.nil ?_
        (repeat (first | with_reducible refine X.seq ?_ | with_reducible refine X.region ?_ | with_reducible refine X.block ?_ | with_reducible refine X.skip ?_ | with_reducible refine X.inBlock ?_ | refine X.exit rfl ?_))
        refine X.st (fun w hs => ?_) (X.sub (by repeat (first | exact Sub.nil | refine Sub.cons rfl (by first | rfl | simp) ?_)) (next (k + 1) hlt (by omega)))
        have hb : Lib.byteCells (T ++ wordL d.what.toNat ++ ((fieldsN d.what).take (fieldsN d.what).length).flatMap (fieldText d)) ++ byteCells (ByteArray.mk #[10]) = Lib.byteCells (textL (l.take (k + 1))) := by
          rw [htl, List.take_length]
          simp [deedText, Lib.byteCells, byteCells]
        rw [hb] at hs
        exact hs.drop (L1 := [_])
    · have hge : k = l.length := by have := of_decide_eq_false h; omega
      subst hge
      rw [List.take_length]
      (repeat (first | with_reducible refine X.seq ?_ | with_reducible refine X.region ?_ | with_reducible refine X.block ?_ | with_reducible refine X.skip ?_ | with_reducible refine X.inBlock ?_ | refine X.exit rfl ?_))
      refine O.callZ (α := Unit) (φ := fun _ => True) (vo := fun _ => .string ⟨(textL l).toArray⟩) te32 (hc := ?hstr) (next := fun _ _ => ?_)
      case hstr =>
        intro w hs
        obtain ⟨p, A, c, hp, hs⟩ := bld_open.1 hs
        refine (Tryd.Builder_String_any w0.heap.size b5 (textL l) w (isBuilder hp hb5 hs) hs.mod.size).mono ?_
        rintro e w' ⟨rfl, hb⟩
        exact ⟨(), trivial, rfl, hb⟩
      refine O.assign ?_
      refine O.assign ?_
      refine XO.nil ?_
      (repeat (first | with_reducible refine X.seq ?_ | with_reducible refine X.region ?_ | with_reducible refine X.block ?_ | with_reducible refine X.skip ?_ | with_reducible refine X.inBlock ?_ | refine X.exit rfl ?_))
      refine X.ret2 Tryd.func9 ?_
      exact fun w' hs => ⟨by rw [printV, hw], hs.below⟩
end Go.Proofs.YtgegppbjpaeljaaDoor.Tr
