/- Proved here: yardlaw4.TraceWords returns true for every list of deeds, and its argument reads behind the call as before; the package-level tables that it reads hold what the program's text lays (the card ties them). -/
import Derived.Test.YtgegppbjpaeljaaDoorCl
import Derived.Test.YtgegppbjpaeljaaDoorTr
import Derived.Test.YtgegppbjpaeljaaDoorCut
set_option linter.unusedVariables false
set_option linter.unusedSimpArgs false
set_option maxRecDepth 10000
namespace Go.Proofs.YtgegppbjpaeljaaDoor.Tw
open Go Go.X Go.RowKit Go.Proofs.YtgegppbjpaeljaaDoor.Ty Go.Proofs.YtgegppbjpaeljaaDoor.Tr Go.Proofs.YtgegppbjpaeljaaDoor.Ct Go.ChangeShapes Go.WideShapes Go.ChangeAt

def woke3 : List Deed := [⟨6, 3, 0, 0⟩]
theorem woke3_text : printV woke3 = .tuple #[.string ⟨#[119, 111, 107, 101, 32, 51, 10]⟩, .nilIface] := by
  have h1 : wholeF woke3 = none := by decide
  have h2 : textL woke3 = [119, 111, 107, 101, 32, 51, 10] := by decide +kernel
  rw [printV, h1, h2]

theorem count_words (i : Nat) : (wordL i).count 10 = 0 := by unfold wordL; split <;> decide
theorem count_dec (m : Nat) (h : m < 100) : (Lib.decDigits m).count 10 = 0 := by
  have : ∀ m : Fin 100, (Lib.decDigits m.1).count 10 = 0 := by decide +kernel
  exact this ⟨m, h⟩
theorem count_fields {d : Deed} (h : valid d) : ∀ l : List Nat, (∀ j ∈ l, j ∈ fieldsN d.what) → (l.flatMap (fieldText d)).count 10 = 0
  | [], _ => rfl
  | j :: r, hl => by
    have h1 := count_fields h r (fun x hx => hl x (List.mem_cons_of_mem _ hx))
    have h2 := fieldsN_mem h (hl j List.mem_cons_self)
    have h3 := count_dec (fld d j).toNat (by omega)
    simp [fieldText, h1, h3]
theorem count_deed {d : Deed} (h : valid d) : (deedText d).count 10 = 1 := by
  simp only [deedText, List.count_append, count_words, count_fields h _ (fun j hj => hj)]
  rfl
theorem count_text : ∀ {l : List Deed}, (∀ d ∈ l, faultD d = none) → (textL l).count 10 = l.length
  | [], _ => rfl
  | d :: r, h => by
    have h1 := count_text (l := r) (fun x hx => h x (List.mem_cons_of_mem _ hx))
    have h2 := count_deed (valid_of (h d List.mem_cons_self))
    simp only [textL] at h1
    simp only [textL, List.flatMap_cons, List.count_append, h1, h2, List.length_cons]
    omega

noncomputable def cxLaw : Cx := ⟨Tryd.prog, 3, 33, []⟩
theorem law_calls (A0 : Option Addr) (c0 : Nat) (l : List Deed) (w0 : World) (hr0 : Reads w0 A0 (deeds l)) (hl0 : l.length ≤ maxLen) (hW : WordsAt w0) :
    Calls Tryd.prog 3 #[.slice A0 l.length c0] w0 fun e w' => e = .returned (.bool true) ∧ Below w0.heap.size w0 w' := by
  unfold maxLen at hl0
  have hWs : ∀ {L : List HP} {w : World}, St w0 noS L w → WordsAt w := fun hs i hi => hs.old0 (hW i hi)
  refine calls_of_X cxLaw [.slice A0 l.length c0] Tryd.func3 (St.nil w0) ?_
  (repeat (first | with_reducible refine X.seq ?_ | with_reducible refine X.region ?_ | with_reducible refine X.block ?_ | with_reducible refine X.skip ?_ | with_reducible refine X.inBlock ?_ | refine X.exit rfl ?_))
  refine O.assign ?_
  refine XO.nil ?_
  (repeat (first | with_reducible refine X.seq ?_ | with_reducible refine X.region ?_ | with_reducible refine X.block ?_ | with_reducible refine X.skip ?_ | with_reducible refine X.inBlock ?_ | refine X.exit rfl ?_))
  refine O.build (.agg #[.int .i64 6, .int .i64 3, .int .i64 0, .int .i64 0]) ?_
  refine O.buildSlice 28 #[.int .i64 6, .int .i64 3, .int .i64 0, .int .i64 0] (fun g hg => ?_)
  refine O.callB (.tuple #[.string ⟨#[119, 111, 107, 101, 32, 51, 10]⟩, .nilIface]) te9 ?_ (hc := by intro _ w hs; exact woke3_text ▸ Print_calls (some ⟨g, 0, none⟩) 1 woke3 w (hs.reads .here) (hWs hs))
  refine O.move ?_
  refine O.extract ?_
  refine O.extract ?_
  refine O.assign ?_
  refine O.assign ?_
  refine XO.nil ?_
  (repeat (first | with_reducible refine X.seq ?_ | with_reducible refine X.region ?_ | with_reducible refine X.block ?_ | with_reducible refine X.skip ?_ | with_reducible refine X.inBlock ?_ | refine X.exit rfl ?_))
  refine O.move ?_
  first | refine O.neNil ?_ | refine O.nilNe ?_
  refine O.move ?_
  refine O.move ?_
  refine O.neStr ?_
  refine O.pickOr ?_
  refine XO.nil ?_
  (repeat (first | with_reducible refine X.seq ?_ | with_reducible refine X.region ?_ | with_reducible refine X.block ?_ | with_reducible refine X.skip ?_ | with_reducible refine X.inBlock ?_ | refine X.exit rfl ?_))
  refine X.condF rfl (by decide) ?_
  (repeat (first | with_reducible refine X.seq ?_ | with_reducible refine X.region ?_ | with_reducible refine X.block ?_ | with_reducible refine X.skip ?_ | with_reducible refine X.inBlock ?_ | refine X.exit rfl ?_))
  refine O.move ?_
  refine O.callB (printV l) te9 ?_ (hc := by intro _ w hs; exact Print_calls A0 c0 l w (hr0.st hs) (hWs hs))
  refine O.move ?_
  cases hw : wholeF l with
  | some c =>
    have hp : printV l = .tuple #[.string ⟨#[]⟩, .iface 78 (.int .i64 c)] := by rw [printV, hw]
    rw [hp]
    refine O.extract ?_
    refine O.extract ?_
    refine O.assign ?_
    refine O.assign ?_
    refine XO.nil ?_
    (repeat (first | with_reducible refine X.seq ?_ | with_reducible refine X.region ?_ | with_reducible refine X.block ?_ | with_reducible refine X.skip ?_ | with_reducible refine X.inBlock ?_ | refine X.exit rfl ?_))
    refine O.move ?_
    first | refine O.neNil ?_ | refine O.nilNe ?_
    refine XO.nil ?_
    (repeat (first | with_reducible refine X.seq ?_ | with_reducible refine X.region ?_ | with_reducible refine X.block ?_ | with_reducible refine X.skip ?_ | with_reducible refine X.inBlock ?_ | refine X.exit rfl ?_))
    refine X.condT rfl rfl ?_
    (repeat (first | with_reducible refine X.seq ?_ | with_reducible refine X.region ?_ | with_reducible refine X.block ?_ | with_reducible refine X.skip ?_ | with_reducible refine X.inBlock ?_ | refine X.exit rfl ?_))
    refine O.assign ?_
    refine XO.nil ?_
    (repeat (first | with_reducible refine X.seq ?_ | with_reducible refine X.region ?_ | with_reducible refine X.block ?_ | with_reducible refine X.skip ?_ | with_reducible refine X.inBlock ?_ | refine X.exit rfl ?_))
    refine X.ret1 Tryd.func3 ?_
    exact fun w' hs => ⟨rfl, hs.below⟩
  | none =>
    have hp : printV l = .tuple #[.string ⟨(textL l).toArray⟩, .nilIface] := by rw [printV, hw]
    have hall : ∀ d ∈ l, faultD d = none := by
      refine faultL_none ?_
      unfold wholeF at hw
      split at hw
      · cases hw
      · exact hw
    have hl1 : l.length ≤ 1000 := by
      unfold wholeF at hw
      split at hw
      · cases hw
      · omega
    have htl := textL_len hall
    have hpl : (pieces 10 (textL l)).length = l.length + 1 := by rw [pieces_length, count_text hall]
    have hts : (ByteArray.mk (textL l).toArray).size ≤ 18000 := by show (textL l).toArray.size ≤ 18000; simp only [List.size_toArray]; omega
    rw [hp]
    refine O.extract ?_
    refine O.extract ?_
    refine O.assign ?_
    refine O.assign ?_
    refine XO.nil ?_
    (repeat (first | with_reducible refine X.seq ?_ | with_reducible refine X.region ?_ | with_reducible refine X.block ?_ | with_reducible refine X.skip ?_ | with_reducible refine X.inBlock ?_ | refine X.exit rfl ?_))
    refine O.move ?_
    first | refine O.neNil ?_ | refine O.nilNe ?_
    refine XO.nil ?_
    (repeat (first | with_reducible refine X.seq ?_ | with_reducible refine X.region ?_ | with_reducible refine X.block ?_ | with_reducible refine X.skip ?_ | with_reducible refine X.inBlock ?_ | refine X.exit rfl ?_))
    refine X.condF rfl rfl ?_
    (repeat (first | with_reducible refine X.seq ?_ | with_reducible refine X.region ?_ | with_reducible refine X.block ?_ | with_reducible refine X.skip ?_ | with_reducible refine X.inBlock ?_ | refine X.exit rfl ?_))
    refine O.move ?_
    refine O.callN (α := Option Addr × Nat) (φ := fun _ => True) (vo := fun x => .slice x.1 (pieces 10 (textL l)).length x.2) (N := fun x => [HP.own 9 1 (.slice x.1 (pieces 10 (textL l)).length x.2) (pieces 10 (textL l)).length (strs ((pieces 10 (textL l)).map asStr))]) te10 (hc := by intro w hs; exact Cut_calls ⟨(textL l).toArray⟩ 10 (by omega) w) (next := fun x _ => ?_)
    simp only [hpl]
    refine O.lenSlice tl29 ?_
    refine O.move ?_
    refine O.lenSlice tl22 ?_
    refine O.add ?_
    refine O.eql ?_
    refine O.assign ?_
    refine XO.nil ?_
    (repeat (first | with_reducible refine X.seq ?_ | with_reducible refine X.region ?_ | with_reducible refine X.block ?_ | with_reducible refine X.skip ?_ | with_reducible refine X.inBlock ?_ | refine X.exit rfl ?_))
    refine X.ret1 Tryd.func3 ?_
    exact fun w' hs => ⟨by rw [decide_eq_true (by omega)], hs.below⟩

end Go.Proofs.YtgegppbjpaeljaaDoor.Tw
