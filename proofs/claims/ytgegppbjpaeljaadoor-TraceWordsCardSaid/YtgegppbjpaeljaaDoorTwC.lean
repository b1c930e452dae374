/- Proved here: the card of yardlaw4.TraceWords: the row's statement out of the law's walk, tied to the program's text. -/
import Derived.Test.YtgegppbjpaeljaaDoorTw
import Derived.Test.YtgegppbjpaeljaaDoorCards
import Derived.Test.YtgegppbjpaeljaaDoorTie
import Derived.SevenTiedAt
set_option linter.unusedVariables false
set_option linter.unusedSimpArgs false
namespace Go.Proofs.YtgegppbjpaeljaaDoor.Tw
open Go Go.X Go.RowKit Go.Proofs.YtgegppbjpaeljaaDoor.Tr Go.ChangeShapes Go.WideShapes Go.ChangeAt

/-! ### The row and the card -/
theorem own : ownKnob Tryd.prog.godebug = none := by kernel_rfl
theorem laidOut : laidOutB Tryd.prog = true := by kernel_rfl
theorem gWords : Tryd.prog.globalNamed "yardgang/trace.words" = some 0 := by kernel_rfl
theorem gWordsType : (Tryd.prog.globals[0]?).map (·.type) = some 71 := by kernel_rfl
theorem words_of {W : World} (h : laidMetH Tryd.prog Rows.traceWordsRow.laid W) : WordsAt W := by
  obtain ⟨cs, fuel, p, h1, h2⟩ := laid_at (l := Rows.traceWordsRow.laid) h 3 (n := "yardgang/trace.words") (d := Rows.laid_yardgang_trace_words) rfl gWords gWordsType
  have h3 : ∀ i (hi : i < 7), cs.toList[i]? = some (.string ⟨(wordL i).toArray⟩) := by
    intro i hi
    have h4 := texts_at (ss := (List.range 7).map wordL) Tryd.underlying71 Tryd.underlying9 (by kernel_rfl) h2 i (by simpa using hi)
    simpa using h4
  intro i hi
  rw [World.var?_cell gWords h1 i, ← h3 i hi]
  simp

theorem open_deeds {H : Type} {enc : TypeId × Value → H} {w : World} {base : Nat} {spare : Nat → Bool} {held : Bool} {fuel : Nat} {cs : List Value} {x : DataW H × List MemPlace} (h : DataW.trod enc Tryd.prog w base spare held fuel 22 cs = some x) :
    ∃ (A : Option Addr) (c : Nat) (l : List Deed), cs = [.slice A l.length c] ∧ Reads w A (deeds l) ∧ l.length ≤ c ∧ c ≤ maxLen :=
  open_rows (k := 4) (f := Deed.cells) Tryd.underlying22 (by kernel_rfl) (fun _ => rfl) (fun n cs' y hy => by
    obtain ⟨zs, hz, rfl⟩ := trod_struct_ints Tryd.underlying28 (by kernel_rfl) (by rfl) (by
      intro i hi
      match i, hi with
      | 0, _ => exact ⟨Tryd.underlying3, rfl, by kernel_rfl⟩
      | 1, _ => exact ⟨Tryd.underlying3, rfl, by kernel_rfl⟩
      | 2, _ => exact ⟨Tryd.underlying3, rfl, by kernel_rfl⟩
      | 3, _ => exact ⟨Tryd.underlying3, rfl, by kernel_rfl⟩
      | n + 4, h => exact absurd h (by simp)) hy
    match zs, hz with
    | [a, b, c, d], _ => exact ⟨⟨a, b, c, d⟩, rfl⟩) h

set_option maxRecDepth 100000 in
theorem contract (H : Type) (enc : TypeId × Value → H) (W : World) (base : Nat) (args : Array Value) (ds gs : List (DataW H)) (before : List MemPlace)
    (hval : ∀ (j : Nat) t v, Tryd.f3.params[j]? = some t → args[j]? = some v → Value.okWide Tryd.prog W .any base t v)
    (hW : DataW.Whole enc Tryd.prog Tryd.f3.params.toList Rows.traceWordsSpec.vars false W args.toList ds gs before) (hL : laidMetH Tryd.prog Rows.traceWordsRow.laid W) :
    Calls Tryd.prog 3 args W fun e W' => ∃ v, e = .returned v ∧ Rows.traceWordsSpec.post enc Tryd.prog Tryd.f3 false true false false W args v W' := by
  have hW' := hW
  obtain ⟨p, q, hA0, hV, rfl, _, _⟩ := hW
  have hA : DataW.TrodAll enc Tryd.prog W 0 (fun _ => true) true Tryd.f3.params.toList args.toList ds p := hA0
  rw [Tryd.params3] at hA hval
  obtain ⟨v0, vs0, d0, ds0, p0, q0, hargs, rfl, rfl, h0, r0⟩ := trodAll_cons hA
  obtain ⟨rfl, rfl, rfl⟩ := trodAll_nil r0
  obtain rfl : args = #[v0] := by cases args; simp_all
  obtain ⟨rfl, rfl⟩ := trodVars_none hV
  obtain ⟨a0, len0, cap0, rfl⟩ := okWide_slice Tryd.underlying22 (hval 0 22 v0 rfl rfl)
  obtain ⟨n0, hn0⟩ := h0
  obtain ⟨A, c, l, hcs, hr, hlc, hcm⟩ := open_deeds hn0
  obtain ⟨rfl, rfl, rfl⟩ : a0 = A ∧ len0 = l.length ∧ cap0 = c := by simpa [Value.cells] using hcs
  refine (law_calls a0 cap0 l W hr (Nat.le_trans hlc hcm) (words_of hL)).mono fun e W' ⟨he, hb⟩ => ⟨_, he, ?_⟩
  exact law_post (tb := 4) laidOut rfl (by kernel_rfl) (by kernel_rfl) Tryd.underlying4 rfl hW' hb

noncomputable def laidWorld (os : Os) : World :=
  layCells (World.holding Tryd.prog os ⟨#[], #[], []⟩) [(0, (List.range 7).map fun i => .string ⟨(wordL i).toArray⟩),
    (2, (List.range 20).map fun i => .int .u64 (10 ^ i)),
    (8, [0, 1, 28, 2, 29, 14, 24, 3, 30, 22, 20, 15, 25, 17, 4, 8, 31, 27, 13, 23, 21, 19, 16, 7, 26, 12, 18, 6, 11, 5, 10, 9].map fun z => .int .u8 z),
    (9, [0, 1, 56, 2, 57, 49, 28, 3, 61, 58, 42, 50, 38, 29, 17, 4, 62, 47, 59, 36, 45, 43, 51, 22, 53, 39, 33, 30, 24, 18, 12, 5, 63, 55, 48, 27, 60, 41, 37, 16, 46, 35, 44, 21, 52, 32, 23, 11, 54, 26, 40, 15, 34, 20, 31, 10, 25, 14, 19, 9, 13, 8, 7, 6].map fun z => .int .u8 z)]
theorem laid_met (os : Os) : laidMet Tryd.prog Rows.traceWordsRow.laid ((laidWorld os).forCall (fun _ _ => 0) ⟨#[], #[.slice none 0 0], []⟩).memory :=
  laidMet_of_run' 8 (by kernel_rfl) (by kernel_rfl)
theorem reads (os : Os) {H : Type} (enc : TypeId × Value → H) : ∃ places, DataW.whole enc Tryd.prog ((laidWorld os).forCall (fun _ _ => 0) ⟨#[], #[.slice none 0 0], []⟩).memory Tryd.f3.params.toList Rows.traceWordsSpec.vars false #[Value.slice none 0 0].toList 8 = some ([.nil], [], places) :=
  ⟨[], by kernel_rfl⟩

set_option maxRecDepth 100000 in
theorem lifted (os : Os) (started : os.Started) (H : Type) (enc : TypeId × Value → H) (F : Stop.Interp) :
    ReturnsInHanded {} Tryd.checked os 3 .any ((OpenSpec.ofChange Rows.traceWordsSpec).preRow enc Tryd.prog Tryd.f3 Rows.traceWordsRow.domain false Rows.traceWordsRow.laid) (((OpenSpec.ofChange Rows.traceWordsSpec).at F).post enc Tryd.prog Tryd.f3 false true false false) := by
  obtain ⟨places, hx⟩ := reads os enc
  refine returnsInHanded_of_row (C := Tryd.checked) (s := OpenSpec.ofChange Rows.traceWordsSpec) own started (by kernel_rfl) Tryd.func3
    (witness_row_at (enc := enc) (C := Tryd.checked) false (laidWorld os) #[.slice none 0 0] rfl (by kernel_rfl) (by kernel_rfl) (by kernel_rfl)
      (OpenSpec.preRow_of_cond 8 hx (by kernel_rfl) (fun k hk => by cases hk) (by kernel_rfl) (laid_met os))) ?_
  intro W base args ds gs before hval hW _ _ _ hL _ _
  exact contract H enc W base args ds gs before hval hW hL

theorem said : Rows.TraceWordsSaid :=
  OpenClaim.holds_of_cond 3 Tryd.f3 rfl rfl rfl rfl rfl rfl rfl ⟨rfl, rfl, rfl, rfl, rfl⟩ rfl rfl rfl rfl rfl (by kernel_rfl) Tryd.func3 (by kernel_rfl)
    (of_decide_eq_true (by kernel_rfl)) (by unfold Func.isWrapper; first | (rw [if_pos (by decide +kernel)]; kernel_rfl) | (rw [if_neg (by decide +kernel)]; exact ⟨rfl, rfl⟩))
    (fun os started H enc _ F => by rw [OpenClaim.pre_eq_preRow]; exact lifted os started H enc F)

theorem plain (f : FuncId) (fn : Func) (hf : Tryd.pinned.checked.prog.funcNamed "yardgang/yardlaw4.TraceWords" = some f) (hfn : Tryd.pinned.checked.prog.funcs[f]? = some fn) :
    true = Tryd.pinned.checked.prog.looks [] ∧ ∀ (j : Nat) t, fn.params[j]? = some t → Tryd.pinned.checked.prog.wantsStandIn t = false := by
  obtain rfl : f = 3 := Option.some.inj ((show Tryd.prog.funcNamed "yardgang/yardlaw4.TraceWords" = some 3 by kernel_rfl).symm.trans hf) |>.symm
  obtain rfl : fn = Tryd.f3 := (Option.some.inj (Tryd.func3.symm.trans hfn)).symm
  refine ⟨by kernel_rfl, fun j t ht => ?_⟩
  rw [Tryd.params3] at ht
  obtain rfl : t = 22 := by simpa using Array.mem_of_getElem? ht
  exact (show Tryd.prog.wantsStandIn 22 = false by kernel_rfl)
end Go.Proofs.YtgegppbjpaeljaaDoor.Tw
namespace Go.Proofs.YtgegppbjpaeljaaDoor
open Go
/-- The card of TraceWords. -/
theorem traceWords_card : Rows.TraceWordsCardSaid :=
  Claim7.holds_tied_plain_at .later [] _ _ _ _ Tw.said (fun _ h => by cases h) (by kernel_rfl) (fun _ h => by cases h) traceWords_row_tie rfl ⟨rfl, rfl⟩ (by kernel_rfl) rfl Tw.plain (by kernel_rfl)
end Go.Proofs.YtgegppbjpaeljaaDoor
