/- Proved here: yardref1.ReadWeave reads as the plain reading does; weave.Measure; yardlaw1.WeaveTells returns true for every text, where errors' type and strconv's errors are as laid. -/
import Derived.Test.YtgegppbjpaeljaaDoorWt1
import Derived.Test.YtgegppbjpaeljaaDoorWq
set_option linter.unusedVariables false
set_option linter.unusedSimpArgs false
set_option maxRecDepth 10000
namespace Go.X.Wv
theorem over_small (cap : L → Int) (t : T) : over cap t = false ↔ small cap t := by
  rw [← tasks_small cap t 0, over, List.any_eq_false]
  constructor
  · intro h x hx
    have := h x hx
    simp only [decide_eq_true_eq] at this
    omega
  · intro h x hx
    have := h x hx
    simp only [decide_eq_true_eq]
    omega
theorem parseF_same {c1 c2 : L → Int} (hc : ∀ ds, ds.all isDig = true → (c1 ds ≤ 20 ↔ c2 ds ≤ 20)) (s : L) : parseF c1 s = parseF c2 s := by
  unfold parseF
  split
  · rfl
  · cases hp : parse s with
    | none => rfl
    | some t =>
      have h1 := small_same hc t (parse_digits hp)
      have h2 : over c1 t = over c2 t := by
        have e1 := over_small c1 t
        have e2 := over_small c2 t
        cases h3 : over c1 t <;> cases h4 : over c2 t <;> simp_all
      dsimp only
      rw [h2]
end Go.X.Wv
namespace Go.Proofs.YtgegppbjpaeljaaDoor.Ws
open Go Go.X Go.X.Wv Go.RowKit Go.Proofs.YtgegppbjpaeljaaDoor Go.Proofs.YtgegppbjpaeljaaDoor.Ty Go.Proofs.YtgegppbjpaeljaaDoor.Pl Go.Proofs.YtgegppbjpaeljaaDoor.Wv Go.Proofs.YtgegppbjpaeljaaDoor.As

theorem caps (ds : L) (h : ds.all isDig = true) : (capW ds ≤ 20 ↔ capR ds ≤ 20) := by
  have h1 := cap_same h
  unfold capW
  split <;> omega
theorem capWR (ds : L) (h : ds.all isDig = true) (h2 : capW ds ≤ 20) : capW ds = capR ds := by
  have h1 := cap_same h
  unfold capW at h2 ⊢
  by_cases h3 : 20 < val ds
  · rw [if_pos h3] at h2; omega
  · rw [if_neg h3]; omega
theorem allR_steps : ∀ f, OneR f ∧ BehindR f ∧ BesideR f := by
  intro f
  induction f using Nat.strongRecOn with
  | _ f ih =>
    cases f with
    | zero => exact ⟨fun _ _ _ _ _ _ _ _ _ h => absurd h (by omega), fun _ _ _ _ _ _ _ _ _ h => absurd h (by omega), fun _ _ _ _ _ _ _ _ _ h => absurd h (by omega)⟩
    | succ f => exact ⟨oneR_step f (ih f (by omega)).2.2, behindR_step f (fun f' h => (ih f' (by omega)).1), besideR_step f (fun f' h => (ih f' (by omega)).2.1)⟩
theorem readerR_calls (b : Nat) (s : ByteArray) (w : World) (S : Nat → Prop) (hs : s.size ≤ 200) (hst : St w S (RW b s 0 none 0 []) w) :
    Calls Tryd.prog 37 #[.pointer (some ⟨b, 0, none⟩)] w (OutR b s s.data.toList.length [] w S (beside (3 * s.data.toList.length + 3) s.data.toList)) := by
  have h := (allR_steps (3 * (rest s 0).length + 3)).2.2 b s 0 none 0 [] w S ⟨Nat.zero_le _, hs, Nat.zero_le _, hst⟩ (Nat.le_refl _)
  simpa [rest] using h
def ParsedR (s : L) (x : PR) : Prop := match parseF capR s with
  | .error e => x = ⟨none, 0, [], 0, 0, e⟩
  | .ok t => x.ts.map TaskM.spec = tasks capR t 0 ∧ x.wk = work capR t ∧ x.sp = span capR t ∧ x.err = 0
theorem ParsedR.to {s : L} {x : PR} (h : ParsedR s x) : Parsed s x := by
  have h1 := parseF_same caps s
  unfold ParsedR at h
  unfold Parsed
  rw [h1]
  cases hp : parseF capR s with
  | error e => rw [hp] at h; exact h
  | ok t =>
    rw [hp] at h
    rw [hp] at h1
    obtain ⟨k1, k2, k3, k4⟩ := parseF_ok h1
    obtain ⟨a1, a2, a3⟩ := same_of capWR t (parse_digits k2) ((over_small capW t).1 k3)
    obtain ⟨b1, b2, b3, b4⟩ := h
    exact ⟨by rw [b1, a1], by rw [b2, a2], by rw [b3, a3], b4⟩
def ReadPost (s : L) (w0 : World) (en : Ending) (w' : World) : Prop := ∃ x : PR, ParsedR s x ∧ en = .returned (.tuple #[.slice x.A x.ts.length x.c, .int .i64 x.wk, .int .i64 x.sp, .int .i64 x.err]) ∧ St w0 noS [HP.rd (fun w => PlanAt w x.A x.ts)] w'
theorem readR_fault {s : L} {w0 w : World} {e : Int} {L : List HP} (h : parseF capR s = .error e) (hs : St w0 noS L w) : ReadPost s w0 (.returned (.tuple #[.slice none 0 0, .int .i64 0, .int .i64 0, .int .i64 e])) w :=
  ⟨⟨none, 0, [], 0, 0, e⟩, by unfold ParsedR; rw [h], rfl, ((hs.drop (L1 := [])).rd_true).rd_mono (fun w _ => PlanAt.none w _)⟩
noncomputable def cxRead : Cx := ⟨Tryd.prog, 14, 63, []⟩
set_option maxHeartbeats 1000000 in
theorem ReadWeave_calls (s : ByteArray) (w0 : World) (hlen : s.size ≤ 9223372036854775807) : Calls Tryd.prog 14 #[.string s] w0 (ReadPost s.data.toList w0) := by
  have hfn := Tryd.func14
  have hsz : s.data.toList.length = s.size := by rw [Array.length_toList]; rfl
  refine calls_of_X cxRead [.string s] hfn (St.nil w0) ?_
  (refine X.seq ?_)
  refine X.region ?_
  refine O.assign ?_
  refine O.assign ?_
  refine O.assign ?_
  refine O.assign ?_
  refine XO.nil ?_
  (refine X.seq ?_; refine X.seq ?_)
  refine X.region ?_
  refine O.move ?_
  refine O.lenString tg9 ?_
  refine O.gtr ?_
  refine XO.nil ?_
  refine X.cond rfl (fun c1 => ?_) (fun c1 => ?_)
  · (refine X.seq ?_)
    refine X.region ?_
    refine O.assign ?_
    refine O.assign ?_
    refine O.assign ?_
    refine O.assign ?_
    refine XO.nil ?_
    refine X.ret4 Tryd.func14 ?_
    exact fun w' hs => readR_fault (by rw [parseF, if_pos (by have := of_decide_eq_true c1; omega)]) hs
  · have hs2 : s.size ≤ 200 := by have := of_decide_eq_false c1; omega
    (refine X.skip ?_; refine X.seq ?_)
    refine X.region ?_
    refine O.move ?_
    refine O.build (.agg #[.string s, .int .i64 0, .slice none 0 0, .int .i64 0]) ?_
    refine O.box (fun b14 hb14 => ?_)
    refine O.assign ?_
    refine XO.nil ?_
    refine X.st (σ' := St w0 noS [HP.blk b14 (rC s 0 none 0 0 0), HP.own 46 2 (.slice none 0 0) 0 [], HP.rd (NeedsOK [])]) (fun w hs => by
      have h1 := ((hs.own_nil 46 2).rd_true).rd_mono (ψ := NeedsOK []) (fun w _ t ht => by cases ht)
      exact h1.perm (L1 := [HP.blk b14 (.cells #[.string s, .int .i64 0, .slice none 0 0, .int .i64 0] 91 (0, 0)), _, _]) (by repeat (first | exact Rems.nil | (apply Rems.cons; focus (repeat (first | with_reducible exact Rem.here | with_reducible apply Rem.there)))))) ?_
    (refine X.seq ?_)
    refine X.region ?_
    refine O.move ?_
    refine O.callS (L1 := [HP.blk b14 (rC s 0 none 0 0 0), HP.own 46 2 (.slice none 0 0) 0 [], HP.rd (NeedsOK [])]) (α := Sm) (φ := smP s s.data.toList.length 0 (beside (3 * s.data.toList.length + 3) s.data.toList)) (vo := smV 0) (L1' := smL b14 s []) te37 (hr := (by repeat (first | exact Rems.nil | (apply Rems.cons; focus (repeat (first | with_reducible exact Rem.here | with_reducible apply Rem.there)))))) (hc := by intro w' S' h1 h2 h3; exact readerR_calls b14 s w' S' hs2 h1) (next := ?_)
    rintro (⟨t, r, ⟨nw, A1, cc1, fA1, fc1, lA1, lc1⟩⟩ | y) hp
    skip
    · obtain ⟨hp, hg⟩ := hp
      dsimp only [smV, smL] at hp hg ⊢
      simp only [List.cons_append, List.nil_append]
      obtain ⟨hsuf, hln⟩ := beside_fact _ hp
      have hnl := hg.len
      dsimp only at hnl
      have hspec := hg.1
      dsimp only at hspec
      refine O.alloc tz93 (fun b7 hb7 => ?_)
      refine O.store _ ts93 ?_
      refine XO.nil ?_
      (refine X.seq ?_; refine X.seq ?_)
      refine X.region ?_
      refine O.move ?_
      refine O.nilCheck ?_
      (first | refine O.fieldB0 td91_3 ?_ | refine O.fieldA td91_3 ?_ | refine O.fieldB td91_3 ?_)
      (first | refine O.loadB tf3 ?_ | refine O.loadO tf3 (by first | assumption | (simp only [Nat.add_zero, Nat.zero_add]; assumption)) ?_ | refine O.loadOwn tf3 ?_)
      refine O.neq ?_
      refine O.move ?_
      refine O.move ?_
      refine O.nilCheck ?_
      (first | refine O.fieldB0 td91_1 ?_ | refine O.fieldA td91_1 ?_ | refine O.fieldB td91_1 ?_)
      (first | refine O.loadB tf3 ?_ | refine O.loadO tf3 (by first | assumption | (simp only [Nat.add_zero, Nat.zero_add]; assumption)) ?_ | refine O.loadOwn tf3 ?_)
      refine O.move ?_
      refine O.lenString tg9 ?_
      refine O.lss ?_
      refine O.pickOr ?_
      refine XO.nil ?_
      refine X.cond rfl (fun c5 => ?_) (fun c5 => ?_)
      · (refine X.seq ?_)
        refine X.region ?_
        refine O.assign ?_
        refine O.assign ?_
        refine O.assign ?_
        refine O.assign ?_
        refine XO.nil ?_
        refine X.ret4 Tryd.func14 ?_
        have hr : r ≠ [] := by
          rintro rfl
          simp only [List.length_nil, Bool.or_eq_true, decide_eq_true_eq] at c5
          rcases c5 with h | h
          · simp at h
          · omega
        exact fun w' hs => readR_fault (by rw [parseF, if_neg (by omega), parse_rest hp hr]) hs
      · have hr : r = [] := by
          simp only [Bool.or_eq_false_iff, decide_eq_false_iff_not] at c5
          exact List.eq_nil_of_length_eq_zero (by omega)
        subst hr
        have hpar : parse s.data.toList = some t := parse_some.2 hp
        (refine X.skip ?_; refine X.seq ?_; refine X.seq ?_)
        refine X.region ?_
        refine O.assign ?_
        refine XO.nil ?_
        (refine X.block ?_)
        refine X.loop (γ := Nat) (fun j => j ≤ nw.length ∧ ∀ i (h : i < nw.length), i < j → nw[i].work ≤ 20) (fun j => [⟨6, true, .pointer (some ⟨b14, 0, none⟩)⟩, ⟨7, true, .pointer (some ⟨b7, 0, none⟩)⟩, ⟨8, true, .int .i64 j⟩])
          (fun j => St w0 noS [HP.blk b7 (.cells #[.slice fA1 (firsts t 0).length fc1, .slice lA1 (lasts t 0).length lc1, .int .i64 (work capR t), .int .i64 (span capR t)] 93 (0, 0)), HP.blk b14 (rC s (s.size - ([] : L).length) A1 cc1 nw.length 0), HP.own 46 2 (.slice A1 nw.length cc1) nw.length (planRow nw), HP.rd (NeedsOK nw)])
          (fun j => nw.length - j) 0 ⟨Nat.zero_le _, fun i _ h => by omega⟩ (by repeat (first | exact Sub.nil | refine Sub.cons rfl (by first | rfl | simp) ?_)) (fun w hs => hs.perm (by repeat (first | exact Rems.nil | (apply Rems.cons; focus (repeat (first | with_reducible exact Rem.here | with_reducible apply Rem.there)))))) ?_
        rintro j ⟨j1, j2⟩ next
        try dsimp only at j1 j2 ⊢
        (refine X.seq ?_; refine X.seq ?_)
        refine X.region ?_
        refine O.move ?_
        refine O.move ?_
        refine O.nilCheck ?_
        (first | refine O.fieldB0 td91_2 ?_ | refine O.fieldA td91_2 ?_ | refine O.fieldB td91_2 ?_)
        (first | refine O.loadB tf33 ?_ | refine O.loadO tf33 (by first | assumption | (simp only [Nat.add_zero, Nat.zero_add]; assumption)) ?_ | refine O.loadOwn tf33 ?_)
        refine O.lenSlice tl33 ?_
        refine O.lss ?_
        refine XO.nil ?_
        refine X.cond rfl (fun c8 => ?_) (fun c8 => ?_)
        · have hj : j < nw.length := by have := of_decide_eq_true c8; omega
          have hcw : (planRow nw)[j * 2 + 0]? = some (.int .i64 nw[j].work) := planRow_at0 nw j hj
          refine X.fact (fun w' hs => (hs.own_reads (.there (.there .here))).addr (j := 0) (by rw [planRow_length]; omega)) ?_
          rintro ⟨pad, rfl⟩
          (refine X.skip ?_; refine X.seq ?_; refine X.block ?_; refine X.seq ?_)
          refine X.region ?_
          refine O.move ?_
          refine O.nilCheck ?_
          (first | refine O.fieldB0 td91_2 ?_ | refine O.fieldA td91_2 ?_ | refine O.fieldB td91_2 ?_)
          (first | refine O.loadB tf33 ?_ | refine O.loadO tf33 (by first | assumption | (simp only [Nat.add_zero, Nat.zero_add]; assumption)) ?_ | refine O.loadOwn tf33 ?_)
          refine O.move ?_
          (first | refine O.indexBN tl33 ?_ | refine O.indexAddrN tl33 ?_)
          (first | refine O.fieldB0 td46_0 ?_ | refine O.fieldA td46_0 ?_ | refine O.fieldB td46_0 ?_)
          refine O.loadOwn tf3 ?_ (hv := hcw)
          refine O.gtr ?_
          refine XO.nil ?_
          refine X.cond rfl (fun c10 => ?_) (fun c10 => ?_)
          · (refine X.seq ?_)
            refine X.region ?_
            refine O.assign ?_
            refine O.assign ?_
            refine O.assign ?_
            refine O.assign ?_
            refine XO.nil ?_
            refine X.ret4 Tryd.func14 ?_
            have hov : over capR t = true := by
              rw [over, ← hspec, List.any_map, List.any_eq_true]
              exact ⟨nw[j], List.getElem_mem hj, by have := of_decide_eq_true c10; simp only [Function.comp, decide_eq_true_eq]; exact this⟩
            exact fun w' hs => readR_fault (by rw [parseF, if_neg (by omega), hpar]; dsimp only; rw [if_pos hov]) hs
          · (refine X.skip ?_; refine X.inBlock ?_)
            refine X.region ?_
            refine O.move ?_
            refine O.add ?_
            refine O.assign ?_
            refine XO.nil ?_
            refine X.st (fun w hs => hs.perm (by repeat (first | exact Rems.nil | (apply Rems.cons; focus (repeat (first | with_reducible exact Rem.here | with_reducible apply Rem.there)))))) (X.sub (by repeat (first | exact Sub.nil | refine Sub.cons rfl (by first | rfl | simp) ?_)) (next (j + 1) (⟨hj, fun i h hi => if h1 : i < j then j2 i h h1 else (by obtain rfl : i = j := (by omega); exact Int.not_lt.1 (of_decide_eq_false c10))⟩) (by omega)))
        · have hje : j = nw.length := by have := of_decide_eq_false c8; omega
          have hov : over capR t = false := by
            rw [over, ← hspec, List.any_map, List.any_eq_false]
            intro x hx
            obtain ⟨i, hi, rfl⟩ := List.getElem_of_mem hx
            have := j2 i hi (by omega)
            simp only [Function.comp, decide_eq_true_eq]
            exact Int.not_lt.2 this
          (refine X.exit rfl ?_; refine X.seq ?_; refine X.seq ?_)
          refine X.region ?_
          refine O.move ?_
          refine O.nilCheck ?_
          (first | refine O.fieldB0 td91_2 ?_ | refine O.fieldA td91_2 ?_ | refine O.fieldB td91_2 ?_)
          (first | refine O.loadB tf33 ?_ | refine O.loadO tf33 (by first | assumption | (simp only [Nat.add_zero, Nat.zero_add]; assumption)) ?_ | refine O.loadOwn tf33 ?_)
          refine O.lenSlice tl33 ?_
          refine O.gtr ?_
          refine XO.nil ?_
          refine X.cond rfl (fun c12 => ?_) (fun c12 => ?_)
          · (refine X.seq ?_)
            refine X.region ?_
            refine O.assign ?_
            refine O.assign ?_
            refine O.assign ?_
            refine O.assign ?_
            refine XO.nil ?_
            refine X.ret4 Tryd.func14 ?_
            exact fun w' hs => readR_fault (by rw [parseF, if_neg (by omega), hpar]; dsimp only; rw [hov, if_neg (by decide), if_pos (by have := of_decide_eq_true c12; omega)]) hs
          · (refine X.skip ?_; refine X.seq ?_)
            refine X.regionR mixed (by kernel_rfl) ?_
            refine O.move ?_
            refine O.nilCheck ?_
            (first | refine O.fieldB0 td91_2 ?_ | refine O.fieldA td91_2 ?_ | refine O.fieldB td91_2 ?_)
            (first | refine O.loadB tf33 ?_ | refine O.loadO tf33 (by first | assumption | (simp only [Nat.add_zero, Nat.zero_add]; assumption)) ?_ | refine O.loadOwn tf33 ?_)
            (first | refine O.fieldB0 td93_2 ?_ | refine O.fieldA td93_2 ?_ | refine O.fieldB td93_2 ?_)
            (first | refine O.loadB tf3 ?_ | refine O.loadO tf3 (by first | assumption | (simp only [Nat.add_zero, Nat.zero_add]; assumption)) ?_ | refine O.loadOwn tf3 ?_)
            (first | refine O.fieldB0 td93_3 ?_ | refine O.fieldA td93_3 ?_ | refine O.fieldB td93_3 ?_)
            (first | refine O.loadB tf3 ?_ | refine O.loadO tf3 (by first | assumption | (simp only [Nat.add_zero, Nat.zero_add]; assumption)) ?_ | refine O.loadOwn tf3 ?_)
            refine O.assign ?_
            refine O.assign ?_
            refine O.assign ?_
            refine O.assign ?_
            refine XO.nilS ?_
            refine XO.nil ?_
            refine X.ret4 Tryd.func14 ?_
            refine fun w' hs => ?_
            have hok : parseF capR s.data.toList = .ok t := by rw [parseF, if_neg (by omega), hpar]; dsimp only; rw [hov, if_neg (by decide), if_neg (by have := of_decide_eq_false c12; omega)]
            refine ⟨⟨A1, cc1, nw, work capR t, span capR t, 0⟩, by unfold ParsedR; rw [hok]; exact ⟨hspec, rfl, rfl, rfl⟩, rfl, ?_⟩
            have a1 := (hs.perm (L1 := [HP.own 46 2 (.slice A1 nw.length cc1) nw.length (planRow nw), HP.rd (NeedsOK nw)]) (by repeat (first | exact Rems.nil | (apply Rems.cons; focus (repeat (first | with_reducible exact Rem.here | with_reducible apply Rem.there)))))).rd_own.rd_and
            exact a1.rd_mono (fun w h => ⟨h.1, h.2⟩)
    · obtain ⟨hp, hg⟩ := hp
      dsimp only [smV, smL] at hp hg ⊢
      simp only [List.cons_append, List.nil_append]
      refine O.alloc tz93 (fun b7 hb7 => ?_)
      refine O.store _ ts93 ?_
      refine XO.nil ?_
      (refine X.seq ?_; refine X.seq ?_)
      refine X.region ?_
      refine O.move ?_
      refine O.nilCheck ?_
      (first | refine O.fieldB0 td91_3 ?_ | refine O.fieldA td91_3 ?_ | refine O.fieldB td91_3 ?_)
      (first | refine O.loadB tf3 ?_ | refine O.loadO tf3 (by first | assumption | (simp only [Nat.add_zero, Nat.zero_add]; assumption)) ?_ | refine O.loadOwn tf3 ?_)
      refine O.neq ?_
      refine O.move ?_
      refine O.move ?_
      refine O.nilCheck ?_
      (first | refine O.fieldB0 td91_1 ?_ | refine O.fieldA td91_1 ?_ | refine O.fieldB td91_1 ?_)
      (first | refine O.loadB tf3 ?_ | refine O.loadO tf3 (by first | assumption | (simp only [Nat.add_zero, Nat.zero_add]; assumption)) ?_ | refine O.loadOwn tf3 ?_)
      refine O.move ?_
      refine O.lenString tg9 ?_
      refine O.lss ?_
      refine O.pickOr ?_
      refine XO.nil ?_
      refine X.condT rfl (by simp) ?_
      (refine X.seq ?_)
      refine X.region ?_
      refine O.assign ?_
      refine O.assign ?_
      refine O.assign ?_
      refine O.assign ?_
      refine XO.nil ?_
      refine X.ret4 Tryd.func14 ?_
      exact fun w' hs => readR_fault (by rw [parseF, if_neg (by omega), parse_none hp]) hs

/-! ### Measure -/
noncomputable def cxMeas : Cx := ⟨Tryd.prog, 15, 19, []⟩
theorem Measure_calls (s : ByteArray) (w0 : World) (hE : ErrsAt w0) (hlen : s.size ≤ 9223372036854775807) : Calls Tryd.prog 15 #[.string s] w0 fun e w' => ∃ x : PR, Parsed s.data.toList x ∧ e = .returned (.tuple #[.int .i64 x.wk, .int .i64 x.sp, errV x.err]) ∧ St w0 noS [] w' := by
  refine calls_of_X cxMeas [.string s] Tryd.func15 (St.nil w0) ?_
  (refine X.seq ?_)
  refine X.region ?_
  refine O.assign ?_
  refine O.assign ?_
  refine O.assign ?_
  refine XO.nil ?_
  (refine X.seq ?_)
  refine X.region ?_
  refine O.move ?_
  refine O.callN (α := PR) (φ := Parsed s.data.toList) (vo := fun x => .tuple #[.slice x.A x.ts.length x.c, .int .i64 x.wk, .int .i64 x.sp, errV x.err]) (N := fun x => [HP.rd (fun w => PlanAt w x.A x.ts)]) te11 (hc := by intro w hs; exact Parse_calls _ w (hE.below hs.below) (by first | omega | decide | (rw [hsz]; omega))) (next := fun x hx => ?_)
  simp only [List.cons_append, List.nil_append]
  refine O.move ?_
  refine O.extract ?_
  refine O.extract ?_
  refine O.extract ?_
  refine O.extract ?_
  refine O.assign ?_
  refine O.assign ?_
  refine O.assign ?_
  refine O.assign ?_
  refine XO.nil ?_
  (refine X.seq ?_)
  refine X.region ?_
  refine O.move ?_
  refine O.move ?_
  refine O.move ?_
  refine O.assign ?_
  refine O.assign ?_
  refine O.assign ?_
  refine XO.nil ?_
  refine X.ret3 Tryd.func15 ?_
  exact fun w' hs => ⟨x, hx, rfl, hs.drop (L1 := [])⟩

/-! ### the law -/
theorem Parsed.det {s : L} {x y : PR} (hx : Parsed s x) (hy : Parsed s y) : x.wk = y.wk ∧ x.sp = y.sp ∧ x.err = y.err ∧ x.ts.map TaskM.spec = y.ts.map TaskM.spec := by
  unfold Parsed at hx hy
  cases hp : parseF capW s with
  | error e =>
    rw [hp] at hx hy
    rw [hx, hy]
    exact ⟨rfl, rfl, rfl, rfl⟩
  | ok t =>
    rw [hp] at hx hy
    exact ⟨hx.2.1.trans hy.2.1.symm, hx.2.2.1.trans hy.2.2.1.symm, hx.2.2.2.trans hy.2.2.2.symm, hx.1.trans hy.1.symm⟩
noncomputable def cxTells : Cx := ⟨Tryd.prog, 5, 72, []⟩
theorem tells_calls (t : ByteArray) (w0 : World) (hE : ErrsAt w0) (hT : ErrTypeAt w0) (hlen : t.size ≤ maxLen) :
    Calls Tryd.prog 5 #[.string t] w0 fun e w' => e = .returned (.bool true) ∧ Below w0.heap.size w0 w' := by
  unfold maxLen at hlen
  refine calls_of_X cxTells [.string t] Tryd.func5 (St.nil w0) ?_
  (refine X.seq ?_)
  refine X.region ?_
  refine O.assign ?_
  refine XO.nil ?_
  (refine X.seq ?_)
  refine X.region ?_
  refine O.move ?_
  refine O.callN (α := PR) (φ := ParsedR t.data.toList) (vo := fun x => .tuple #[.slice x.A x.ts.length x.c, .int .i64 x.wk, .int .i64 x.sp, .int .i64 x.err]) (N := fun x => [HP.rd (fun w => PlanAt w x.A x.ts)]) te14 (hc := by intro w hs; exact ReadWeave_calls _ w (by omega)) (next := fun x1 hx1 => ?_)
  simp only [List.cons_append, List.nil_append]
  refine O.move ?_
  refine O.extract ?_
  refine O.extract ?_
  refine O.extract ?_
  refine O.extract ?_
  refine O.assign ?_
  refine O.assign ?_
  refine O.assign ?_
  refine O.assign ?_
  refine XO.nil ?_
  (refine X.seq ?_)
  refine X.region ?_
  refine O.move ?_
  refine O.callN (α := PR) (φ := Parsed t.data.toList) (vo := fun x => .tuple #[.slice x.A x.ts.length x.c, .int .i64 x.wk, .int .i64 x.sp, errV x.err]) (N := fun x => [HP.rd (fun w => PlanAt w x.A x.ts)]) te11 (hc := by intro w hs; exact Parse_calls _ w (hE.below hs.below) (by first | omega | decide | (rw [hsz]; omega))) (next := fun x2 hx2 => ?_)
  simp only [List.cons_append, List.nil_append]
  refine O.move ?_
  refine O.extract ?_
  refine O.extract ?_
  refine O.extract ?_
  refine O.extract ?_
  refine O.assign ?_
  refine O.assign ?_
  refine O.assign ?_
  refine O.assign ?_
  refine XO.nil ?_
  (refine X.seq ?_)
  refine X.region ?_
  refine O.move ?_
  refine O.move ?_
  refine O.callB (.bool (decide (x2.err = x1.err))) te12 ?_ (hc := by intro _ w hs; exact Error_calls x2.err x1.err w (errType_below hT hs.below))
  refine O.move ?_
  refine O.move ?_
  refine O.move ?_
  refine O.eql ?_
  refine O.pickAnd ?_
  refine O.move ?_
  refine O.move ?_
  refine O.move ?_
  refine O.eql ?_
  refine O.pickAnd ?_
  refine O.assign ?_
  refine XO.nil ?_
  have h1 := hx1.to
  obtain ⟨d1, d2, d3, d4⟩ := Parsed.det hx2 h1
  (refine X.seq ?_)
  refine X.region ?_
  refine O.move ?_
  refine O.move ?_
  refine O.callB (.bool (decide (x2.ts.map TaskM.spec = x1.ts.map TaskM.spec))) te13 ?_ (hc := by intro _ w hs; exact Plan_calls x2.A x1.A x2.c x1.c x2.ts x1.ts w (hs.rd (φ := fun w => PlanAt w x2.A x2.ts) (by repeat (first | with_reducible exact Rem.here | with_reducible apply Rem.there))) (hs.rd (φ := fun w => PlanAt w x1.A x1.ts) (by repeat (first | with_reducible exact Rem.here | with_reducible apply Rem.there))) hx2.lens.1 h1.lens.1 hx2.lens.2 h1.lens.2)
  refine O.assign ?_
  refine XO.nil ?_
  (refine X.seq ?_)
  refine X.region ?_
  refine O.move ?_
  refine O.callN (α := PR) (φ := Parsed t.data.toList) (vo := fun x => .tuple #[.int .i64 x.wk, .int .i64 x.sp, errV x.err]) (N := fun x => []) te15 (hc := by intro w hs; exact Measure_calls _ w (hE.below hs.below) (by omega)) (next := fun x3 hx3 => ?_)
  simp only [List.cons_append, List.nil_append]
  refine O.move ?_
  refine O.extract ?_
  refine O.extract ?_
  refine O.extract ?_
  refine O.assign ?_
  refine O.assign ?_
  refine O.assign ?_
  refine XO.nil ?_
  (refine X.seq ?_)
  refine X.region ?_
  refine O.move ?_
  refine O.move ?_
  refine O.callB (.bool (decide (x3.err = x1.err))) te12 ?_ (hc := by intro _ w hs; exact Error_calls x3.err x1.err w (errType_below hT hs.below))
  refine O.move ?_
  refine O.move ?_
  refine O.move ?_
  refine O.eql ?_
  refine O.pickAnd ?_
  refine O.move ?_
  refine O.move ?_
  refine O.move ?_
  refine O.eql ?_
  refine O.pickAnd ?_
  refine O.assign ?_
  refine XO.nil ?_
  (refine X.seq ?_)
  refine X.region ?_
  refine O.move ?_
  refine O.move ?_
  refine O.move ?_
  refine O.pickAnd ?_
  refine O.move ?_
  refine O.move ?_
  refine O.pickAnd ?_
  refine O.assign ?_
  refine XO.nil ?_
  refine X.ret1 Tryd.func5 ?_
  have d5 := Parsed.det hx3 h1
  refine fun w' hs => ⟨?_, hs.below⟩
  rw [d1, d2, d3, d4, d5.1, d5.2.1, d5.2.2.1]
  simp
end Go.Proofs.YtgegppbjpaeljaaDoor.Ws
