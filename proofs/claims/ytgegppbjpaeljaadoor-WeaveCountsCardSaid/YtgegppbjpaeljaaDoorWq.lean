/- Proved here: yardlaw4.WeaveDeep returns true for every text and number, where errors' type and strconv's errors are as laid. -/
import Derived.Test.YtgegppbjpaeljaaDoorWy
import Derived.Test.YtgegppbjpaeljaaDoorAs
set_option linter.unusedVariables false
set_option linter.unusedSimpArgs false
set_option maxRecDepth 10000
namespace Go.X.Wv
theorem tasks_needs (cap : L → Int) : ∀ (t : T) (n : Nat) (x : Int × List Int), x ∈ tasks cap t n → x.2.length ≤ size t
  | .num ds, n, x, h => by
    simp only [tasks, List.mem_singleton] at h
    subst h
    simp
  | .seq a b, n, x, h => by
    simp only [tasks, List.mem_append, size] at h ⊢
    rcases h with h | h
    · have := tasks_needs cap a n x h; omega
    · obtain ⟨j, hj⟩ := List.mem_iff_getElem?.1 h
      simp only [link, List.getElem?_mapIdx] at hj
      cases hl : (tasks cap b (n + size a))[j]? with
      | none => rw [hl] at hj; cases hj
      | some y =>
        rw [hl] at hj
        simp only [Option.map_some, Option.some.injEq] at hj
        split at hj
        · subst hj
          have := lasts_length a n
          simp only [List.length_map]
          omega
        · subst hj
          have := tasks_needs cap b _ y (List.mem_of_getElem? hl)
          omega
  | .par a b, n, x, h => by
    simp only [tasks, List.mem_append, size] at h ⊢
    rcases h with h | h
    · have := tasks_needs cap a n x h; omega
    · have := tasks_needs cap b _ x h; omega
theorem parse_size {s : L} {t : T} (h : parse s = some t) : size t ≤ s.length := by
  have := (beside_fact _ (parse_some.1 h)).2
  omega
theorem parseF_ok {cap : L → Int} {s : L} {t : T} (h : parseF cap s = .ok t) : s.length ≤ 200 ∧ parse s = some t ∧ over cap t = false ∧ size t ≤ 30 := by
  unfold parseF at h
  split at h
  · cases h
  · rename_i h1
    split at h
    · cases h
    · rename_i t' h2
      split at h
      · cases h
      · rename_i h3
        split at h
        · cases h
        · rename_i h4
          simp only [Except.ok.injEq] at h
          subst h
          exact ⟨by omega, h2, by simpa using h3, by omega⟩
theorem parseF_of {cap : L → Int} {s : L} {t : T} (h1 : s.length ≤ 200) (h2 : parse s = some t) (h3 : over cap t = false) (h4 : size t ≤ 30) : parseF cap s = .ok t := by
  rw [parseF, if_neg (by omega), h2]
  dsimp only
  rw [h3, if_neg (by decide), if_neg (by omega)]
end Go.X.Wv
namespace Go.Proofs.YtgegppbjpaeljaaDoor.Wv
open Go Go.X Go.X.Wv Go.RowKit Go.Proofs.YtgegppbjpaeljaaDoor Go.Proofs.YtgegppbjpaeljaaDoor.Ty Go.Proofs.YtgegppbjpaeljaaDoor.Pl Go.Proofs.YtgegppbjpaeljaaDoor.As

theorem Parsed.cases {s : L} {x : PR} (h : Parsed s x) : (∃ e, parseF capW s = .error e ∧ x = ⟨none, 0, [], 0, 0, e⟩ ∧ e ≠ 0) ∨ (∃ t, parseF capW s = .ok t ∧ x.ts.map TaskM.spec = tasks capW t 0 ∧ x.wk = work capW t ∧ x.sp = span capW t ∧ x.err = 0) := by
  unfold Parsed at h
  cases hp : parseF capW s with
  | error e =>
    rw [hp] at h
    refine .inl ⟨e, rfl, h, ?_⟩
    unfold parseF at hp
    repeat' split at hp
    all_goals (first | (cases hp; done) | (simp only [Except.error.injEq] at hp; omega))
  | ok t =>
    rw [hp] at h
    exact .inr ⟨t, rfl, h⟩
theorem errType_below {w w' : World} (h : ErrTypeAt w) (hb : Below w.heap.size w w') : ErrTypeAt w' := (hb.cell (World.block_lt_of_cell? w _ h)).trans h
theorem bytes_eta (s : ByteArray) : (⟨s.data.toList.toArray⟩ : ByteArray) = s := by cases s; simp
theorem Parsed.lens {s : L} {x : PR} (h : Parsed s x) : x.ts.length ≤ maxLen ∧ ∀ t ∈ x.ts, t.needs.length ≤ maxLen := by
  rcases h.cases with ⟨e, h1, rfl, h2⟩ | ⟨t, h1, h2, _⟩
  · exact ⟨by simp [maxLen], fun t ht => by cases ht⟩
  · obtain ⟨a1, a2, a3, a4⟩ := parseF_ok h1
    have h3 := congrArg List.length h2
    rw [List.length_map, tasks_length] at h3
    refine ⟨by simp only [maxLen]; omega, fun u hu => ?_⟩
    have h4 : u.spec ∈ tasks capW t 0 := by rw [← h2]; exact List.mem_map_of_mem hu
    have h5 := tasks_needs capW t 0 _ h4
    simp only [TaskM.spec] at h5
    simp only [maxLen]
    omega
noncomputable def cxDeep : Cx := ⟨Tryd.prog, 4, 97, []⟩
theorem deep_calls (t : ByteArray) (n : Int) (w0 : World) (hE : ErrsAt w0) (hT : ErrTypeAt w0) (hlen : t.size ≤ maxLen) :
    Calls Tryd.prog 4 #[.string t, .int .i64 n] w0 fun e w' => e = .returned (.bool true) ∧ Below w0.heap.size w0 w' := by
  have hfn := Tryd.func4
  unfold maxLen at hlen
  have hlt : t.data.toList.length = t.size := by rw [Array.length_toList]; rfl
  refine calls_of_X cxDeep [.string t, .int .i64 n] hfn (St.nil w0) ?_
  (refine X.seq ?_)
  refine X.region ?_
  refine O.assign ?_
  refine XO.nil ?_
  (refine X.seq ?_)
  refine X.region ?_
  refine O.callN (α := PR) (φ := Parsed [40, 40, 50, 41, 41]) (vo := fun x => .tuple #[.slice x.A x.ts.length x.c, .int .i64 x.wk, .int .i64 x.sp, errV x.err]) (N := fun x => [HP.rd (fun w => PlanAt w x.A x.ts)]) te11 (hc := by intro w hs; exact Parse_calls _ w (hE.below hs.below) (by first | omega | decide | (rw [hsz]; omega))) (next := fun x1 hx1 => ?_)
  simp only [List.cons_append, List.nil_append]
  refine O.move ?_
  refine O.extract ?_
  refine O.extract ?_
  refine O.extract ?_
  refine O.extract ?_
  refine O.assign ?_
  refine O.assign ?_
  refine O.assign ?_
  refine O.assign ?_
  refine XO.nil ?_
  obtain ⟨f1, f2, f3, f4⟩ : x1.ts.length = 1 ∧ x1.wk = 2 ∧ x1.sp = 2 ∧ x1.err = 0 := by
    have hp : parseF capW [40, 40, 50, 41, 41] = .ok (.num [50]) := by rfl
    unfold Parsed at hx1
    rw [hp] at hx1
    obtain ⟨g1, g2, g3, g4⟩ := hx1
    refine ⟨?_, g2.trans (by rfl), g3.trans (by rfl), g4⟩
    have := congrArg List.length g1
    rw [List.length_map] at this
    exact this
  (refine X.seq ?_; refine X.seq ?_)
  refine X.region ?_
  refine O.move ?_
  (first | refine Go.Proofs.YtgegppbjpaeljaaDoor.O.neErr ?_ | refine O.neNil ?_ | refine O.nilNe ?_)
  refine O.move ?_
  refine O.move ?_
  refine O.lenSlice tl33 ?_
  refine O.neq ?_
  refine O.pickOr ?_
  refine O.move ?_
  refine O.move ?_
  refine O.neq ?_
  refine O.pickOr ?_
  refine O.move ?_
  refine O.move ?_
  refine O.neq ?_
  refine O.pickOr ?_
  refine XO.nil ?_
  refine X.condF rfl (by simp [f1, f2, f3, f4]) ?_
  (refine X.skip ?_; refine X.seq ?_)
  refine X.region ?_
  refine O.move ?_
  refine O.callN (α := PR) (φ := Parsed t.data.toList) (vo := fun x => .tuple #[.slice x.A x.ts.length x.c, .int .i64 x.wk, .int .i64 x.sp, errV x.err]) (N := fun x => [HP.rd (fun w => PlanAt w x.A x.ts)]) te11 (hc := by intro w hs; exact Parse_calls _ w (hE.below hs.below) (by first | omega | decide | (rw [hsz]; omega))) (next := fun x2 hx2 => ?_)
  simp only [List.cons_append, List.nil_append]
  refine O.move ?_
  refine O.extract ?_
  refine O.extract ?_
  refine O.extract ?_
  refine O.extract ?_
  refine O.assign ?_
  refine O.assign ?_
  refine O.assign ?_
  refine O.assign ?_
  refine XO.nil ?_
  (refine X.seq ?_; refine X.seq ?_)
  refine X.region ?_
  refine O.move ?_
  (first | refine Go.Proofs.YtgegppbjpaeljaaDoor.O.neErr ?_ | refine O.neNil ?_ | refine O.nilNe ?_)
  refine O.move ?_
  refine O.move ?_
  refine O.lss ?_
  refine O.pickOr ?_
  refine O.move ?_
  refine O.move ?_
  refine O.gtr ?_
  refine O.pickOr ?_
  refine XO.nil ?_
  refine X.cond rfl (fun c5 => ?_) (fun c5 => ?_)
  · (refine X.seq ?_)
    refine X.region ?_
    refine O.assign ?_
    refine XO.nil ?_
    refine X.ret1 Tryd.func4 ?_
    exact fun w' hs => ⟨rfl, hs.below⟩
  · simp only [Bool.or_eq_false_iff, Bool.not_eq_false', decide_eq_true_eq, decide_eq_false_iff_not] at c5
    obtain ⟨⟨e2, n1⟩, n2⟩ := c5
    rcases hx2.cases with ⟨e, g1, rfl, g2⟩ | ⟨tr, g1, g2, g3, g4, g5⟩
    · exact absurd e2 g2
    obtain ⟨k1, k2, k3, k4⟩ := parseF_ok g1
    (refine X.skip ?_; refine X.seq ?_)
    refine X.region ?_
    refine O.move ?_
    refine O.assign ?_
    refine XO.nil ?_
    (refine X.seq ?_; refine X.seq ?_)
    refine X.region ?_
    refine O.assign ?_
    refine XO.nil ?_
    (refine X.block ?_)
    refine X.loop (γ := Nat) (fun j => (j : Int) ≤ n) (fun j => [⟨1, true, .int .i64 n⟩, ⟨9, true, .slice x2.A x2.ts.length x2.c⟩, ⟨10, true, .int .i64 x2.wk⟩, ⟨11, true, .int .i64 x2.sp⟩, ⟨13, true, .string ⟨(signs j t.data.toList).toArray⟩⟩, ⟨14, true, .int .i64 j⟩]) (fun j => St w0 noS [HP.rd (fun w => PlanAt w x2.A x2.ts)]) (fun j => n.toNat - j) (0) ((by simp only [Int.natCast_zero]; omega)) (by repeat (first | exact Sub.nil | refine Sub.cons rfl (by first | rfl | simp) ?_)) (fun _ h => h.perm (by repeat (first | exact Rems.nil | (apply Rems.cons; focus (repeat (first | with_reducible exact Rem.here | with_reducible apply Rem.there)))))) ?_
    rintro j hj next
    try dsimp only at *
    (refine X.seq ?_; refine X.seq ?_)
    refine X.region ?_
    refine O.move ?_
    refine O.move ?_
    refine O.lss ?_
    refine XO.nil ?_
    refine X.cond rfl (fun c9 => ?_) (fun c9 => ?_)
    · have hjn : (j : Int) < n := of_decide_eq_true c9
      have hsl := signs_length t.data.toList j
      have hsz : (ByteArray.mk (signs j t.data.toList).toArray).size = t.size + 2 * j := by show (signs j t.data.toList).toArray.size = _; rw [List.size_toArray, hsl, hlt]
      (refine X.skip ?_; refine X.seq ?_; refine X.block ?_)
      refine X.region ?_
      refine O.move ?_
      refine O.addStr ?_ (hl := by intro _; rw [hsz]; show 1 + _ ≤ _; omega)
      refine O.addStr ?_ (hl := by intro _; rw [ByteArray.size_append, hsz]; show 1 + _ + 1 ≤ _; omega)
      have hstr : ByteArray.mk #[40] ++ ⟨(signs j t.data.toList).toArray⟩ ++ ⟨#[41]⟩ = ⟨(signs (j + 1) t.data.toList).toArray⟩ := by
        apply ByteArray.ext
        simp [signs, ByteArray.data_append]
      rw [hstr]
      refine O.assign ?_
      refine XO.nil ?_
      (refine X.inBlock ?_)
      refine X.region ?_
      refine O.move ?_
      refine O.add ?_
      refine O.assign ?_
      refine XO.nil ?_
      exact X.sub (by repeat (first | exact Sub.nil | refine Sub.cons rfl (by first | rfl | simp) ?_)) (next (j + 1) ((by simp only [Int.natCast_add, Int.natCast_one]; omega)) (by omega))
    · have hjn : (j : Int) = n := by have := of_decide_eq_false c9; omega
      have hsl := signs_length t.data.toList j
      have hsz : (ByteArray.mk (signs j t.data.toList).toArray).size = t.size + 2 * j := by show (signs j t.data.toList).toArray.size = _; rw [List.size_toArray, hsl, hlt]
      (refine X.exit rfl ?_; refine X.seq ?_)
      refine X.region ?_
      refine O.move ?_
      refine O.callN (α := PR) (φ := Parsed (signs j t.data.toList)) (vo := fun x => .tuple #[.slice x.A x.ts.length x.c, .int .i64 x.wk, .int .i64 x.sp, errV x.err]) (N := fun x => [HP.rd (fun w => PlanAt w x.A x.ts)]) te11 (hc := by intro w hs; exact Parse_calls _ w (hE.below hs.below) (by first | omega | decide | (rw [hsz]; omega))) (next := fun x3 hx3 => ?_)
      simp only [List.cons_append, List.nil_append]
      refine O.move ?_
      refine O.extract ?_
      refine O.extract ?_
      refine O.extract ?_
      refine O.extract ?_
      refine O.assign ?_
      refine O.assign ?_
      refine O.assign ?_
      refine O.assign ?_
      refine XO.nil ?_
      (refine X.seq ?_; refine X.seq ?_)
      refine X.region ?_
      refine O.move ?_
      refine O.lenString tg9 ?_
      refine O.gtr ?_
      refine XO.nil ?_
      refine X.cond rfl (fun c13 => ?_) (fun c13 => ?_)
      · have hbig : 200 < (signs j t.data.toList).length := by have := of_decide_eq_true c13; omega
        have he3 : x3.err = 4 := by
          unfold Parsed at hx3
          rw [parseF, if_pos hbig] at hx3
          rw [hx3]
        (refine X.seq ?_)
        refine X.region ?_
        refine O.move ?_
        refine O.callB (.bool (decide (x3.err = 4))) te12 ?_ (hc := by intro _ w hs; exact Error_calls x3.err 4 w (errType_below hT hs.below))
        refine O.assign ?_
        refine XO.nil ?_
        refine X.ret1 Tryd.func4 ?_
        exact fun w' hs => ⟨by rw [he3]; rfl, hs.below⟩
      · have hbig : (signs j t.data.toList).length ≤ 200 := by have := of_decide_eq_false c13; omega
        have hok := parseF_of (cap := capW) hbig (parse_signsN k2 j) k3 k4
        obtain ⟨p1, p2, p3, p4⟩ : x3.ts.map TaskM.spec = tasks capW tr 0 ∧ x3.wk = work capW tr ∧ x3.sp = span capW tr ∧ x3.err = 0 := by
          unfold Parsed at hx3
          rw [hok] at hx3
          exact hx3
        (refine X.skip ?_; refine X.seq ?_)
        refine X.region ?_
        refine O.move ?_
        refine O.move ?_
        refine O.callB (.bool (decide (x2.ts.map TaskM.spec = x3.ts.map TaskM.spec))) te13 ?_ (hc := by intro _ w hs; exact Plan_calls x2.A x3.A x2.c x3.c x2.ts x3.ts w (hs.rd (φ := fun w => PlanAt w x2.A x2.ts) (by repeat (first | with_reducible exact Rem.here | with_reducible apply Rem.there))) (hs.rd (φ := fun w => PlanAt w x3.A x3.ts) (by repeat (first | with_reducible exact Rem.here | with_reducible apply Rem.there))) hx2.lens.1 hx3.lens.1 hx2.lens.2 hx3.lens.2)
        refine O.assign ?_
        refine XO.nil ?_
        (refine X.seq ?_)
        refine X.region ?_
        refine O.move ?_
        (first | refine Go.Proofs.YtgegppbjpaeljaaDoor.O.eqErr ?_ | refine O.eqNil ?_ | refine O.nilEq ?_)
        refine O.move ?_
        refine O.move ?_
        refine O.pickAnd ?_
        refine O.move ?_
        refine O.move ?_
        refine O.move ?_
        refine O.eql ?_
        refine O.pickAnd ?_
        refine O.move ?_
        refine O.move ?_
        refine O.move ?_
        refine O.eql ?_
        refine O.pickAnd ?_
        refine O.assign ?_
        refine XO.nil ?_
        refine X.ret1 Tryd.func4 ?_
        exact fun w' hs => ⟨by rw [p2, p3, p4, g3, g4, g2, p1]; simp, hs.below⟩
end Go.Proofs.YtgegppbjpaeljaaDoor.Wv
