/- Proved here: yardlaw1.WeaveCounts returns true for every two texts, where errors' type and strconv's errors are as laid. -/
import Derived.Test.YtgegppbjpaeljaaDoorWt
import Derived.Test.YtgegppbjpaeljaaDoorPd
import Derived.Test.YtgegppbjpaeljaaDoorPv
set_option linter.unusedVariables false
set_option linter.unusedSimpArgs false
set_option maxRecDepth 10000
namespace Go.X.Wv
open Go.X.Pn
def posT : T → Prop
  | .num ds => 1 ≤ val ds
  | .seq a b => posT a ∧ posT b
  | .par a b => posT a ∧ posT b
theorem foldl_ge : ∀ (l : L) (n : Nat), n ≤ l.foldl (fun n b => n * 10 + (b.toNat - 48)) n
  | [], _ => Nat.le_refl _
  | b :: r, n => Nat.le_trans (by omega) (foldl_ge r (n * 10 + (b.toNat - 48)))
theorem number_posT {s : L} {t : T} {r : L} (h : number s = some (t, r)) : posT t := by
  unfold number at h
  split at h
  · cases h
  · rename_i hc
    simp only [Option.some.injEq, Prod.mk.injEq] at h
    obtain ⟨rfl, rfl⟩ := h
    simp only [Bool.or_eq_true, not_or] at hc
    obtain ⟨h1, h2⟩ := hc
    cases s with
    | nil => exact absurd rfl h1
    | cons b r =>
      have hb : isDig b = true := by
        cases hb : isDig b with
        | true => rfl
        | false => rw [List.takeWhile_cons, hb] at h1; exact absurd rfl h1
      show 1 ≤ val ((b :: r).takeWhile isDig)
      rw [List.takeWhile_cons, hb]
      simp only [isDig, Bool.and_eq_true, decide_eq_true_eq] at hb
      have h48 : b.toNat ≠ 48 := fun e => h2 (by
        have : b = 48 := UInt8.toNat_inj.1 e
        rw [this]
        rfl)
      unfold val
      simp only [if_true, List.foldl_cons]
      have := foldl_ge (r.takeWhile isDig) (0 * 10 + (b.toNat - 48))
      omega
mutual
theorem one_posT : ∀ (f : Nat) {s : L} {t : T} {r : L}, one f s = some (t, r) → posT t
  | 0, s, t, r, h => by simp [one] at h
  | f + 1, s, t, r, h => by
    unfold one at h
    split at h
    · split at h
      · rename_i c r1 hb
        have h1 := beside_posT f hb
        split at h
        · simp only [Option.some.injEq, Prod.mk.injEq] at h
          obtain ⟨rfl, rfl⟩ := h
          exact h1
        · cases h
      · cases h
    · exact number_posT h
theorem behind_posT : ∀ (f : Nat) {s : L} {t : T} {r : L}, behind f s = some (t, r) → posT t
  | 0, s, t, r, h => by simp [behind] at h
  | f + 1, s, t, r, h => by
    unfold behind at h
    split at h
    · rename_i c r1 hb
      exact behindL_posT f (one_posT f hb) h
    · cases h
theorem behindL_posT : ∀ (f : Nat) {c : T} {s : L} {t : T} {r : L}, posT c → behindL f c s = some (t, r) → posT t
  | 0, c, s, t, r, hc, h => by simp [behindL] at h
  | f + 1, c, s, t, r, hc, h => by
    unfold behindL at h
    split at h
    · split at h
      · rename_i d r1 hb
        exact behindL_posT f (c := .seq c d) ⟨hc, one_posT f hb⟩ h
      · cases h
    · simp only [Option.some.injEq, Prod.mk.injEq] at h
      obtain ⟨rfl, rfl⟩ := h
      exact hc
theorem beside_posT : ∀ (f : Nat) {s : L} {t : T} {r : L}, beside f s = some (t, r) → posT t
  | 0, s, t, r, h => by simp [beside] at h
  | f + 1, s, t, r, h => by
    unfold beside at h
    split at h
    · rename_i c r1 hb
      exact besideL_posT f (behind_posT f hb) h
    · cases h
theorem besideL_posT : ∀ (f : Nat) {c : T} {s : L} {t : T} {r : L}, posT c → besideL f c s = some (t, r) → posT t
  | 0, c, s, t, r, hc, h => by simp [besideL] at h
  | f + 1, c, s, t, r, hc, h => by
    unfold besideL at h
    split at h
    · split at h
      · rename_i d r1 hb
        exact besideL_posT f (c := .par c d) ⟨hc, behind_posT f hb⟩ h
      · cases h
    · simp only [Option.some.injEq, Prod.mk.injEq] at h
      obtain ⟨rfl, rfl⟩ := h
      exact hc
end
theorem parse_posT {s : L} {t : T} (h : parse s = some t) : posT t := by
  unfold parse at h
  split at h
  · rename_i t' hb
    simp only [Option.some.injEq] at h
    subst h
    exact beside_posT _ hb
  · cases h
theorem tasks_fst {cap : L → Int} (h : ∀ ds, 1 ≤ val ds → 1 ≤ cap ds) : ∀ (t : T) (n : Nat), posT t → ∀ y ∈ (tasks cap t n).map (·.1), 1 ≤ y
  | .num ds, n, hp, y, hy => by
    simp only [tasks, List.map_cons, List.map_nil, List.mem_singleton] at hy
    subst hy
    exact h ds hp
  | .seq a b, n, hp, y, hy => by
    rw [tasks, List.map_append, link_fst, List.mem_append] at hy
    exact hy.elim (tasks_fst h a _ hp.1 y) (tasks_fst h b _ hp.2 y)
  | .par a b, n, hp, y, hy => by
    rw [tasks, List.map_append, List.mem_append] at hy
    exact hy.elim (tasks_fst h a _ hp.1 y) (tasks_fst h b _ hp.2 y)
end Go.X.Wv
namespace Go.Proofs.YtgegppbjpaeljaaDoor.Wc
open Go Go.X Go.X.Wv Go.X.Pn Go.RowKit Go.Proofs.YtgegppbjpaeljaaDoor Go.Proofs.YtgegppbjpaeljaaDoor.Ty Go.Proofs.YtgegppbjpaeljaaDoor.Pl Go.Proofs.YtgegppbjpaeljaaDoor.As Go.Proofs.YtgegppbjpaeljaaDoor.Wv Go.Proofs.YtgegppbjpaeljaaDoor.Ws Go.Proofs.YtgegppbjpaeljaaDoor.Pw
theorem capW_pos (ds : L) (h : 1 ≤ val ds) : 1 ≤ capW ds := by unfold capW; split <;> omega
theorem ok_of {s : L} {t : T} (h : parseF capW s = .ok t) : Ok (tasks capW t 0) ∧ workL (tasks capW t 0) = work capW t ∧ spanF (tasks capW t 0) = span capW t := by
  obtain ⟨h1, h2, h3, h4⟩ := parseF_ok h
  have h5 : Ok (tasks capW t 0) := weave_ok h4 (fun x hx => ⟨tasks_fst capW_pos t 0 (parse_posT h2) x.1 (List.mem_map_of_mem hx), (tasks_small capW t 0).2 ((over_small capW t).1 h3) x hx⟩)
  exact ⟨h5, weave_work capW t 0, weave_span (fun ds => (capW_le ds).1) h5⟩
theorem size_small {s : L} {t : T} (h : parse s = some t) (ho : small capW t) : (∃ e, parseF capW s = .error e ∧ e = 4) ∨ parseF capW s = .ok t := by
  unfold parseF
  split
  · exact .inl ⟨4, rfl, rfl⟩
  · rw [h]
    dsimp only
    rw [(over_small capW t).2 ho, if_neg (by decide)]
    split
    · exact .inl ⟨4, rfl, rfl⟩
    · exact .inr rfl
theorem Parsed.joined {s : L} {x : PR} {t : T} (h : Parsed s x) (hp : parse s = some t) (ho : small capW t) : (x.err = 4) ∨ (x.err = 0 ∧ x.wk = work capW t ∧ x.sp = span capW t) := by
  unfold Parsed at h
  rcases size_small hp ho with ⟨e, h1, rfl⟩ | h1
  · rw [h1] at h
    rw [h]
    exact .inl rfl
  · rw [h1] at h
    exact .inr ⟨h.2.2.2, h.2.1, h.2.2.1⟩
theorem right_of {s : L} {x : PR} {t : T} (hp : parseF capW s = .ok t) (h : x.ts.map TaskM.spec = tasks capW t 0) : rightF (sp x.ts) = 0 ∧ workL (sp x.ts) = work capW t ∧ spanF (sp x.ts) = span capW t := by
  have h1 : sp x.ts = tasks capW t 0 := h
  obtain ⟨a, b, c⟩ := ok_of hp
  rw [h1]
  exact ⟨ok_iff.2 a, b, c⟩
noncomputable def cxCnt : Cx := ⟨Tryd.prog, 6, 183, []⟩
set_option maxHeartbeats 1000000 in
theorem counts_calls (a b : ByteArray) (w0 : World) (hE : ErrsAt w0) (hT : ErrTypeAt w0) (hla : a.size ≤ maxLen) (hlb : b.size ≤ maxLen) :
    Calls Tryd.prog 6 #[.string a, .string b] w0 fun e w' => e = .returned (.bool true) ∧ Below w0.heap.size w0 w' := by
  unfold maxLen at hla hlb
  have hat : a.data.toList.length = a.size := by rw [Array.length_toList]; rfl
  have hbt : b.data.toList.length = b.size := by rw [Array.length_toList]; rfl
  refine calls_of_X cxCnt [.string a, .string b] Tryd.func6 (St.nil w0) ?_
  (refine X.seq ?_)
  refine X.region ?_
  refine O.assign ?_
  refine XO.nil ?_
  (refine X.seq ?_)
  refine X.region ?_
  refine O.callN (α := PR) (φ := Parsed [50, 59, 40, 51, 124, 52, 41, 59, 49]) (vo := fun x => .tuple #[.slice x.A x.ts.length x.c, .int .i64 x.wk, .int .i64 x.sp, errV x.err]) (N := fun x => [HP.rd (fun w => PlanAt w x.A x.ts)]) te11 (hc := by intro w hs; exact Parse_calls _ w (hE.below hs.below) (by first | omega | decide)) (next := fun x1 hx1 => ?_)
  simp only [List.cons_append, List.nil_append]
  refine O.move ?_
  refine O.extract ?_
  refine O.extract ?_
  refine O.extract ?_
  refine O.extract ?_
  refine O.assign ?_
  refine O.assign ?_
  refine O.assign ?_
  refine O.assign ?_
  refine XO.nil ?_
  have hp : parseF capW [50, 59, 40, 51, 124, 52, 41, 59, 49] = .ok (.seq (.seq (.num [50]) (.par (.num [51]) (.num [52]))) (.num [49])) := by kernel_rfl
  obtain ⟨f1, f2, f3, f4, f5⟩ : x1.ts.length = 4 ∧ x1.wk = 10 ∧ x1.sp = 7 ∧ x1.err = 0 ∧ ∀ h : 3 < x1.ts.length, x1.ts[3].needs.length = 2 := by
    unfold Parsed at hx1
    rw [hp] at hx1
    obtain ⟨g1, g2, g3, g4⟩ := hx1
    refine ⟨?_, g2.trans (by rfl), g3.trans (by rfl), g4, fun h => ?_⟩
    · have := congrArg List.length g1
      rw [List.length_map] at this
      exact this
    · have := congrArg (fun l => (l[3]?).map (·.2.length)) g1
      simp only [List.getElem?_map, List.getElem?_eq_getElem h, Option.map_some, TaskM.spec] at this
      exact Option.some.inj this
  refine X.fact (fun w hs => (hs.rd (φ := fun w => PlanAt w x1.A x1.ts) (by repeat (first | with_reducible exact Rem.here | with_reducible apply Rem.there))).addr 3 (by omega)) (fun hA => ?_)
  obtain ⟨ad, hA⟩ := hA
  have f6 := f5 (by omega)
  rw [hA]
  (refine X.seq ?_; refine X.seq ?_)
  refine X.region ?_
  refine O.move ?_
  (first | refine Go.Proofs.YtgegppbjpaeljaaDoor.O.neErr ?_ | refine O.neNil ?_ | refine O.nilNe ?_)
  refine O.move ?_
  refine O.move ?_
  refine O.lenSlice tl33 ?_
  refine O.neq ?_
  refine O.pickOr ?_
  refine O.move ?_
  refine O.move ?_
  refine O.neq ?_
  refine O.pickOr ?_
  refine O.move ?_
  refine O.move ?_
  refine O.neq ?_
  refine O.pickOr ?_
  refine O.move ?_
  refine O.move ?_
  (first | refine O.indexBN tl33 ?_ | refine O.indexAddrN tl33 ?_)
  (first | refine O.fieldB0 td46_1 ?_ | refine O.fieldA td46_1 ?_ | refine O.fieldB td46_1 ?_)
  refine O.loadF (φ := fun w => PlanAt w (some ad) x1.ts) (v := .slice x1.ts[3].hA x1.ts[3].needs.length x1.ts[3].hc) tf44 (by repeat (first | with_reducible exact Rem.here | with_reducible apply Rem.there)) (fun w h => (plan_cells h 3 (by omega)).2.1) ?_
  refine O.lenSlice tl44 ?_
  refine O.neq ?_
  refine O.pickOr ?_
  refine XO.nil ?_
  refine X.condF rfl (by simp [f1, f2, f3, f4, f6]) ?_
  (refine X.skip ?_; refine X.seq ?_)
  refine X.region ?_
  refine O.move ?_
  refine O.callN (α := PR) (φ := Parsed a.data.toList) (vo := fun x => .tuple #[.slice x.A x.ts.length x.c, .int .i64 x.wk, .int .i64 x.sp, errV x.err]) (N := fun x => [HP.rd (fun w => PlanAt w x.A x.ts)]) te11 (hc := by intro w hs; exact Parse_calls _ w (hE.below hs.below) (by first | omega | decide)) (next := fun x2 hx2 => ?_)
  simp only [List.cons_append, List.nil_append]
  refine O.move ?_
  refine O.extract ?_
  refine O.extract ?_
  refine O.extract ?_
  refine O.extract ?_
  refine O.assign ?_
  refine O.assign ?_
  refine O.assign ?_
  refine O.assign ?_
  refine XO.nil ?_
  (refine X.seq ?_; refine X.seq ?_)
  refine X.region ?_
  refine O.move ?_
  (first | refine Go.Proofs.YtgegppbjpaeljaaDoor.O.neErr ?_ | refine O.neNil ?_ | refine O.nilNe ?_)
  refine XO.nil ?_
  refine X.cond rfl (fun c5 => ?_) (fun c5 => ?_)
  · (refine X.seq ?_)
    refine X.region ?_
    refine O.assign ?_
    refine XO.nil ?_
    refine X.ret1 Tryd.func6 ?_
    exact fun w' hs => ⟨rfl, hs.below⟩
  · have e2 : x2.err = 0 := by simpa using c5
    rcases hx2.cases with ⟨e, g1, rfl, g2⟩ | ⟨ta, g1, g2, g3, g4, g5⟩
    · exact absurd e2 g2
    obtain ⟨k1, k2, k3, k4⟩ := parseF_ok g1
    obtain ⟨r1, r2, r3⟩ := right_of g1 g2
    rw [← g3] at r2
    rw [← g4] at r3
    (refine X.skip ?_; refine X.seq ?_)
    refine X.region ?_
    refine O.move ?_
    refine O.callB (.tuple #[.int .i64 x2.wk, errV 0]) te16 ?_ (hc := by intro _ w hs; exact (Work_calls x2.A x2.c x2.ts w (hs.rd (φ := fun w => PlanAt w x2.A x2.ts) (by repeat (first | with_reducible exact Rem.here | with_reducible apply Rem.there))) hx2.lens.1 hx2.lens.2).mono (fun e w' h => by rw [r1, if_pos rfl, r2] at h; exact h))
    refine O.move ?_
    refine O.extract ?_
    refine O.extract ?_
    refine O.assign ?_
    refine O.assign ?_
    refine XO.nil ?_
    (refine X.seq ?_)
    refine X.region ?_
    refine O.move ?_
    refine O.callB (.tuple #[.int .i64 x2.sp, errV 0]) te17 ?_ (hc := by intro _ w hs; exact (Span_calls x2.A x2.c x2.ts w (hs.rd (φ := fun w => PlanAt w x2.A x2.ts) (by repeat (first | with_reducible exact Rem.here | with_reducible apply Rem.there))) hx2.lens.1 hx2.lens.2).mono (fun e w' h => by rw [r1, if_pos rfl, r3] at h; exact h))
    refine O.move ?_
    refine O.extract ?_
    refine O.extract ?_
    refine O.assign ?_
    refine O.assign ?_
    refine XO.nil ?_
    (refine X.seq ?_; refine X.seq ?_)
    refine X.region ?_
    refine O.move ?_
    (first | refine Go.Proofs.YtgegppbjpaeljaaDoor.O.neErr ?_ | refine O.neNil ?_ | refine O.nilNe ?_)
    refine O.move ?_
    refine O.move ?_
    (first | refine Go.Proofs.YtgegppbjpaeljaaDoor.O.neErr ?_ | refine O.neNil ?_ | refine O.nilNe ?_)
    refine O.pickOr ?_
    refine O.move ?_
    refine O.move ?_
    refine O.move ?_
    refine O.neq ?_
    refine O.pickOr ?_
    refine O.move ?_
    refine O.move ?_
    refine O.move ?_
    refine O.neq ?_
    refine O.pickOr ?_
    refine XO.nil ?_
    refine X.condF rfl (by simp) ?_
    (refine X.skip ?_; refine X.seq ?_)
    refine X.region ?_
    refine O.move ?_
    refine O.callN (α := PR) (φ := Parsed b.data.toList) (vo := fun x => .tuple #[.int .i64 x.wk, .int .i64 x.sp, errV x.err]) (N := fun x => []) te15 (hc := by intro w hs; exact Measure_calls _ w (hE.below hs.below) (by first | omega | (rw [hsz]; omega))) (next := fun x3 hx3 => ?_)
    simp only [List.cons_append, List.nil_append]
    refine O.move ?_
    refine O.extract ?_
    refine O.extract ?_
    refine O.extract ?_
    refine O.assign ?_
    refine O.assign ?_
    refine O.assign ?_
    refine XO.nil ?_
    (refine X.seq ?_; refine X.seq ?_)
    refine X.region ?_
    refine O.move ?_
    (first | refine Go.Proofs.YtgegppbjpaeljaaDoor.O.neErr ?_ | refine O.neNil ?_ | refine O.nilNe ?_)
    refine XO.nil ?_
    refine X.cond rfl (fun c12 => ?_) (fun c12 => ?_)
    · (refine X.seq ?_)
      refine X.region ?_
      refine O.assign ?_
      refine XO.nil ?_
      refine X.ret1 Tryd.func6 ?_
      exact fun w' hs => ⟨rfl, hs.below⟩
    · have e3 : x3.err = 0 := by simpa using c12
      rcases hx3.cases with ⟨e, m1, rfl, m2⟩ | ⟨tb, m1, m2, m3, m4, m5⟩
      · exact absurd e3 m2
      obtain ⟨l1, l2, l3, l4⟩ := parseF_ok m1
      rw [hat] at k1
      rw [hbt] at l1
      have w1 := work_le (cap := capW) (M := 21) capW_le ta
      have w2 := span_le (cap := capW) (M := 21) capW_le ta
      have w3 := work_le (cap := capW) (M := 21) capW_le tb
      have w4 := span_le (cap := capW) (M := 21) capW_le tb
      rw [← g4, ← g3] at w2
      rw [← g3] at w1
      rw [← m4, ← m3] at w4
      rw [← m3] at w3
      have hsa := (over_small capW ta).1 k3
      have hsb := (over_small capW tb).1 l3
      (refine X.skip ?_; refine X.seq ?_)
      refine X.region ?_
      refine O.move ?_
      refine O.addStr ?_ (hl := by intro _; show 1 + _ ≤ _; omega)
      refine O.addStr ?_ (hl := by intro _; rw [ByteArray.size_append]; show 1 + _ + 3 ≤ _; omega)
      refine O.move ?_
      refine O.addStr ?_ (hl := by intro _; rw [ByteArray.size_append, ByteArray.size_append]; show 1 + _ + 3 + _ ≤ _; omega)
      refine O.addStr ?_ (hl := by intro _; rw [ByteArray.size_append, ByteArray.size_append, ByteArray.size_append]; show 1 + _ + 3 + _ + 1 ≤ _; omega)
      obtain ⟨S, hS⟩ : ∃ S, (ByteArray.mk #[40] ++ a ++ ⟨#[41, 59, 40]⟩ ++ b ++ ⟨#[41]⟩ : ByteArray) = S := ⟨_, rfl⟩
      have hSd : S.data.toList = 40 :: (a.data.toList ++ 41 :: 59 :: 40 :: (b.data.toList ++ [41])) := by rw [← hS]; simp [ByteArray.data_append]
      have hsz : S.size = a.size + b.size + 5 := by rw [← hS]; simp only [ByteArray.size_append]; show 1 + _ + 3 + _ + 1 = _; omega
      rw [hS]
      refine O.callN (α := PR) (φ := Parsed S.data.toList) (vo := fun x => .tuple #[.int .i64 x.wk, .int .i64 x.sp, errV x.err]) (N := fun x => []) te15 (hc := by intro w hs; exact Measure_calls _ w (hE.below hs.below) (by first | omega | (rw [hsz]; omega))) (next := fun x4 hx4 => ?_)
      simp only [List.cons_append, List.nil_append]
      refine O.move ?_
      refine O.extract ?_
      refine O.extract ?_
      refine O.extract ?_
      refine O.assign ?_
      refine O.assign ?_
      refine O.assign ?_
      refine XO.nil ?_
      have hj := Parsed.joined (t := .seq ta tb) hx4 (by rw [hSd]; exact parse_seq k2 l2) ⟨hsa, hsb⟩
      have hj4 : x4.err = 0 ∨ x4.err = 4 := hj.elim .inr (fun h => .inl h.1)
      (refine X.seq ?_; refine X.seq ?_)
      refine X.region ?_
      refine O.move ?_
      (first | refine Go.Proofs.YtgegppbjpaeljaaDoor.O.eqErr ?_ | refine O.eqNil ?_ | refine O.nilEq ?_)
      refine O.move ?_
      refine O.move ?_
      refine O.move ?_
      refine O.move ?_
      refine O.add ?_
      refine O.neq ?_
      refine O.move ?_
      refine O.move ?_
      refine O.move ?_
      refine O.move ?_
      refine O.add ?_
      refine O.neq ?_
      refine O.pickOr ?_
      refine O.pickAnd ?_
      refine XO.nil ?_
      refine X.condF rfl (by rcases hj with h | ⟨h1, h2, h3⟩; exact (by simp [h]); exact (by simp [h1, h2, h3, g3, g4, m3, m4, work, span])) ?_
      (refine X.skip ?_; refine X.seq ?_)
      refine X.region ?_
      refine O.move ?_
      refine O.addStr ?_ (hl := by intro _; show _ + 1 ≤ _; omega)
      refine O.move ?_
      refine O.addStr ?_ (hl := by intro _; rw [ByteArray.size_append]; show _ + 1 + _ ≤ _; omega)
      obtain ⟨S2, hS2⟩ : ∃ S, (a ++ ByteArray.mk #[124] ++ b : ByteArray) = S := ⟨_, rfl⟩
      have hS2d : S2.data.toList = a.data.toList ++ 124 :: b.data.toList := by rw [← hS2]; simp [ByteArray.data_append]
      have hsz : S2.size = a.size + b.size + 1 := by rw [← hS2]; simp only [ByteArray.size_append]; show _ + 1 + _ = _; omega
      rw [hS2]
      refine O.callN (α := PR) (φ := Parsed S2.data.toList) (vo := fun x => .tuple #[.int .i64 x.wk, .int .i64 x.sp, errV x.err]) (N := fun x => []) te15 (hc := by intro w hs; exact Measure_calls _ w (hE.below hs.below) (by first | omega | (rw [hsz]; omega))) (next := fun x5 hx5 => ?_)
      simp only [List.cons_append, List.nil_append]
      refine O.move ?_
      refine O.extract ?_
      refine O.extract ?_
      refine O.extract ?_
      refine O.assign ?_
      refine O.assign ?_
      refine O.assign ?_
      refine XO.nil ?_
      obtain ⟨tc, q1, q2⟩ := parse_par k2 l2
      have hq := Parsed.joined hx5 (by rw [hS2d]; exact q1) ((q2.small _).2 ⟨hsa, hsb⟩)
      rw [q2.work, q2.span, ← g3, ← m3, ← g4, ← m4] at hq
      have hq4 : x5.err = 0 ∨ x5.err = 4 := hq.elim .inr (fun h => .inl h.1)
      (refine X.seq ?_; refine X.seq ?_)
      refine X.region ?_
      refine O.move ?_
      (first | refine Go.Proofs.YtgegppbjpaeljaaDoor.O.eqErr ?_ | refine O.eqNil ?_ | refine O.nilEq ?_)
      refine O.move ?_
      refine O.move ?_
      refine O.move ?_
      refine O.move ?_
      refine O.add ?_
      refine O.neq ?_
      refine O.move ?_
      refine O.move ?_
      refine O.move ?_
      refine O.lss ?_
      refine O.pickOr ?_
      refine O.move ?_
      refine O.move ?_
      refine O.move ?_
      refine O.lss ?_
      refine O.pickOr ?_
      refine O.move ?_
      refine O.move ?_
      refine O.move ?_
      refine O.gtr ?_
      refine O.move ?_
      refine O.move ?_
      refine O.move ?_
      refine O.gtr ?_
      refine O.pickAnd ?_
      refine O.pickOr ?_
      refine O.pickAnd ?_
      refine XO.nil ?_
      refine X.condF rfl (by rcases hq with h | ⟨h1, h2, h3⟩; exact (by simp [h]); exact (by simp [h1, h2, h3]; omega)) ?_
      (refine X.skip ?_; refine X.seq ?_)
      refine X.region ?_
      refine O.move ?_
      (first | refine Go.Proofs.YtgegppbjpaeljaaDoor.O.eqErr ?_ | refine O.eqNil ?_ | refine O.nilEq ?_)
      refine O.move ?_
      refine O.move ?_
      refine O.callB (.bool (decide (x4.err = 4))) te12 ?_ (hc := by intro _ w hs; exact Error_calls x4.err 4 w (errType_below hT hs.below))
      refine O.pickOr ?_
      refine O.assign ?_
      refine XO.nil ?_
      (refine X.seq ?_)
      refine X.region ?_
      refine O.move ?_
      (first | refine Go.Proofs.YtgegppbjpaeljaaDoor.O.eqErr ?_ | refine O.eqNil ?_ | refine O.nilEq ?_)
      refine O.move ?_
      refine O.move ?_
      refine O.callB (.bool (decide (x5.err = 4))) te12 ?_ (hc := by intro _ w hs; exact Error_calls x5.err 4 w (errType_below hT hs.below))
      refine O.pickOr ?_
      refine O.assign ?_
      refine XO.nil ?_
      (refine X.seq ?_)
      refine X.region ?_
      refine O.move ?_
      refine O.move ?_
      refine O.move ?_
      refine O.pickAnd ?_
      refine O.move ?_
      refine O.move ?_
      refine O.lenSlice tl33 ?_
      refine O.gtr ?_
      refine O.pickAnd ?_
      refine O.assign ?_
      refine XO.nil ?_
      refine X.ret1 Tryd.func6 ?_
      have hpos := size_pos ta
      have hlen := congrArg List.length g2
      rw [List.length_map, tasks_length] at hlen
      refine fun w' hs => ⟨?_, hs.below⟩
      have h9 : 0 < x2.ts.length := by omega
      rcases hj4 with h | h <;> rcases hq4 with h' | h' <;> simp [h, h', h9]
end Go.Proofs.YtgegppbjpaeljaaDoor.Wc
