/- Proved here: weave's reader: one, behind, beside do what the reading in plain Lean does, whatever the text. -/
import Derived.Test.YtgegppbjpaeljaaDoorWv
set_option linter.unusedVariables false
set_option linter.unusedSimpArgs false
set_option maxRecDepth 10000
namespace Go.Proofs.YtgegppbjpaeljaaDoor.Wv
open Go Go.X Go.X.Wv Go.RowKit Go.Proofs.YtgegppbjpaeljaaDoor.Ty Go.Proofs.YtgegppbjpaeljaaDoor.Pl

/-- What is asked where a part of the text is read. -/
structure At (b : Nat) (s : ByteArray) (i : Nat) (A : Option Addr) (c : Nat) (ts : List TaskM) (w : World) (S : Nat → Prop) : Prop where
  hi : i ≤ s.size
  hs : s.size ≤ 200
  hts : ts.length ≤ i
  st : St w S (RD b s i A c ts) w
  errs : Stable w S ErrsAt
def OneC (f : Nat) : Prop := ∀ b s i A c ts w S, At b s i A c ts w S → 3 * (rest s i).length + 1 ≤ f →
  Calls Tryd.prog 78 #[.pointer (some ⟨b, 0, none⟩)] w (Out b s ts w S (one f (rest s i)))
def BehindC (f : Nat) : Prop := ∀ b s i A c ts w S, At b s i A c ts w S → 3 * (rest s i).length + 2 ≤ f →
  Calls Tryd.prog 56 #[.pointer (some ⟨b, 0, none⟩)] w (Out b s ts w S (behind f (rest s i)))
def BesideC (f : Nat) : Prop := ∀ b s i A c ts w S, At b s i A c ts w S → 3 * (rest s i).length + 3 ≤ f →
  Calls Tryd.prog 34 #[.pointer (some ⟨b, 0, none⟩)] w (Out b s ts w S (beside f (rest s i)))

theorem Out.split {b : Nat} {s : ByteArray} {ts : List TaskM} {w w' : World} {S : Nat → Prop} {p : Option (T × L)} {en : Ending} (h : Out b s ts w S p en w') :
    (∃ x : T × L × Res, (p = some (x.1, x.2.1) ∧ Good x.1 ts.length x.2.2) ∧ en = .returned (clothV x.1 ts.length x.2.2) ∧ St w S (RD b s (s.size - x.2.1.length) x.2.2.A x.2.2.c (ts ++ x.2.2.new) ++ [HP.rd (ClothOK x.1 ts.length x.2.2)]) w') ∨
    (∃ ch, en = .panicked ch ∧ (p = none ∧ ch = wrongCh) ∧ St w S [] w') := by
  cases p with
  | none =>
    obtain ⟨ch, h1, h2, h3⟩ := h
    exact .inr ⟨ch, h1, ⟨rfl, h2⟩, h3⟩
  | some y =>
    obtain ⟨t, r⟩ := y
    obtain ⟨x, h1, h2, h3⟩ := h
    exact .inl ⟨(t, r, x), ⟨rfl, h1⟩, h2, h3⟩

noncomputable def cxOne : Cx := ⟨Tryd.prog, 78, 31, []⟩
theorem one_step (f : Nat) (ih : BesideC f) : OneC (f + 1) := by
  intro b s i A c ts w S hat hf
  obtain ⟨hi, hs, hts, hst, hE⟩ := hat
  refine calls_of_X cxOne [.pointer (some ⟨b, 0, none⟩)] Tryd.func78 hst ?_
  (repeat (first | with_reducible refine X.seq ?_ | with_reducible refine X.region ?_ | with_reducible refine X.block ?_ | with_reducible refine X.skip ?_ | with_reducible refine X.inBlock ?_ | refine X.exit rfl ?_))
  refine O.alloc tz85 (fun b2 hb2 => ?_)
  refine XO.nil ?_
  (repeat (first | with_reducible refine X.seq ?_ | with_reducible refine X.region ?_ | with_reducible refine X.block ?_ | with_reducible refine X.skip ?_ | with_reducible refine X.inBlock ?_ | refine X.exit rfl ?_))
  refine O.move ?_
  refine O.callB (.bool (decide ((rest s i).head? = some 40))) te57 ?_ (hc := by intro _ w' hs'; exact is_calls b s i A c ts.length 40 hi hs w' (hs'.blk_at (.there .here)))
  refine O.not ?_
  refine XO.nil ?_
  (repeat (first | with_reducible refine X.seq ?_ | with_reducible refine X.region ?_ | with_reducible refine X.block ?_ | with_reducible refine X.skip ?_ | with_reducible refine X.inBlock ?_ | refine X.exit rfl ?_))
  refine X.cond rfl (fun h => ?_) (fun h => ?_)
  · have hone : one (f + 1) (rest s i) = number (rest s i) := by
      rw [one, if_neg (by simpa using h)]
    rw [hone]
    (repeat (first | with_reducible refine X.seq ?_ | with_reducible refine X.region ?_ | with_reducible refine X.block ?_ | with_reducible refine X.skip ?_ | with_reducible refine X.inBlock ?_ | refine X.exit rfl ?_))
    refine O.move ?_
    refine O.callSP (α := T × L × Res) (φ := fun x => number (rest s i) = some (x.1, x.2.1) ∧ Good x.1 ts.length x.2.2) (vo := fun x => .agg #[.slice x.2.2.fA (firsts x.1 ts.length).length x.2.2.fc, .slice x.2.2.lA (lasts x.1 ts.length).length x.2.2.lc, .int .i64 (work capW x.1), .int .i64 (span capW x.1)]) (L1 := RD b s i A c ts) (L1' := fun x => RD b s (s.size - x.2.1.length) x.2.2.A x.2.2.c (ts ++ x.2.2.new) ++ [HP.rd (ClothOK x.1 ts.length x.2.2)]) (ψ := fun ch => number (rest s i) = none ∧ ch = wrongCh) te100 Tryd.func78 (by repeat (first | exact Rems.nil | (apply Rems.cons; focus (repeat (first | with_reducible exact Rem.here | with_reducible apply Rem.there))))) (hc := ?_) (hp := ?_) (next := ?_)
    · intro w' S' h1 h2 h3
      exact (number_calls b s i A c ts hi hs hts w' S' h1 (hE.from_ h2 h3)).mono fun en w'' h4 => Out.split h4
    · rintro ch w' ⟨h1, h2⟩ h3
      rw [h1]
      exact ⟨_, rfl, h2, h3.drop (L1 := [])⟩
    rintro ⟨t, r, x⟩ ⟨hp, hg⟩
    dsimp only at hp hg ⊢
    simp only [List.cons_append, List.nil_append]
    refine O.store _ ts85 ?_
    refine XO.nil ?_
    (repeat (first | with_reducible refine X.seq ?_ | with_reducible refine X.region ?_ | with_reducible refine X.block ?_ | with_reducible refine X.skip ?_ | with_reducible refine X.inBlock ?_ | refine X.exit rfl ?_))
    refine X.retC1 Tryd.func78 ta85 rfl (fun w hs => CellsAt.of_blk (n := 4) hs .here rfl) (fun w' hs => ?_)
    rw [hp]
    exact ⟨x, hg, rfl, hs.drop1⟩
  · have hh : (rest s i).head? = some 40 := by simpa using h
    have hlt : i < s.size := by
      rcases Nat.lt_or_ge i s.size with h' | h'
      · exact h'
      · rw [rest_end s i h'] at hh; cases hh
    have htl := (rest_head s i hlt).2
    have hrl := rest_length s i
    have hrl1 := rest_length s (i + 1)
    have hone : one (f + 1) (rest s i) = (match beside f (rest s (i + 1)) with
      | some (c, r) => if r.head? = some 41 then some (c, r.tail) else none
      | none => none) := by rw [one, if_pos hh, htl]; rfl
    rw [hone]
    (repeat (first | with_reducible refine X.seq ?_ | with_reducible refine X.region ?_ | with_reducible refine X.block ?_ | with_reducible refine X.skip ?_ | with_reducible refine X.inBlock ?_ | refine X.exit rfl ?_))
    refine O.move ?_
    refine O.nilCheck ?_
    (first | refine O.fieldB0 td83_1 ?_ | refine O.fieldA td83_1 ?_ | refine O.fieldB td83_1 ?_)
    (first | refine O.loadB tf3 ?_ | refine O.loadO tf3 (by first | assumption | (simp only [Nat.add_zero, Nat.zero_add]; assumption)) ?_ | refine O.loadOwn tf3 ?_)
    refine O.add (r := ((i + 1 : Nat) : Int)) ?_ (hr := by intro _; rw [wrap_i64 (by omega) (by omega)]; rfl)
    refine O.nilCheck ?_
    (first | refine O.fieldB0 td83_1 ?_ | refine O.fieldA td83_1 ?_ | refine O.fieldB td83_1 ?_)
    refine O.store _ ts3 ?_
    refine XO.nil ?_
    (repeat (first | with_reducible refine X.seq ?_ | with_reducible refine X.region ?_ | with_reducible refine X.block ?_ | with_reducible refine X.skip ?_ | with_reducible refine X.inBlock ?_ | refine X.exit rfl ?_))
    refine O.move ?_
    refine O.callSP (α := T × L × Res) (φ := fun x => beside f (rest s (i + 1)) = some (x.1, x.2.1) ∧ Good x.1 ts.length x.2.2) (vo := fun x => .agg #[.slice x.2.2.fA (firsts x.1 ts.length).length x.2.2.fc, .slice x.2.2.lA (lasts x.1 ts.length).length x.2.2.lc, .int .i64 (work capW x.1), .int .i64 (span capW x.1)]) (L1 := RD b s (i + 1) A c ts) (L1' := fun x => RD b s (s.size - x.2.1.length) x.2.2.A x.2.2.c (ts ++ x.2.2.new) ++ [HP.rd (ClothOK x.1 ts.length x.2.2)]) (ψ := fun ch => beside f (rest s (i + 1)) = none ∧ ch = wrongCh) te34 Tryd.func78 (by repeat (first | exact Rems.nil | (apply Rems.cons; focus (repeat (first | with_reducible exact Rem.here | with_reducible apply Rem.there))))) (hc := ?_) (hp := ?_) (next := ?_)
    · intro w' S' h1 h2 h3
      exact (ih b s (i + 1) A c ts w' S' ⟨by omega, hs, by omega, h1, hE.from_ h2 h3⟩ (by omega)).mono fun en w'' h4 => Out.split h4
    · rintro ch w' ⟨h1, h2⟩ h3
      rw [h1]
      exact ⟨_, rfl, h2, h3.drop (L1 := [])⟩
    rintro ⟨t, r, x⟩ ⟨hp, hg⟩
    dsimp only at hp hg ⊢
    simp only [List.cons_append, List.nil_append]
    refine O.alloc tz85 (fun b3 hb3 => ?_)
    refine O.store _ ts85 ?_
    refine XO.nil ?_
    (repeat (first | with_reducible refine X.seq ?_ | with_reducible refine X.region ?_ | with_reducible refine X.block ?_ | with_reducible refine X.skip ?_ | with_reducible refine X.inBlock ?_ | refine X.exit rfl ?_))
    obtain ⟨hsuf, hlen⟩ := beside_fact f hp
    have hrest := rest_suffix hsuf (by omega)
    have hsz := size_pos t
    refine O.move ?_
    refine O.callB (.bool (decide (r.head? = some 41))) te57 ?_ (hc := by intro _ w' hs'; have h9 := is_calls b s (s.size - r.length) x.A x.c (ts ++ x.new).length 41 (by omega) hs w' (hs'.blk_at (.there .here)); rw [← hrest] at h9; exact h9)
    refine O.not ?_
    refine XO.nil ?_
    (repeat (first | with_reducible refine X.seq ?_ | with_reducible refine X.region ?_ | with_reducible refine X.block ?_ | with_reducible refine X.skip ?_ | with_reducible refine X.inBlock ?_ | refine X.exit rfl ?_))
    refine X.cond rfl (fun h6 => ?_) (fun h6 => ?_)
    · (repeat (first | with_reducible refine X.seq ?_ | with_reducible refine X.region ?_ | with_reducible refine X.block ?_ | with_reducible refine X.skip ?_ | with_reducible refine X.inBlock ?_ | refine X.exit rfl ?_))
      refine O.build (.agg #[.int .i64 2]) ?_
      refine O.makeInterface ?_
      refine O.panic Tryd.func78 (fun w' hs => ?_)
      rw [hp]
      dsimp only
      rw [if_neg (by simpa using h6)]
      exact ⟨_, rfl, rfl, hs.drop (L1 := [])⟩
    · have h41 : r.head? = some 41 := by simpa using h6
      have htl2 := tail_len h41
      (repeat (first | with_reducible refine X.seq ?_ | with_reducible refine X.region ?_ | with_reducible refine X.block ?_ | with_reducible refine X.skip ?_ | with_reducible refine X.inBlock ?_ | refine X.exit rfl ?_))
      refine O.move ?_
      refine O.nilCheck ?_
      (first | refine O.fieldB0 td83_1 ?_ | refine O.fieldA td83_1 ?_ | refine O.fieldB td83_1 ?_)
      (first | refine O.loadB tf3 ?_ | refine O.loadO tf3 (by first | assumption | (simp only [Nat.add_zero, Nat.zero_add]; assumption)) ?_ | refine O.loadOwn tf3 ?_)
      refine O.add (r := ((s.size - r.tail.length : Nat) : Int)) ?_ (hr := by intro _; rw [wrap_i64 (by omega) (by omega)]; omega)
      refine O.nilCheck ?_
      (first | refine O.fieldB0 td83_1 ?_ | refine O.fieldA td83_1 ?_ | refine O.fieldB td83_1 ?_)
      refine O.store _ ts3 ?_
      refine XO.nil ?_
      (repeat (first | with_reducible refine X.seq ?_ | with_reducible refine X.region ?_ | with_reducible refine X.block ?_ | with_reducible refine X.skip ?_ | with_reducible refine X.inBlock ?_ | refine X.exit rfl ?_))
      refine O.loadAggB ta85 ?_
      refine O.store _ ts85 ?_
      refine XO.nil ?_
      (repeat (first | with_reducible refine X.seq ?_ | with_reducible refine X.region ?_ | with_reducible refine X.block ?_ | with_reducible refine X.skip ?_ | with_reducible refine X.inBlock ?_ | refine X.exit rfl ?_))
      refine X.retC1 Tryd.func78 ta85 rfl (fun w hs => CellsAt.of_blk (n := 4) hs .here rfl) (fun w' hs => ?_)
      rw [hp]
      dsimp only
      rw [if_pos h41]
      refine ⟨x, hg, rfl, ?_⟩
      exact (hs.rems (L1 := RD b s (s.size - r.tail.length) x.A x.c (ts ++ x.new) ++ [HP.rd (ClothOK t ts.length x)]) (by repeat (first | exact Rems.nil | (apply Rems.cons; focus (repeat (first | with_reducible exact Rem.here | with_reducible apply Rem.there)))))).drop

/-! ### behind -/
noncomputable def cxBehind : Cx := ⟨Tryd.prog, 56, 62, []⟩
theorem link_needs {m : Nat} {fs ls : List Nat} {l : List (Int × List Int)} (hls : ls ≠ []) {t : Int × List Int} (ht : t ∈ link m fs ls l) : t ∈ l ∨ t.2 ≠ [] := by
  obtain ⟨j, hj⟩ := List.mem_iff_getElem?.1 ht
  simp only [link, List.getElem?_mapIdx] at hj
  cases hl : l[j]? with
  | none => rw [hl] at hj; cases hj
  | some t0 =>
    rw [hl] at hj
    simp only [Option.map_some, Option.some.injEq] at hj
    split at hj
    · subst hj
      exact .inr (by simpa using hls)
    · subst hj
      exact .inl (List.mem_of_getElem? hl)
theorem elemInt : TElem Tryd.prog 3 (.int .i64 0) 1 8 := TElem.of (by kernel_rfl) rfl
theorem Good.len {t : T} {n : Nat} {x : Res} (h : Good t n x) : x.new.length = size t := by
  have h1 := congrArg List.length h.1
  rwa [List.length_map, tasks_length] at h1
theorem nats_length (l : List Nat) : (nats l).length = l.length := by simp [nats]
theorem nats_at {l : List Nat} {j : Nat} (h : j < l.length) : (ints (nats l))[j]? = some (.int .i64 ((l[j] : Nat) : Int)) := by
  have h1 : j < (nats l).length := by rw [nats_length]; exact h
  rw [ints_at h1]
  simp [nats]
theorem wf_set {zs : List TaskM} (h : Wf zs) {k : Nat} {t : TaskM} (ht : t.needs ≠ []) : Wf (zs.set k t) := by
  intro u hu hn
  rcases List.mem_or_eq_of_mem_set hu with h1 | h1
  · exact h u h1 hn
  · subst h1
    exact absurd hn ht
theorem wf_append {xs ys : List TaskM} (h1 : Wf xs) (h2 : Wf ys) : Wf (xs ++ ys) := fun t ht hn => (List.mem_append.1 ht).elim (fun h => h1 t h hn) (fun h => h2 t h hn)
theorem set_append_right (xs zs : List TaskM) {k : Nat} (hk : xs.length ≤ k) (t : TaskM) : (xs ++ zs).set k t = xs ++ zs.set (k - xs.length) t := by
  rw [List.set_append_right _ _ hk]
theorem nats_ne {l : List Nat} (h : l ≠ []) : nats l ≠ [] := by
  cases l with
  | nil => exact absurd rfl h
  | cons a r => simp [nats]
/-- What is linked next. -/
theorem link_next {m j : Nat} {t2 : T} {ls : List Nat} {zs : List TaskM} {n2 : List (Int × List Int)} (h2 : n2 = tasks capW t2 m) (hz : zs.map TaskM.spec = link m ((firsts t2 m).take j) ls n2) (hw : Wf zs) (hj : j < (firsts t2 m).length) :
    ∃ wk, ∃ h : (firsts t2 m)[j] - m < zs.length, zs[(firsts t2 m)[j] - m] = ⟨wk, [], none, 0⟩ ∧ m ≤ (firsts t2 m)[j] ∧
      ∀ A c, (zs.set ((firsts t2 m)[j] - m) ⟨wk, nats ls, A, c⟩).map TaskM.spec = link m ((firsts t2 m).take (j + 1)) ls n2 := by
  obtain ⟨wk, hwk⟩ := firsts_nil capW t2 m (firsts t2 m)[j] (List.getElem_mem hj)
  have hr := firsts_range t2 m (firsts t2 m)[j] (List.getElem_mem hj)
  rw [← h2] at hwk
  obtain ⟨a1, a2⟩ := link_step m (firsts t2 m) ls n2 j hj hwk hr.1 (firsts_sorted t2 m)
  have hlen : (firsts t2 m)[j] - m < zs.length := by
    have := congrArg List.length hz
    rw [List.length_map, link_length, h2, tasks_length] at this
    omega
  refine ⟨wk, hlen, ?_, hr.1, ?_⟩
  · rw [← hz, List.getElem?_map, List.getElem?_eq_getElem hlen] at a1
    simp only [Option.map_some, Option.some.injEq, TaskM.spec, Prod.mk.injEq] at a1
    obtain ⟨b1, b2⟩ := a1
    obtain ⟨b3, b4⟩ := hw _ (List.getElem_mem hlen) b2
    cases hzz : zs[(firsts t2 m)[j] - m] with
    | mk p q r s =>
      rw [hzz] at b1 b2 b3 b4
      simp only at b1 b2 b3 b4
      simp [b1, b2, b3, b4]
  · intro A c
    rw [a2, List.map_set, hz]
    rfl
set_option maxHeartbeats 1000000 in
theorem behind_step (f : Nat) (ih : ∀ f', f' ≤ f → OneC f') : BehindC (f + 1) := by
  intro b s i A c ts w S hat hf
  obtain ⟨hi, hs, hts, hst, hE⟩ := hat
  have hfn := Tryd.func56
  have hrl := rest_length s i
  have hbeh : behind (f + 1) (rest s i) = (match one f (rest s i) with | some (c, r) => behindL f c r | none => none) := by rw [behind]; rfl
  rw [hbeh]
  refine calls_of_X cxBehind [.pointer (some ⟨b, 0, none⟩)] hfn hst ?_
  (refine X.seq ?_)
  refine X.region ?_
  refine O.alloc tz85 (fun b2 hb2 => ?_)
  refine XO.nil ?_
  (refine X.seq ?_)
  refine X.region ?_
  refine O.move ?_
  refine O.callSP (α := T × L × Res) (φ := fun x => one f (rest s i) = some (x.1, x.2.1) ∧ Good x.1 (ts).length x.2.2) (vo := fun x => .agg #[.slice x.2.2.fA (firsts x.1 (ts).length).length x.2.2.fc, .slice x.2.2.lA (lasts x.1 (ts).length).length x.2.2.lc, .int .i64 (work capW x.1), .int .i64 (span capW x.1)]) (L1 := [HP.blk b (readerC s (i) (A) (c) (ts).length), HP.own 46 2 (.slice (A) (ts).length (c)) (ts).length (planRow (ts)), HP.rd (NeedsOK (ts))]) (L1' := fun x => [HP.blk b (readerC s (s.size - x.2.1.length) (x.2.2.A) (x.2.2.c) (ts ++ x.2.2.new).length), HP.own 46 2 (.slice (x.2.2.A) (ts ++ x.2.2.new).length (x.2.2.c)) (ts ++ x.2.2.new).length (planRow (ts ++ x.2.2.new)), HP.rd (NeedsOK (ts ++ x.2.2.new)), HP.rd (ClothOK x.1 (ts).length x.2.2)]) (ψ := fun ch => one f (rest s i) = none ∧ ch = wrongCh) te78 hfn (by repeat (first | exact Rems.nil | (apply Rems.cons; focus (repeat (first | with_reducible exact Rem.here | with_reducible apply Rem.there))))) (hc := ?_) (hp := ?_) (next := ?_)
  · intro w' S' h1 h2 h3
    exact (ih f (Nat.le_refl _) b s i A c ts w' S' ⟨hi, hs, hts, h1, hE.from_ h2 h3⟩ (by omega)).mono fun en w'' h4 => Out.split h4
  · rintro ch w' ⟨h1, h2⟩ h3
    rw [h1]
    exact ⟨_, rfl, h2, h3.drop (L1 := [])⟩
  rintro ⟨t0, r0, x0⟩ ⟨hp0, hg0⟩
  dsimp only at hp0 hg0 ⊢
  simp only [List.cons_append, List.nil_append]
  refine O.alloc tz85 (fun b3 hb3 => ?_)
  refine O.store _ ts85 ?_
  refine XO.nil ?_
  obtain ⟨hsuf0, hlen0⟩ := one_fact f hp0
  rw [hp0]
  dsimp only
  (refine X.seq ?_; refine X.block ?_)
  refine X.loop (γ := Nat × T × L × Res) (fun y => y.1 ≤ f ∧ behindL f t0 r0 = behindL y.1 y.2.1 y.2.2.1 ∧ y.2.2.1 <:+ rest s i ∧ size y.2.1 + y.2.2.1.length ≤ (rest s i).length ∧ 3 * y.2.2.1.length + 1 ≤ y.1 ∧ Good y.2.1 ts.length y.2.2.2)
    (fun y => [⟨0, true, .pointer (some ⟨b, 0, none⟩)⟩, ⟨2, true, .pointer (some ⟨b2, 0, none⟩)⟩, ⟨3, true, .pointer (some ⟨b3, 0, none⟩)⟩])
    (fun y => St w S [HP.blk b3 (.cells #[.slice (y.2.2.2).fA (firsts (y.2.1) (ts.length)).length (y.2.2.2).fc, .slice (y.2.2.2).lA (lasts (y.2.1) (ts.length)).length (y.2.2.2).lc, .int .i64 (work capW (y.2.1)), .int .i64 (span capW (y.2.1))] 85 (0, 0)), HP.blk b2 (.cells #[.slice none 0 0, .slice none 0 0, .int .i64 0, .int .i64 0] 85 (0, 0)), HP.blk b (readerC s (s.size - y.2.2.1.length) (y.2.2.2.A) (y.2.2.2.c) (ts ++ y.2.2.2.new).length), HP.own 46 2 (.slice (y.2.2.2.A) (ts ++ y.2.2.2.new).length (y.2.2.2.c)) (ts ++ y.2.2.2.new).length (planRow (ts ++ y.2.2.2.new)), HP.rd (NeedsOK (ts ++ y.2.2.2.new)), HP.rd (ClothOK y.2.1 ts.length y.2.2.2)])
    (fun y => y.2.2.1.length) (f, t0, r0, x0) ⟨Nat.le_refl _, rfl, hsuf0, hlen0, by have := size_pos t0; dsimp only; omega, hg0⟩ (by repeat (first | exact Sub.nil | refine Sub.cons rfl (by first | rfl | simp) ?_)) (fun w' hs => by dsimp only; exact hs.perm (by repeat (first | exact Rems.nil | (apply Rems.cons; focus (repeat (first | with_reducible exact Rem.here | with_reducible apply Rem.there)))))) ?_
  rintro ⟨q, t1, r1, ⟨n1, A1, cc1, fA1, fc1, lA1, lc1⟩⟩ ⟨k1, k2, k3, k4, k5, k6⟩ next
  dsimp only at k1 k2 k3 k4 k5 k6 ⊢
  have hr1 := rest_suffix k3 hi
  have hsz1 := size_pos t1
  have hnl : (ts ++ n1).length = ts.length + size t1 := by rw [List.length_append]; have h9 := k6.len; dsimp only at h9; omega
  (refine X.seq ?_; refine X.seq ?_)
  refine X.region ?_
  refine O.move ?_
  refine O.callB (.bool (decide (r1.head? = some 59))) te57 ?_ (hc := by intro _ w' hs'; have h9 := is_calls b s (s.size - r1.length) A1 cc1 (ts ++ n1).length 59 (by omega) hs w' (hs'.blk_at (.there (.there .here))); rw [← hr1] at h9; exact h9)
  refine XO.nil ?_
  refine X.cond rfl (fun c2 => ?_) (fun c2 => ?_)
  · have h59 : r1.head? = some 59 := by simpa using c2
    have htl2 := tail_len h59
    obtain ⟨q, rfl⟩ : ∃ q', q = q' + 1 := ⟨q - 1, by omega⟩
    have hi1 : r1.tail = rest s (s.size - r1.length + 1) := by
      have h9 := (rest_head s (s.size - r1.length) (by omega)).2
      rw [← hr1] at h9
      exact h9
    rw [behindL, if_pos h59, hi1] at k2
    (refine X.skip ?_; refine X.block ?_; refine X.seq ?_)
    refine X.region ?_
    refine O.move ?_
    refine O.nilCheck ?_
    (first | refine O.fieldB0 td83_1 ?_ | refine O.fieldA td83_1 ?_ | refine O.fieldB td83_1 ?_)
    (first | refine O.loadB tf3 ?_ | refine O.loadO tf3 (by first | assumption | (simp only [Nat.add_zero, Nat.zero_add]; assumption)) ?_ | refine O.loadOwn tf3 ?_)
    refine O.add (r := ((s.size - r1.length + 1 : Nat) : Int)) ?_ (hr := by intro _; rw [wrap_i64 (by omega) (by omega)]; rfl)
    refine O.nilCheck ?_
    (first | refine O.fieldB0 td83_1 ?_ | refine O.fieldA td83_1 ?_ | refine O.fieldB td83_1 ?_)
    refine O.store _ ts3 ?_
    refine XO.nil ?_
    (refine X.seq ?_)
    refine X.region ?_
    refine O.move ?_
    refine O.callSP (α := T × L × Res) (φ := fun x => one q (rest s (s.size - r1.length + 1)) = some (x.1, x.2.1) ∧ Good x.1 (ts ++ n1).length x.2.2) (vo := fun x => .agg #[.slice x.2.2.fA (firsts x.1 (ts ++ n1).length).length x.2.2.fc, .slice x.2.2.lA (lasts x.1 (ts ++ n1).length).length x.2.2.lc, .int .i64 (work capW x.1), .int .i64 (span capW x.1)]) (L1 := [HP.blk b (readerC s (s.size - r1.length + 1) (A1) (cc1) (ts ++ n1).length), HP.own 46 2 (.slice (A1) (ts ++ n1).length (cc1)) (ts ++ n1).length (planRow (ts ++ n1)), HP.rd (NeedsOK (ts ++ n1))]) (L1' := fun x => [HP.blk b (readerC s (s.size - x.2.1.length) (x.2.2.A) (x.2.2.c) (ts ++ n1 ++ x.2.2.new).length), HP.own 46 2 (.slice (x.2.2.A) (ts ++ n1 ++ x.2.2.new).length (x.2.2.c)) (ts ++ n1 ++ x.2.2.new).length (planRow (ts ++ n1 ++ x.2.2.new)), HP.rd (NeedsOK (ts ++ n1 ++ x.2.2.new)), HP.rd (ClothOK x.1 (ts ++ n1).length x.2.2)]) (ψ := fun ch => one q (rest s (s.size - r1.length + 1)) = none ∧ ch = wrongCh) te78 hfn (by repeat (first | exact Rems.nil | (apply Rems.cons; focus (repeat (first | with_reducible exact Rem.here | with_reducible apply Rem.there))))) (hc := ?_) (hp := ?_) (next := ?_)
    · intro w' S' h1 h2 h3
      exact (ih q (by omega) b s (s.size - r1.length + 1) A1 cc1 (ts ++ n1) w' S' ⟨by omega, hs, by omega, h1, hE.from_ h2 h3⟩ (by rw [← hi1]; omega)).mono fun en w'' h4 => Out.split h4
    · rintro ch w' ⟨h1, h2⟩ h3
      rw [k2, h1]
      exact ⟨_, rfl, h2, h3.drop (L1 := [])⟩
    rintro ⟨t2, r2, ⟨n2, A2, cc2, fA2, fc2, lA2, lc2⟩⟩ ⟨hp2, hg2⟩
    dsimp only at hp2 hg2 ⊢
    simp only [List.cons_append, List.nil_append]
    refine O.alloc tz85 (fun b4 hb4 => ?_)
    refine O.store _ ts85 ?_
    refine XO.nil ?_
    obtain ⟨hsuf2, hlen2⟩ := one_fact q hp2
    have hsuf2' : r2 <:+ rest s i := (hi1 ▸ hsuf2).trans ((List.tail_suffix r1).trans k3)
    have hr2 := rest_suffix hsuf2' hi
    rw [← hi1] at hlen2
    have hsz2 := size_pos t2
    rw [hp2] at k2
    have hw1 := work_le capW_le t1
    have hw2 := work_le capW_le t2
    have hs1 := span_le capW_le t1
    have hs2 := span_le capW_le t2
    have hll := lasts_length t1 ts.length
    have hln := lasts_ne t1 ts.length
    have hlf := firsts_length t2 (ts ++ n1).length
    (refine X.seq ?_; refine X.seq ?_)
    refine X.region ?_
    (first | refine O.fieldB0 td85_0 ?_ | refine O.fieldA td85_0 ?_ | refine O.fieldB td85_0 ?_)
    (first | refine O.loadB tf44 ?_ | refine O.loadO tf44 (by first | assumption | (simp only [Nat.add_zero, Nat.zero_add]; assumption)) ?_ | refine O.loadOwn tf44 ?_)
    refine O.lenSlice tl44 ?_
    refine O.move ?_
    refine XO.nil ?_
    (refine X.block ?_)
    refine X.loop (γ := Nat × List TaskM) (fun y => y.1 ≤ (firsts t2 (ts ++ n1).length).length ∧ y.2.map TaskM.spec = link (ts ++ n1).length ((firsts t2 (ts ++ n1).length).take y.1) (lasts t1 ts.length) (n2.map TaskM.spec) ∧ Wf y.2)
      (fun y => [⟨0, true, .pointer (some ⟨b, 0, none⟩)⟩, ⟨2, true, .pointer (some ⟨b2, 0, none⟩)⟩, ⟨3, true, .pointer (some ⟨b3, 0, none⟩)⟩, ⟨4, true, .pointer (some ⟨b4, 0, none⟩)⟩, ⟨21, true, .slice fA2 (firsts t2 (ts ++ n1).length).length fc2⟩, ⟨22, true, .int .i64 (firsts t2 (ts ++ n1).length).length⟩, ⟨23, true, .int .i64 y.1⟩])
      (fun y => St w S [HP.blk b4 (.cells #[.slice ((⟨n2, A2, cc2, fA2, fc2, lA2, lc2⟩ : Res)).fA (firsts (t2) ((ts ++ n1).length)).length ((⟨n2, A2, cc2, fA2, fc2, lA2, lc2⟩ : Res)).fc, .slice ((⟨n2, A2, cc2, fA2, fc2, lA2, lc2⟩ : Res)).lA (lasts (t2) ((ts ++ n1).length)).length ((⟨n2, A2, cc2, fA2, fc2, lA2, lc2⟩ : Res)).lc, .int .i64 (work capW (t2)), .int .i64 (span capW (t2))] 85 (0, 0)), HP.blk b3 (.cells #[.slice ((⟨n1, A1, cc1, fA1, fc1, lA1, lc1⟩ : Res)).fA (firsts (t1) (ts.length)).length ((⟨n1, A1, cc1, fA1, fc1, lA1, lc1⟩ : Res)).fc, .slice ((⟨n1, A1, cc1, fA1, fc1, lA1, lc1⟩ : Res)).lA (lasts (t1) (ts.length)).length ((⟨n1, A1, cc1, fA1, fc1, lA1, lc1⟩ : Res)).lc, .int .i64 (work capW (t1)), .int .i64 (span capW (t1))] 85 (0, 0)), HP.blk b2 (.cells #[.slice none 0 0, .slice none 0 0, .int .i64 0, .int .i64 0] 85 (0, 0)), HP.blk b (readerC s (s.size - r2.length) (A2) (cc2) (ts ++ n1 ++ y.2).length), HP.own 46 2 (.slice (A2) (ts ++ n1 ++ y.2).length (cc2)) (ts ++ n1 ++ y.2).length (planRow (ts ++ n1 ++ y.2)), HP.rd (NeedsOK (ts ++ n1 ++ y.2)), HP.rd (ClothOK t2 (ts ++ n1).length ⟨n2, A2, cc2, fA2, fc2, lA2, lc2⟩), HP.rd (ClothOK t1 ts.length ⟨n1, A1, cc1, fA1, fc1, lA1, lc1⟩)])
      (fun y => (firsts t2 (ts ++ n1).length).length - y.1) (0, n2) ⟨Nat.zero_le _, by simp only [List.take_zero, link_none], hg2.2⟩ (by repeat (first | exact Sub.nil | refine Sub.cons rfl (by first | rfl | simp) ?_)) (fun w' hs => by dsimp only; exact hs.perm (by repeat (first | exact Rems.nil | (apply Rems.cons; focus (repeat (first | with_reducible exact Rem.here | with_reducible apply Rem.there)))))) ?_
    rintro ⟨j, zs⟩ ⟨j1, j2, j3⟩ next2
    dsimp only at j1 j2 j3 ⊢
    (refine X.seq ?_)
    refine X.region ?_
    refine O.lss ?_
    refine XO.nil ?_
    (refine X.seq ?_)
    refine X.cond rfl (fun c6 => ?_) (fun c6 => ?_)
    · have hj : j < (firsts t2 (ts ++ n1).length).length := by have := of_decide_eq_true c6; omega
      obtain ⟨wk, hzl, hze, hmle, hset⟩ := link_next hg2.1 j2 j3 hj
      have hfa := nats_at hj
      refine X.fact (fun w' hs => (hs.rd (.there (.there (.there (.there (.there (.there .here))))))).1.addr (j := j) (by simpa [nats] using hj)) ?_
      rintro ⟨fad, rfl⟩
      refine X.fact (fun w' hs => (hs.own_reads (.there (.there (.there (.there .here))))).addr (j := 0) (by rw [planRow_length]; simp only [List.length_append]; omega)) ?_
      rintro ⟨pad, rfl⟩
      generalize (firsts t2 (ts ++ n1).length)[j] = fj at hzl hze hmle hset hfa
      have hfl : fj < (ts ++ n1 ++ zs).length := by rw [List.length_append]; omega
      have hat : (ts ++ n1 ++ zs)[fj] = ⟨wk, [], none, 0⟩ := by rw [List.getElem_append_right hmle]; exact hze
      have hcell : (planRow (ts ++ n1 ++ zs))[fj * 2 + 1]? = some (.slice none 0 0) := by rw [planRow_at1 _ _ hfl, hat]; rfl
      have hprow : (planRow (ts ++ n1 ++ zs)).length = (ts ++ n1 ++ zs).length * 2 := planRow_length _
      (refine X.skip ?_; refine X.seq ?_; refine X.block ?_; refine X.seq ?_)
      refine X.region ?_
      (first | refine O.indexBN tl44 ?_ | refine O.indexAddrN tl44 ?_)
      refine O.loadF tf3 (.there (.there (.there (.there (.there (.there .here)))))) (fun w' h => h.1.at_ hfa) ?_
      refine O.assign ?_
      refine XO.nil ?_
      refine X.regionH [39] [] [0, 1, 2, 3, 4, 5, 6, 7, 8, 9, 10, 11, 13, 14, 12, 15, 16, 17, 18] [HP.blk b4 (.cells #[.slice ((⟨n2, some pad, cc2, some fad, fc2, lA2, lc2⟩ : Res)).fA (firsts (t2) ((ts ++ n1).length)).length ((⟨n2, some pad, cc2, some fad, fc2, lA2, lc2⟩ : Res)).fc, .slice ((⟨n2, some pad, cc2, some fad, fc2, lA2, lc2⟩ : Res)).lA (lasts (t2) ((ts ++ n1).length)).length ((⟨n2, some pad, cc2, some fad, fc2, lA2, lc2⟩ : Res)).lc, .int .i64 (work capW (t2)), .int .i64 (span capW (t2))] 85 (0, 0)), HP.blk b3 (.cells #[.slice ((⟨n1, A1, cc1, fA1, fc1, lA1, lc1⟩ : Res)).fA (firsts (t1) (ts.length)).length ((⟨n1, A1, cc1, fA1, fc1, lA1, lc1⟩ : Res)).fc, .slice ((⟨n1, A1, cc1, fA1, fc1, lA1, lc1⟩ : Res)).lA (lasts (t1) (ts.length)).length ((⟨n1, A1, cc1, fA1, fc1, lA1, lc1⟩ : Res)).lc, .int .i64 (work capW (t1)), .int .i64 (span capW (t1))] 85 (0, 0)), HP.blk b (readerC s (s.size - r2.length) (some pad) cc2 (ts ++ n1 ++ zs).length)] mixed (by kernel_rfl) (by repeat (first | exact Rems.nil | (apply Rems.cons; focus (repeat (first | with_reducible exact Rem.here | with_reducible apply Rem.there))))) ?_
      simp only [permL, List.getD_cons_zero, List.getD_cons_succ]
      refine O.move ?_
      refine O.nilCheck ?_
      (first | refine O.fieldB0 td83_2 ?_ | refine O.fieldA td83_2 ?_ | refine O.fieldB td83_2 ?_)
      (first | refine O.loadB tf33 ?_ | refine O.loadO tf33 (by first | assumption | (simp only [Nat.add_zero, Nat.zero_add]; assumption)) ?_ | refine O.loadOwn tf33 ?_)
      refine O.move ?_
      refine O.move ?_
      refine O.nilCheck ?_
      (first | refine O.fieldB0 td83_2 ?_ | refine O.fieldA td83_2 ?_ | refine O.fieldB td83_2 ?_)
      (first | refine O.loadB tf33 ?_ | refine O.loadO tf33 (by first | assumption | (simp only [Nat.add_zero, Nat.zero_add]; assumption)) ?_ | refine O.loadOwn tf33 ?_)
      refine O.move ?_
      (first | refine O.indexBN tl33 ?_ | refine O.indexAddrN tl33 ?_)
      (first | refine O.fieldB0 td46_1 ?_ | refine O.fieldA td46_1 ?_ | refine O.fieldB td46_1 ?_)
      (first | refine O.fieldB0 td85_1 ?_ | refine O.fieldA td85_1 ?_ | refine O.fieldB td85_1 ?_)
      (first | refine O.loadB tf44 ?_ | refine O.loadO tf44 (by first | assumption | (simp only [Nat.add_zero, Nat.zero_add]; assumption)) ?_ | refine O.loadOwn tf44 ?_)
      refine O.loadOwnH tf44 ?_ (hv := hcell)
      refine O.emptyH 3 1 ?_
      refine O.appendH (ints (nats (lasts t1 ts.length))) (lasts t1 ts.length).length tl44 elemInt .here (fun w' hs => Src.ofReads tl44.1 (hs.rd (.there (.there (.there (.there (.there (.there (.there (.there .here))))))))).2 (by simp [nats]) (fun e => by
          have h9 := (hs.rd (.there (.there (.there (.there (.there (.there (.there (.there .here))))))))).2
          obtain ⟨ad9, h9⟩ := h9.addr (j := 0) (by rw [ints_length, nats_length]; exact List.length_pos_iff.2 hln)
          rw [e] at h9; cases h9) (ints_one _)) (by simp only [maxLen]; omega) (by omega) (fun X => ⟨_, (by repeat (first | exact Rems.nil | (apply Rems.cons; focus (repeat (first | with_reducible exact Rem.here | with_reducible apply Rem.there)))))⟩) (fun A' c' => ?_)
      simp only [Nat.zero_add, List.nil_append]
      (first | refine O.indexBN tl33 ?_ | refine O.indexAddrN tl33 ?_)
      (first | refine O.fieldB0 td46_1 ?_ | refine O.fieldA td46_1 ?_ | refine O.fieldB td46_1 ?_)
      refine O.storeOwnH (i := fj * 2 + 1) (planRow ((ts ++ n1 ++ zs).set fj ⟨wk, nats (lasts t1 ts.length), A', c'⟩)) ts44 (by rw [hprow]; omega) (by
        have h9 := planRow_set (ts ++ n1 ++ zs) fj hfl (nats (lasts t1 ts.length)) A' c'
        rw [nats_length, hat] at h9
        exact h9) ?_
      refine XO.nilH ?_
      refine XO.nil ?_
      (refine X.inBlock ?_)
      refine X.region ?_
      refine O.add ?_
      refine O.move ?_
      refine XO.nil ?_
      rw [set_append_right _ _ hmle] at *
      refine X.st (fun w' hs => ?_) (X.sub (by repeat (first | exact Sub.nil | refine Sub.cons rfl (by first | rfl | simp) ?_)) (next2 (j + 1, zs.set (fj - (ts ++ n1).length) ⟨wk, nats (lasts t1 ts.length), A', c'⟩) ⟨hj, hset A' c', wf_set j3 (nats_ne hln)⟩ (by dsimp only; omega)))
      have a1 := hs.rems (L1 := [HP.own 3 1 (.slice A' (lasts t1 ts.length).length c') (lasts t1 ts.length).length (ints (nats (lasts t1 ts.length))), HP.rd (NeedsOK (ts ++ n1 ++ zs))]) (by repeat (first | exact Rems.nil | (apply Rems.cons; focus (repeat (first | with_reducible exact Rem.here | with_reducible apply Rem.there)))))
      simp only [List.cons_append, List.nil_append] at a1
      have a2 := a1.rd_own.rd_and.rd_mono (ψ := NeedsOK (ts ++ n1 ++ zs.set (fj - (ts ++ n1).length) ⟨wk, nats (lasts t1 ts.length), A', c'⟩)) (fun w h t ht => by
        rcases List.mem_append.1 ht with ht | ht
        · exact h.2 t (List.mem_append_left _ ht)
        · rcases List.mem_or_eq_of_mem_set ht with ht | ht
          · exact h.2 t (List.mem_append_right _ ht)
          · subst ht
            exact h.1)
      have hlz : (ts ++ n1 ++ zs.set (fj - (ts ++ n1).length) ⟨wk, nats (lasts t1 ts.length), A', c'⟩).length = (ts ++ n1 ++ zs).length := by simp
      dsimp only
      rw [hlz]
      exact a2.perm (by repeat (first | exact Rems.nil | (apply Rems.cons; focus (repeat (first | with_reducible exact Rem.here | with_reducible apply Rem.there)))))
    · (refine X.exit rfl ?_)
      refine X.region ?_
      (first | refine O.fieldB0 td85_0 ?_ | refine O.fieldA td85_0 ?_ | refine O.fieldB td85_0 ?_)
      (first | refine O.loadB tf44 ?_ | refine O.loadO tf44 (by first | assumption | (simp only [Nat.add_zero, Nat.zero_add]; assumption)) ?_ | refine O.loadOwn tf44 ?_)
      (first | refine O.fieldB0 td85_1 ?_ | refine O.fieldA td85_1 ?_ | refine O.fieldB td85_1 ?_)
      (first | refine O.loadB tf44 ?_ | refine O.loadO tf44 (by first | assumption | (simp only [Nat.add_zero, Nat.zero_add]; assumption)) ?_ | refine O.loadOwn tf44 ?_)
      (first | refine O.fieldB0 td85_2 ?_ | refine O.fieldA td85_2 ?_ | refine O.fieldB td85_2 ?_)
      (first | refine O.loadB tf3 ?_ | refine O.loadO tf3 (by first | assumption | (simp only [Nat.add_zero, Nat.zero_add]; assumption)) ?_ | refine O.loadOwn tf3 ?_)
      (first | refine O.fieldB0 td85_2 ?_ | refine O.fieldA td85_2 ?_ | refine O.fieldB td85_2 ?_)
      (first | refine O.loadB tf3 ?_ | refine O.loadO tf3 (by first | assumption | (simp only [Nat.add_zero, Nat.zero_add]; assumption)) ?_ | refine O.loadOwn tf3 ?_)
      refine O.add ?_
      (first | refine O.fieldB0 td85_3 ?_ | refine O.fieldA td85_3 ?_ | refine O.fieldB td85_3 ?_)
      (first | refine O.loadB tf3 ?_ | refine O.loadO tf3 (by first | assumption | (simp only [Nat.add_zero, Nat.zero_add]; assumption)) ?_ | refine O.loadOwn tf3 ?_)
      (first | refine O.fieldB0 td85_3 ?_ | refine O.fieldA td85_3 ?_ | refine O.fieldB td85_3 ?_)
      (first | refine O.loadB tf3 ?_ | refine O.loadO tf3 (by first | assumption | (simp only [Nat.add_zero, Nat.zero_add]; assumption)) ?_ | refine O.loadOwn tf3 ?_)
      refine O.add ?_
      refine O.build (.agg #[.slice fA1 (firsts t1 ts.length).length fc1, .slice lA2 (lasts t2 (ts ++ n1).length).length lc2, .int .i64 (work capW t1 + work capW t2), .int .i64 (span capW t1 + span capW t2)]) ?_
      refine O.store _ ts85 ?_
      refine XO.nil ?_
      (refine X.inBlock ?_)
      have hje : j = (firsts t2 (ts ++ n1).length).length := by have := of_decide_eq_false c6; omega
      rw [hje, List.take_length, hg2.1, hnl] at j2
      refine X.st (fun w' hs => ?_) (X.sub (by repeat (first | exact Sub.nil | refine Sub.cons rfl (by first | rfl | simp) ?_)) (next (q, .seq t1 t2, r2, ⟨n1 ++ zs, A2, cc2, fA1, fc1, lA2, lc2⟩) ⟨by dsimp only; omega, k2, hsuf2', by dsimp only [size]; omega, by dsimp only; omega, ⟨by rw [List.map_append, j2, k6.1]; rfl, wf_append k6.2 j3⟩⟩ (by dsimp only; omega)))
      have a1 := hs.rems (L1 := [HP.rd (ClothOK t2 (ts ++ n1).length ⟨n2, A2, cc2, fA2, fc2, lA2, lc2⟩), HP.rd (ClothOK t1 ts.length ⟨n1, A1, cc1, fA1, fc1, lA1, lc1⟩)]) (by repeat (first | exact Rems.nil | (apply Rems.cons; focus (repeat (first | with_reducible exact Rem.here | with_reducible apply Rem.there)))))
      simp only [List.cons_append, List.nil_append] at a1
      have a2 := a1.rd_and.rd_mono (ψ := ClothOK (.seq t1 t2) ts.length ⟨n1 ++ zs, A2, cc2, fA1, fc1, lA2, lc2⟩) (fun w h => ⟨h.2.1, by have h9 := h.1.2; rw [hnl] at h9; exact h9⟩)
      dsimp only [firsts, lasts, work, span]
      rw [← List.append_assoc, ← hnl]
      exact a2.perm (by repeat (first | exact Rems.nil | (apply Rems.cons; focus (repeat (first | with_reducible exact Rem.here | with_reducible apply Rem.there)))))
  · have h59 : r1.head? ≠ some 59 := by simpa using c2
    obtain ⟨q, rfl⟩ : ∃ q', q = q' + 1 := ⟨q - 1, by omega⟩
    rw [behindL, if_neg h59] at k2
    (refine X.exit rfl ?_; refine X.seq ?_)
    refine X.region ?_
    refine O.loadAggB ta85 ?_
    refine O.store _ ts85 ?_
    refine XO.nil ?_
    refine X.retC1 hfn ta85 rfl (fun w hs => CellsAt.of_blk (n := 4) hs .here rfl) (fun w' hs => ?_)
    rw [k2]
    exact ⟨⟨n1, A1, cc1, fA1, fc1, lA1, lc1⟩, k6, rfl, hs.perm (by repeat (first | exact Rems.nil | (apply Rems.cons; focus (repeat (first | with_reducible exact Rem.here | with_reducible apply Rem.there)))))⟩

/-! ### beside -/
noncomputable def cxBeside : Cx := ⟨Tryd.prog, 34, 42, []⟩
theorem addr_of_ne {w : World} {A : Option Addr} {l : List Nat} (h : Reads w A (ints (nats l))) (hl : l ≠ []) : A ≠ none := by
  obtain ⟨ad, rfl⟩ := h.addr (j := 0) (by rw [ints_length, nats_length]; exact List.length_pos_iff.2 hl)
  exact fun e => by cases e
theorem nats_append (a b : List Nat) : nats (a ++ b) = nats a ++ nats b := by simp [nats]
set_option maxHeartbeats 1000000 in
theorem beside_step (f : Nat) (ih : ∀ f', f' ≤ f → BehindC f') : BesideC (f + 1) := by
  intro b s i A c ts w S hat hf
  obtain ⟨hi, hs, hts, hst, hE⟩ := hat
  have hfn := Tryd.func34
  have hrl := rest_length s i
  have hbeh : beside (f + 1) (rest s i) = (match behind f (rest s i) with | some (c, r) => besideL f c r | none => none) := by rw [beside]; rfl
  rw [hbeh]
  refine calls_of_X cxBeside [.pointer (some ⟨b, 0, none⟩)] hfn hst ?_
  (refine X.seq ?_)
  refine X.region ?_
  refine O.alloc tz85 (fun b2 hb2 => ?_)
  refine XO.nil ?_
  (refine X.seq ?_)
  refine X.region ?_
  refine O.move ?_
  refine O.callSP (α := T × L × Res) (φ := fun x => behind f (rest s i) = some (x.1, x.2.1) ∧ Good x.1 (ts).length x.2.2) (vo := fun x => .agg #[.slice x.2.2.fA (firsts x.1 (ts).length).length x.2.2.fc, .slice x.2.2.lA (lasts x.1 (ts).length).length x.2.2.lc, .int .i64 (work capW x.1), .int .i64 (span capW x.1)]) (L1 := [HP.blk b (readerC s (i) (A) (c) (ts).length), HP.own 46 2 (.slice (A) (ts).length (c)) (ts).length (planRow (ts)), HP.rd (NeedsOK (ts))]) (L1' := fun x => [HP.blk b (readerC s (s.size - x.2.1.length) (x.2.2.A) (x.2.2.c) (ts ++ x.2.2.new).length), HP.own 46 2 (.slice (x.2.2.A) (ts ++ x.2.2.new).length (x.2.2.c)) (ts ++ x.2.2.new).length (planRow (ts ++ x.2.2.new)), HP.rd (NeedsOK (ts ++ x.2.2.new)), HP.rd (ClothOK x.1 (ts).length x.2.2)]) (ψ := fun ch => behind f (rest s i) = none ∧ ch = wrongCh) te56 hfn (by repeat (first | exact Rems.nil | (apply Rems.cons; focus (repeat (first | with_reducible exact Rem.here | with_reducible apply Rem.there))))) (hc := ?_) (hp := ?_) (next := ?_)
  · intro w' S' h1 h2 h3
    exact (ih f (Nat.le_refl _) b s i A c ts w' S' ⟨hi, hs, hts, h1, hE.from_ h2 h3⟩ (by omega)).mono fun en w'' h4 => Out.split h4
  · rintro ch w' ⟨h1, h2⟩ h3
    rw [h1]
    exact ⟨_, rfl, h2, h3.drop (L1 := [])⟩
  rintro ⟨t0, r0, x0⟩ ⟨hp0, hg0⟩
  dsimp only at hp0 hg0 ⊢
  simp only [List.cons_append, List.nil_append]
  refine O.alloc tz85 (fun b3 hb3 => ?_)
  refine O.store _ ts85 ?_
  refine XO.nil ?_
  obtain ⟨hsuf0, hlen0⟩ := behind_fact f hp0
  rw [hp0]
  dsimp only
  (refine X.seq ?_; refine X.block ?_)
  refine X.loop (γ := Nat × T × L × Res) (fun y => y.1 ≤ f ∧ besideL f t0 r0 = besideL y.1 y.2.1 y.2.2.1 ∧ y.2.2.1 <:+ rest s i ∧ size y.2.1 + y.2.2.1.length ≤ (rest s i).length ∧ 3 * y.2.2.1.length + 2 ≤ y.1 ∧ Good y.2.1 ts.length y.2.2.2)
    (fun y => [⟨0, true, .pointer (some ⟨b, 0, none⟩)⟩, ⟨2, true, .pointer (some ⟨b2, 0, none⟩)⟩, ⟨3, true, .pointer (some ⟨b3, 0, none⟩)⟩])
    (fun y => St w S [HP.blk b3 (.cells #[.slice (y.2.2.2).fA (firsts (y.2.1) (ts.length)).length (y.2.2.2).fc, .slice (y.2.2.2).lA (lasts (y.2.1) (ts.length)).length (y.2.2.2).lc, .int .i64 (work capW (y.2.1)), .int .i64 (span capW (y.2.1))] 85 (0, 0)), HP.blk b2 (.cells #[.slice none 0 0, .slice none 0 0, .int .i64 0, .int .i64 0] 85 (0, 0)), HP.blk b (readerC s (s.size - y.2.2.1.length) (y.2.2.2.A) (y.2.2.2.c) (ts ++ y.2.2.2.new).length), HP.own 46 2 (.slice (y.2.2.2.A) (ts ++ y.2.2.2.new).length (y.2.2.2.c)) (ts ++ y.2.2.2.new).length (planRow (ts ++ y.2.2.2.new)), HP.rd (NeedsOK (ts ++ y.2.2.2.new)), HP.rd (ClothOK y.2.1 ts.length y.2.2.2)])
    (fun y => y.2.2.1.length) (f, t0, r0, x0) ⟨Nat.le_refl _, rfl, hsuf0, hlen0, by have := size_pos t0; dsimp only; omega, hg0⟩ (by repeat (first | exact Sub.nil | refine Sub.cons rfl (by first | rfl | simp) ?_)) (fun w' hs => by dsimp only; exact hs.perm (by repeat (first | exact Rems.nil | (apply Rems.cons; focus (repeat (first | with_reducible exact Rem.here | with_reducible apply Rem.there)))))) ?_
  rintro ⟨q, t1, r1, ⟨n1, A1, cc1, fA1, fc1, lA1, lc1⟩⟩ ⟨k1, k2, k3, k4, k5, k6⟩ next
  dsimp only at k1 k2 k3 k4 k5 k6 ⊢
  have hr1 := rest_suffix k3 hi
  have hsz1 := size_pos t1
  have hnl : (ts ++ n1).length = ts.length + size t1 := by rw [List.length_append]; have h9 := k6.len; dsimp only at h9; omega
  (refine X.seq ?_; refine X.seq ?_)
  refine X.region ?_
  refine O.move ?_
  refine O.callB (.bool (decide (r1.head? = some 124))) te57 ?_ (hc := by intro _ w' hs'; have h9 := is_calls b s (s.size - r1.length) A1 cc1 (ts ++ n1).length 124 (by omega) hs w' (hs'.blk_at (.there (.there .here))); rw [← hr1] at h9; exact h9)
  refine XO.nil ?_
  refine X.cond rfl (fun c2 => ?_) (fun c2 => ?_)
  · have h59 : r1.head? = some 124 := by simpa using c2
    have htl2 := tail_len h59
    obtain ⟨q, rfl⟩ : ∃ q', q = q' + 1 := ⟨q - 1, by omega⟩
    have hi1 : r1.tail = rest s (s.size - r1.length + 1) := by
      have h9 := (rest_head s (s.size - r1.length) (by omega)).2
      rw [← hr1] at h9
      exact h9
    rw [besideL, if_pos h59, hi1] at k2
    (refine X.skip ?_; refine X.block ?_; refine X.seq ?_)
    refine X.region ?_
    refine O.move ?_
    refine O.nilCheck ?_
    (first | refine O.fieldB0 td83_1 ?_ | refine O.fieldA td83_1 ?_ | refine O.fieldB td83_1 ?_)
    (first | refine O.loadB tf3 ?_ | refine O.loadO tf3 (by first | assumption | (simp only [Nat.add_zero, Nat.zero_add]; assumption)) ?_ | refine O.loadOwn tf3 ?_)
    refine O.add (r := ((s.size - r1.length + 1 : Nat) : Int)) ?_ (hr := by intro _; rw [wrap_i64 (by omega) (by omega)]; rfl)
    refine O.nilCheck ?_
    (first | refine O.fieldB0 td83_1 ?_ | refine O.fieldA td83_1 ?_ | refine O.fieldB td83_1 ?_)
    refine O.store _ ts3 ?_
    refine XO.nil ?_
    (refine X.seq ?_)
    refine X.region ?_
    refine O.move ?_
    refine O.callSP (α := T × L × Res) (φ := fun x => behind q (rest s (s.size - r1.length + 1)) = some (x.1, x.2.1) ∧ Good x.1 (ts ++ n1).length x.2.2) (vo := fun x => .agg #[.slice x.2.2.fA (firsts x.1 (ts ++ n1).length).length x.2.2.fc, .slice x.2.2.lA (lasts x.1 (ts ++ n1).length).length x.2.2.lc, .int .i64 (work capW x.1), .int .i64 (span capW x.1)]) (L1 := [HP.blk b (readerC s (s.size - r1.length + 1) (A1) (cc1) (ts ++ n1).length), HP.own 46 2 (.slice (A1) (ts ++ n1).length (cc1)) (ts ++ n1).length (planRow (ts ++ n1)), HP.rd (NeedsOK (ts ++ n1))]) (L1' := fun x => [HP.blk b (readerC s (s.size - x.2.1.length) (x.2.2.A) (x.2.2.c) (ts ++ n1 ++ x.2.2.new).length), HP.own 46 2 (.slice (x.2.2.A) (ts ++ n1 ++ x.2.2.new).length (x.2.2.c)) (ts ++ n1 ++ x.2.2.new).length (planRow (ts ++ n1 ++ x.2.2.new)), HP.rd (NeedsOK (ts ++ n1 ++ x.2.2.new)), HP.rd (ClothOK x.1 (ts ++ n1).length x.2.2)]) (ψ := fun ch => behind q (rest s (s.size - r1.length + 1)) = none ∧ ch = wrongCh) te56 hfn (by repeat (first | exact Rems.nil | (apply Rems.cons; focus (repeat (first | with_reducible exact Rem.here | with_reducible apply Rem.there))))) (hc := ?_) (hp := ?_) (next := ?_)
    · intro w' S' h1 h2 h3
      exact (ih q (by omega) b s (s.size - r1.length + 1) A1 cc1 (ts ++ n1) w' S' ⟨by omega, hs, by omega, h1, hE.from_ h2 h3⟩ (by rw [← hi1]; omega)).mono fun en w'' h4 => Out.split h4
    · rintro ch w' ⟨h1, h2⟩ h3
      rw [k2, h1]
      exact ⟨_, rfl, h2, h3.drop (L1 := [])⟩
    rintro ⟨t2, r2, ⟨n2, A2, cc2, fA2, fc2, lA2, lc2⟩⟩ ⟨hp2, hg2⟩
    dsimp only at hp2 hg2 ⊢
    simp only [List.cons_append, List.nil_append]
    refine O.alloc tz85 (fun b4 hb4 => ?_)
    refine O.store _ ts85 ?_
    refine XO.nil ?_
    obtain ⟨hsuf2, hlen2⟩ := behind_fact q hp2
    have hsuf2' : r2 <:+ rest s i := (hi1 ▸ hsuf2).trans ((List.tail_suffix r1).trans k3)
    have hr2 := rest_suffix hsuf2' hi
    rw [← hi1] at hlen2
    have hsz2 := size_pos t2
    rw [hp2] at k2
    have hw1 := work_le capW_le t1
    have hw2 := work_le capW_le t2
    have hs1 := span_le capW_le t1
    have hs2 := span_le capW_le t2
    have hl1 := lasts_length t1 ts.length
    have hl2 := lasts_length t2 (ts ++ n1).length
    have hf1 := firsts_length t1 ts.length
    have hf2 := firsts_length t2 (ts ++ n1).length
    have hn1 := lasts_ne t1 ts.length
    have hn2 := lasts_ne t2 (ts ++ n1).length
    have hn3 := firsts_ne t1 ts.length
    have hn4 := firsts_ne t2 (ts ++ n1).length
    refine X.regionH [] [23] [0, 1, 3, 4, 6, 7, 9, 10, 12, 13, 14, 15, 16, 17, 18, 19, 20, 21, 2, 5, 8, 11, 22] [HP.blk b4 (.cells #[.slice ((⟨n2, A2, cc2, fA2, fc2, lA2, lc2⟩ : Res)).fA (firsts (t2) ((ts ++ n1).length)).length ((⟨n2, A2, cc2, fA2, fc2, lA2, lc2⟩ : Res)).fc, .slice ((⟨n2, A2, cc2, fA2, fc2, lA2, lc2⟩ : Res)).lA (lasts (t2) ((ts ++ n1).length)).length ((⟨n2, A2, cc2, fA2, fc2, lA2, lc2⟩ : Res)).lc, .int .i64 (work capW (t2)), .int .i64 (span capW (t2))] 85 (0, 0)), HP.blk b3 (.cells #[.slice ((⟨n1, A1, cc1, fA1, fc1, lA1, lc1⟩ : Res)).fA (firsts (t1) (ts.length)).length ((⟨n1, A1, cc1, fA1, fc1, lA1, lc1⟩ : Res)).fc, .slice ((⟨n1, A1, cc1, fA1, fc1, lA1, lc1⟩ : Res)).lA (lasts (t1) (ts.length)).length ((⟨n1, A1, cc1, fA1, fc1, lA1, lc1⟩ : Res)).lc, .int .i64 (work capW (t1)), .int .i64 (span capW (t1))] 85 (0, 0))] mixed (by kernel_rfl) (by repeat (first | exact Rems.nil | (apply Rems.cons; focus (repeat (first | with_reducible exact Rem.here | with_reducible apply Rem.there))))) ?_
    simp only [permL, List.getD_cons_zero, List.getD_cons_succ]
    (first | refine O.fieldB0 td85_0 ?_ | refine O.fieldA td85_0 ?_ | refine O.fieldB td85_0 ?_)
    (first | refine O.loadB tf44 ?_ | refine O.loadO tf44 (by first | assumption | (simp only [Nat.add_zero, Nat.zero_add]; assumption)) ?_ | refine O.loadOwn tf44 ?_)
    (first | refine O.fieldB0 td85_0 ?_ | refine O.fieldA td85_0 ?_ | refine O.fieldB td85_0 ?_)
    (first | refine O.loadB tf44 ?_ | refine O.loadO tf44 (by first | assumption | (simp only [Nat.add_zero, Nat.zero_add]; assumption)) ?_ | refine O.loadOwn tf44 ?_)
    (first | refine O.fieldB0 td85_1 ?_ | refine O.fieldA td85_1 ?_ | refine O.fieldB td85_1 ?_)
    (first | refine O.loadB tf44 ?_ | refine O.loadO tf44 (by first | assumption | (simp only [Nat.add_zero, Nat.zero_add]; assumption)) ?_ | refine O.loadOwn tf44 ?_)
    (first | refine O.fieldB0 td85_1 ?_ | refine O.fieldA td85_1 ?_ | refine O.fieldB td85_1 ?_)
    (first | refine O.loadB tf44 ?_ | refine O.loadO tf44 (by first | assumption | (simp only [Nat.add_zero, Nat.zero_add]; assumption)) ?_ | refine O.loadOwn tf44 ?_)
    (first | refine O.fieldB0 td85_2 ?_ | refine O.fieldA td85_2 ?_ | refine O.fieldB td85_2 ?_)
    (first | refine O.loadB tf3 ?_ | refine O.loadO tf3 (by first | assumption | (simp only [Nat.add_zero, Nat.zero_add]; assumption)) ?_ | refine O.loadOwn tf3 ?_)
    (first | refine O.fieldB0 td85_2 ?_ | refine O.fieldA td85_2 ?_ | refine O.fieldB td85_2 ?_)
    (first | refine O.loadB tf3 ?_ | refine O.loadO tf3 (by first | assumption | (simp only [Nat.add_zero, Nat.zero_add]; assumption)) ?_ | refine O.loadOwn tf3 ?_)
    refine O.add ?_
    (first | refine O.fieldB0 td85_3 ?_ | refine O.fieldA td85_3 ?_ | refine O.fieldB td85_3 ?_)
    (first | refine O.loadB tf3 ?_ | refine O.loadO tf3 (by first | assumption | (simp only [Nat.add_zero, Nat.zero_add]; assumption)) ?_ | refine O.loadOwn tf3 ?_)
    (first | refine O.fieldB0 td85_3 ?_ | refine O.fieldA td85_3 ?_ | refine O.fieldB td85_3 ?_)
    (first | refine O.loadB tf3 ?_ | refine O.loadO tf3 (by first | assumption | (simp only [Nat.add_zero, Nat.zero_add]; assumption)) ?_ | refine O.loadOwn tf3 ?_)
    refine O.maxI ?_
    refine O.emptyH 3 1 ?_
    refine O.appendH (ints (nats (firsts t1 ts.length))) (firsts t1 ts.length).length tl44 elemInt .here (fun w' hs => Src.ofReads tl44.1 (hs.rd (φ := ClothOK t1 ts.length ⟨n1, A1, cc1, fA1, fc1, lA1, lc1⟩) (by repeat (first | with_reducible exact Rem.here | with_reducible apply Rem.there))).1 (by simp [nats]) (fun e => absurd e (addr_of_ne (hs.rd (φ := ClothOK t1 ts.length ⟨n1, A1, cc1, fA1, fc1, lA1, lc1⟩) (by repeat (first | with_reducible exact Rem.here | with_reducible apply Rem.there))).1 hn3)) (ints_one _)) (by simp only [maxLen]; omega) (by omega) (fun X => ⟨_, (by repeat (first | exact Rems.nil | (apply Rems.cons; focus (repeat (first | with_reducible exact Rem.here | with_reducible apply Rem.there)))))⟩) (fun A' c' => ?_)
    simp only [Nat.zero_add, List.nil_append]
    refine O.appendH (ints (nats (firsts t2 (ts ++ n1).length))) (firsts t2 (ts ++ n1).length).length tl44 elemInt .here (fun w' hs => Src.ofReads tl44.1 (hs.rd (φ := ClothOK t2 (ts ++ n1).length ⟨n2, A2, cc2, fA2, fc2, lA2, lc2⟩) (by repeat (first | with_reducible exact Rem.here | with_reducible apply Rem.there))).1 (by simp [nats]) (fun e => absurd e (addr_of_ne (hs.rd (φ := ClothOK t2 (ts ++ n1).length ⟨n2, A2, cc2, fA2, fc2, lA2, lc2⟩) (by repeat (first | with_reducible exact Rem.here | with_reducible apply Rem.there))).1 hn4)) (ints_one _)) (by simp only [maxLen]; omega) (by omega) (fun X => ⟨_, (by repeat (first | exact Rems.nil | (apply Rems.cons; focus (repeat (first | with_reducible exact Rem.here | with_reducible apply Rem.there)))))⟩) (fun A'' c'' => ?_)
    simp only [← ints_append, ← nats_append, ← List.length_append]
    refine O.emptyH 3 1 ?_
    refine O.appendH (ints (nats (lasts t1 ts.length))) (lasts t1 ts.length).length tl44 elemInt .here (fun w' hs => Src.ofReads tl44.1 (hs.rd (φ := ClothOK t1 ts.length ⟨n1, A1, cc1, fA1, fc1, lA1, lc1⟩) (by repeat (first | with_reducible exact Rem.here | with_reducible apply Rem.there))).2 (by simp [nats]) (fun e => absurd e (addr_of_ne (hs.rd (φ := ClothOK t1 ts.length ⟨n1, A1, cc1, fA1, fc1, lA1, lc1⟩) (by repeat (first | with_reducible exact Rem.here | with_reducible apply Rem.there))).2 hn1)) (ints_one _)) (by simp only [maxLen]; omega) (by omega) (fun X => ⟨_, (by repeat (first | exact Rems.nil | (apply Rems.cons; focus (repeat (first | with_reducible exact Rem.here | with_reducible apply Rem.there)))))⟩) (fun B' d' => ?_)
    simp only [Nat.zero_add, List.nil_append]
    refine O.appendH (ints (nats (lasts t2 (ts ++ n1).length))) (lasts t2 (ts ++ n1).length).length tl44 elemInt .here (fun w' hs => Src.ofReads tl44.1 (hs.rd (φ := ClothOK t2 (ts ++ n1).length ⟨n2, A2, cc2, fA2, fc2, lA2, lc2⟩) (by repeat (first | with_reducible exact Rem.here | with_reducible apply Rem.there))).2 (by simp [nats]) (fun e => absurd e (addr_of_ne (hs.rd (φ := ClothOK t2 (ts ++ n1).length ⟨n2, A2, cc2, fA2, fc2, lA2, lc2⟩) (by repeat (first | with_reducible exact Rem.here | with_reducible apply Rem.there))).2 hn2)) (ints_one _)) (by simp only [maxLen]; omega) (by omega) (fun X => ⟨_, (by repeat (first | exact Rems.nil | (apply Rems.cons; focus (repeat (first | with_reducible exact Rem.here | with_reducible apply Rem.there)))))⟩) (fun B'' d'' => ?_)
    simp only [← ints_append, ← nats_append, ← List.length_append]
    refine O.build (.agg #[.slice A'' (firsts t1 ts.length ++ firsts t2 (ts ++ n1).length).length c'', .slice B'' (lasts t1 ts.length ++ lasts t2 (ts ++ n1).length).length d'', .int .i64 (work capW t1 + work capW t2), .int .i64 (max (span capW t1) (span capW t2))]) ?_
    refine XO.nilH ?_
    refine O.store _ ts85 ?_
    refine XO.nil ?_
    (refine X.inBlock ?_)
    refine X.st (fun w' hs => ?_) (X.sub (by repeat (first | exact Sub.nil | refine Sub.cons rfl (by first | rfl | simp) ?_)) (next (q, .par t1 t2, r2, ⟨n1 ++ n2, A2, cc2, A'', c'', B'', d''⟩) ⟨by dsimp only; omega, k2, hsuf2', by dsimp only [size]; omega, by dsimp only; omega, ⟨by rw [List.map_append, hg2.1, k6.1, hnl]; rfl, wf_append k6.2 hg2.2⟩⟩ (by dsimp only; omega)))
    have a1 := hs.rems (L1 := [HP.own 3 1 (.slice A'' (firsts t1 ts.length ++ firsts t2 (ts ++ n1).length).length c'') (firsts t1 ts.length ++ firsts t2 (ts ++ n1).length).length (ints (nats (firsts t1 ts.length ++ firsts t2 (ts ++ n1).length)))]) (by repeat (first | exact Rems.nil | (apply Rems.cons; focus (repeat (first | with_reducible exact Rem.here | with_reducible apply Rem.there)))))
    simp only [List.cons_append, List.nil_append] at a1
    have a2 := a1.rd_own.rems (L1 := [HP.own 3 1 (.slice B'' (lasts t1 ts.length ++ lasts t2 (ts ++ n1).length).length d'') (lasts t1 ts.length ++ lasts t2 (ts ++ n1).length).length (ints (nats (lasts t1 ts.length ++ lasts t2 (ts ++ n1).length))), HP.rd (fun w => Reads w A'' (ints (nats (firsts t1 ts.length ++ firsts t2 (ts ++ n1).length))))]) (by repeat (first | exact Rems.nil | (apply Rems.cons; focus (repeat (first | with_reducible exact Rem.here | with_reducible apply Rem.there)))))
    simp only [List.cons_append, List.nil_append] at a2
    have a3 := a2.rd_own.rd_and.rd_mono (ψ := ClothOK (.par t1 t2) ts.length ⟨n1 ++ n2, A2, cc2, A'', c'', B'', d''⟩) (fun w h => ⟨by have h9 := h.2; rw [hnl] at h9; exact h9, by have h9 := h.1; rw [hnl] at h9; exact h9⟩)
    dsimp only [firsts, lasts, work, span]
    rw [← List.append_assoc, ← hnl]
    exact a3.perm (by repeat (first | exact Rems.nil | (apply Rems.cons; focus (repeat (first | with_reducible exact Rem.here | with_reducible apply Rem.there)))))
  · have h59 : r1.head? ≠ some 124 := by simpa using c2
    obtain ⟨q, rfl⟩ : ∃ q', q = q' + 1 := ⟨q - 1, by omega⟩
    rw [besideL, if_neg h59] at k2
    (refine X.exit rfl ?_; refine X.seq ?_)
    refine X.region ?_
    refine O.loadAggB ta85 ?_
    refine O.store _ ts85 ?_
    refine XO.nil ?_
    refine X.retC1 hfn ta85 rfl (fun w hs => CellsAt.of_blk (n := 4) hs .here rfl) (fun w' hs => ?_)
    rw [k2]
    exact ⟨⟨n1, A1, cc1, fA1, fc1, lA1, lc1⟩, k6, rfl, hs.perm (by repeat (first | exact Rems.nil | (apply Rems.cons; focus (repeat (first | with_reducible exact Rem.here | with_reducible apply Rem.there)))))⟩
end Go.Proofs.YtgegppbjpaeljaaDoor.Wv
