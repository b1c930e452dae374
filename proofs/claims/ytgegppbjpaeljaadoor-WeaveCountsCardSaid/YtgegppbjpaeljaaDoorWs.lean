/- Proved here: the reference's reader of weaves (next, one) reads as the plain reading does; where that fails it bears its fault. -/
import Derived.Test.YtgegppbjpaeljaaDoorWw
import Derived.Test.YtgegppbjpaeljaaDoorWr
set_option linter.unusedVariables false
set_option linter.unusedSimpArgs false
set_option maxRecDepth 10000
namespace Go.Proofs.YtgegppbjpaeljaaDoor.Ws
open Go Go.X Go.X.Wv Go.RowKit Go.Proofs.YtgegppbjpaeljaaDoor Go.Proofs.YtgegppbjpaeljaaDoor.Ty Go.Proofs.YtgegppbjpaeljaaDoor.Pl Go.Proofs.YtgegppbjpaeljaaDoor.Wv

/-- The reference's reader where it lies. -/
abbrev rC (s : ByteArray) (i : Nat) (A : Option Addr) (c n : Nat) (E : Int) : Obj := .cells #[.string s, .int .i64 i, .slice A n c, .int .i64 E] 91 (0, 0)
abbrev RW (b : Nat) (s : ByteArray) (i : Nat) (A : Option Addr) (c : Nat) (ts : List TaskM) : List HP :=
  [HP.blk b (rC s i A c ts.length 0), HP.own 46 2 (.slice A ts.length c) ts.length (planRow ts), HP.rd (NeedsOK ts)]
noncomputable def cxNext : Cx := ⟨Tryd.prog, 60, 35, []⟩
theorem next_calls (b : Nat) (s : ByteArray) (i : Nat) (A : Option Addr) (c n : Nat) (E : Int) (ch : UInt8) (hi : i ≤ s.size) (hs : s.size ≤ 200) (w0 : World) (hw : w0.heap[b]? = some (rC s i A c n E)) :
    Calls Tryd.prog 60 #[.pointer (some ⟨b, 0, none⟩), .int .u8 ch.toNat] w0 fun e w' => e = .returned (.bool (decide (E = 0) && decide ((rest s i).head? = some ch))) ∧ Below w0.heap.size w0 w' := by
  have c0 : w0.cell? ⟨b, 0, none⟩ = some (.string s) := by simp [World.cell?, hw, rC]
  have c1 : w0.cell? ⟨b, 1, none⟩ = some (.int .i64 i) := by simp [World.cell?, hw, rC]
  have c3 : w0.cell? ⟨b, 3, none⟩ = some (.int .i64 E) := by simp [World.cell?, hw, rC]
  refine calls_of_X cxNext [.pointer (some ⟨b, 0, none⟩), .int .u8 ch.toNat] Tryd.func60 (St.nil w0) ?_
  (refine X.seq ?_)
  refine X.region ?_
  refine O.assign ?_
  refine XO.nil ?_
  (refine X.seq ?_)
  refine X.regionR mixed (by kernel_rfl) ?_
  refine O.move ?_
  refine O.nilCheck ?_
  (first | refine O.fieldB0 td91_3 ?_ | refine O.fieldA td91_3 ?_ | refine O.fieldB td91_3 ?_)
  refine O.loadO tf3 c3 ?_
  refine O.eql ?_
  refine O.move ?_
  refine O.move ?_
  refine O.nilCheck ?_
  (first | refine O.fieldB0 td91_1 ?_ | refine O.fieldA td91_1 ?_ | refine O.fieldB td91_1 ?_)
  refine O.loadO tf3 c1 ?_
  refine O.move ?_
  refine O.nilCheck ?_
  (first | refine O.fieldB0 td91_0 ?_ | refine O.fieldA td91_0 ?_ | refine O.fieldB td91_0 ?_)
  refine O.loadO tf9 c0 ?_
  refine O.lenString tg9 ?_
  refine O.lss ?_
  refine O.pickAnd ?_
  refine O.move ?_
  refine O.move ?_
  refine O.nilCheck ?_
  (first | refine O.fieldB0 td91_0 ?_ | refine O.fieldA td91_0 ?_ | refine O.fieldB td91_0 ?_)
  refine O.loadO tf9 c0 ?_
  refine O.move ?_
  refine O.nilCheck ?_
  (first | refine O.fieldB0 td91_1 ?_ | refine O.fieldA td91_1 ?_ | refine O.fieldB td91_1 ?_)
  refine O.loadO tf3 c1 ?_
  refine O.index tg9 ?_ (h1 := by intro h; simp only [Bool.and_eq_true, beq_iff_eq, decide_eq_true_eq] at h; omega)
  refine O.move ?_
  refine O.eql ?_
  refine O.pickAnd ?_
  refine O.assign ?_
  refine XO.nilS ?_
  refine XO.nil ?_
  refine X.ret1 Tryd.func60 ?_
  refine fun w' hs => ⟨?_, hs.below⟩
  congr 2
  by_cases h : i < s.size
  · rw [(rest_head s i h).1]
    have : ((i : Int) < (s.size : Int)) = True := by simp; omega
    simp only [this, decide_true, Bool.and_true, Int.toNat_natCast, Option.some.injEq]
    congr 2
    exact propext ⟨fun h => UInt8.toNat_inj.1 (by omega), fun h => by rw [h]⟩
  · rw [rest_end s i (by omega)]
    have : ((i : Int) < (s.size : Int)) = False := by simp; omega
    simp [this]

def GoodR (t : T) (n : Nat) (x : Res) : Prop := x.new.map TaskM.spec = tasks capR t n ∧ Wf x.new
theorem GoodR.len {t : T} {n : Nat} {x : Res} (h : GoodR t n x) : x.new.length = size t := by
  have h1 := congrArg List.length h.1
  rwa [List.length_map, tasks_length] at h1
/-- What is left where the reading failed. -/
structure Bad where
  i : Nat
  A : Option Addr
  c : Nat
  n : Nat
  f : List Int
  l : List Int
  fA : Option Addr
  fc : Nat
  lA : Option Addr
  lc : Nat
  wk : Int
  sp : Int
structure BadOK (s : ByteArray) (m : Nat) (y : Bad) : Prop where
  i : y.i ≤ s.size
  f : y.f.length ≤ m
  l : y.l.length ≤ m
  wk0 : 0 ≤ y.wk
  wk : y.wk ≤ 10000 * (m : Int)
  sp0 : 0 ≤ y.sp
  sp : y.sp ≤ 10000 * (m : Int)
theorem BadOK.mono {s : ByteArray} {m m' : Nat} {y : Bad} (h : BadOK s m y) (hm : m ≤ m') : BadOK s m' y := by
  obtain ⟨h1, h2, h3, h4, h5, h6, h7⟩ := h
  exact ⟨h1, by omega, by omega, h4, by omega, h6, by omega⟩
def ReadsB (y : Bad) (w : World) : Prop := Reads w y.fA (ints y.f) ∧ Reads w y.lA (ints y.l)
def zeroBad (i : Nat) (A : Option Addr) (c n : Nat) : Bad := ⟨i, A, c, n, [], [], none, 0, none, 0, 0, 0⟩
theorem zeroBad_ok {s : ByteArray} {i : Nat} (m : Nat) (hi : i ≤ s.size) (A : Option Addr) (c n : Nat) : BadOK s m (zeroBad i A c n) := ⟨hi, Nat.zero_le _, Nat.zero_le _, Int.le_refl _, by show (0 : Int) ≤ _; omega, Int.le_refl _, by show (0 : Int) ≤ _; omega⟩
abbrev Sm := (T × L × Res) ⊕ Bad
def smV (n : Nat) : Sm → Value
  | .inl x => .agg #[.slice x.2.2.fA (firsts x.1 n).length x.2.2.fc, .slice x.2.2.lA (lasts x.1 n).length x.2.2.lc, .int .i64 (work capR x.1), .int .i64 (span capR x.1)]
  | .inr y => .agg #[.slice y.fA y.f.length y.fc, .slice y.lA y.l.length y.lc, .int .i64 y.wk, .int .i64 y.sp]
def smL (b : Nat) (s : ByteArray) (ts : List TaskM) : Sm → List HP
  | .inl x => [HP.blk b (rC s (s.size - x.2.1.length) x.2.2.A x.2.2.c (ts ++ x.2.2.new).length 0), HP.own 46 2 (.slice x.2.2.A (ts ++ x.2.2.new).length x.2.2.c) (ts ++ x.2.2.new).length (planRow (ts ++ x.2.2.new)), HP.rd (NeedsOK (ts ++ x.2.2.new)), HP.rd (ClothOK x.1 ts.length x.2.2)]
  | .inr y => [HP.blk b (rC s y.i y.A y.c y.n 2), HP.rd (ReadsB y)]
def smP (s : ByteArray) (m n : Nat) (p : Option (T × L)) : Sm → Prop
  | .inl x => p = some (x.1, x.2.1) ∧ GoodR x.1 n x.2.2
  | .inr y => p = none ∧ BadOK s m y
def OutR (b : Nat) (s : ByteArray) (m : Nat) (ts : List TaskM) (w : World) (S : Nat → Prop) (p : Option (T × L)) (en : Ending) (w' : World) : Prop :=
  ∃ x : Sm, smP s m ts.length p x ∧ en = .returned (smV ts.length x) ∧ St w S (smL b s ts x) w'
structure AtR (b : Nat) (s : ByteArray) (i : Nat) (A : Option Addr) (c : Nat) (ts : List TaskM) (w : World) (S : Nat → Prop) : Prop where
  hi : i ≤ s.size
  hs : s.size ≤ 200
  hts : ts.length ≤ i
  st : St w S (RW b s i A c ts) w
def OneR (f : Nat) : Prop := ∀ b s i A c ts w S, AtR b s i A c ts w S → 3 * (rest s i).length + 1 ≤ f →
  Calls Tryd.prog 83 #[.pointer (some ⟨b, 0, none⟩)] w (OutR b s (rest s i).length ts w S (one f (rest s i)))
def BehindR (f : Nat) : Prop := ∀ b s i A c ts w S, AtR b s i A c ts w S → 3 * (rest s i).length + 2 ≤ f →
  Calls Tryd.prog 59 #[.pointer (some ⟨b, 0, none⟩)] w (OutR b s (rest s i).length ts w S (behind f (rest s i)))
def BesideR (f : Nat) : Prop := ∀ b s i A c ts w S, AtR b s i A c ts w S → 3 * (rest s i).length + 3 ≤ f →
  Calls Tryd.prog 37 #[.pointer (some ⟨b, 0, none⟩)] w (OutR b s (rest s i).length ts w S (beside f (rest s i)))

theorem take_step {s : ByteArray} {i j : Nat} (hij : i ≤ j) (hj : j < s.size) : (rest s i).take (j + 1 - i) = (rest s i).take (j - i) ++ [(s[j]?).getD 0] := by
  have h1 := (rest_head s j hj).1
  rw [show j + 1 - i = (j - i) + 1 from by omega, List.take_add_one]
  have : (rest s i)[j - i]? = some ((s[j]?).getD 0) := by
    have h7 : (rest s j)[0]? = some ((s[j]?).getD 0) := by rw [← List.head?_eq_getElem?]; exact h1
    unfold rest at h7 ⊢
    rw [List.getElem?_drop] at h7 ⊢
    rw [show i + (j - i) = j + 0 from by omega]
    exact h7
  rw [this]
  rfl
theorem conv_byte (n : Nat) (h : n ≤ 255) (w : World) : (Go.convert 5 3 (.int .u8 n)).run Tryd.prog w = .ok (.int .i64 n) w := by
  have h1 : (underlying 5).run Tryd.prog w = .ok (.int .u8) w := by kernel_rfl
  have h2 : (underlying 3).run Tryd.prog w = .ok (.int .i64) w := by kernel_rfl
  have h3 : IntKind.i64.wrap (n : Int) = n := wrap_i64 (by omega) (by omega)
  simp [Go.convert, h1, h2, Conv.intToInt, h3]
theorem capR_snoc (l : L) (b : UInt8) : capR (l ++ [b]) = stepR (capR l) b := by rw [foldR, List.foldl_append]; rfl
noncomputable def cxOneR : Cx := ⟨Tryd.prog, 83, 147, []⟩
set_option maxHeartbeats 2000000 in
theorem oneR_step (f : Nat) (ih : BesideR f) : OneR (f + 1) := by
  intro b s i A c ts w S hat hf
  obtain ⟨hi, hz, hts, hst⟩ := hat
  have hfn := Tryd.func83
  have hrl := rest_length s i
  refine calls_of_X cxOneR [.pointer (some ⟨b, 0, none⟩)] hfn hst ?_
  (refine X.seq ?_)
  refine X.region ?_
  refine O.alloc tz93 (fun b2 hb2 => ?_)
  refine XO.nil ?_
  (refine X.seq ?_)
  refine X.region ?_
  refine O.move ?_
  refine O.callB (.bool (decide ((0 : Int) = 0) && decide ((rest s i).head? = some 40))) te60 ?_ (hc := by intro _ w hs; exact next_calls b s i A c ts.length 0 40 hi hz w (hs.blk_at (.there .here)))
  refine O.assign ?_
  refine XO.nil ?_
  (refine X.seq ?_; refine X.seq ?_)
  refine X.region ?_
  refine O.move ?_
  refine XO.nil ?_
  refine X.cond rfl (fun c2 => ?_) (fun c2 => ?_)
  · have hh : (rest s i).head? = some 40 := by simpa using c2
    have hlt : i < s.size := by
      rcases Nat.lt_or_ge i s.size with h' | h'
      · exact h'
      · rw [rest_end s i h'] at hh; cases hh
    have htl := (rest_head s i hlt).2
    have hrl1 := rest_length s (i + 1)
    have hone : one (f + 1) (rest s i) = (match beside f (rest s (i + 1)) with
      | some (c, r) => if r.head? = some 41 then some (c, r.tail) else none
      | none => none) := by rw [one, if_pos hh, htl]; rfl
    (refine X.seq ?_)
    refine X.region ?_
    refine O.move ?_
    refine O.nilCheck ?_
    (first | refine O.fieldB0 td91_1 ?_ | refine O.fieldA td91_1 ?_ | refine O.fieldB td91_1 ?_)
    (first | refine O.loadB tf3 ?_ | refine O.loadO tf3 (by first | assumption | (simp only [Nat.add_zero, Nat.zero_add]; assumption)) ?_ | refine O.loadOwn tf3 ?_)
    refine O.add (r := ((i + 1 : Nat) : Int)) ?_ (hr := by intro _; rw [wrap_i64 (by omega) (by omega)]; rfl)
    refine O.nilCheck ?_
    (first | refine O.fieldB0 td91_1 ?_ | refine O.fieldA td91_1 ?_ | refine O.fieldB td91_1 ?_)
    refine O.store _ ts3 ?_
    refine XO.nil ?_
    (refine X.seq ?_)
    refine X.region ?_
    refine O.move ?_
    refine O.callS (L1 := [HP.blk b (rC s (i + 1) (A) (c) (ts).length 0), HP.own 46 2 (.slice (A) (ts).length (c)) (ts).length (planRow (ts)), HP.rd (NeedsOK (ts))]) (α := Sm) (φ := smP s (rest s (i + 1)).length (ts).length (beside f (rest s (i + 1)))) (vo := smV (ts).length) (L1' := smL b s (ts)) te37 (hr := (by repeat (first | exact Rems.nil | (apply Rems.cons; focus (repeat (first | with_reducible exact Rem.here | with_reducible apply Rem.there)))))) (hc := by intro w' S' h1 h2 h3; exact ih b s (i + 1) A c ts w' S' ⟨by omega, hz, by omega, h1⟩ (by omega)) (next := ?_)
    rintro (⟨t, r, x⟩ | y) hp
    skip
    · obtain ⟨hp, hg⟩ := hp
      dsimp only [smV, smL] at hp hg ⊢
      simp only [List.cons_append, List.nil_append]
      obtain ⟨hsuf, hlen⟩ := beside_fact f hp
      have hrest := rest_suffix hsuf (by omega)
      have hsz := size_pos t
      refine O.alloc tz93 (fun b4 hb4 => ?_)
      refine O.store _ ts93 ?_
      refine XO.nil ?_
      (refine X.seq ?_)
      refine X.region ?_
      refine O.move ?_
      refine O.callB (.bool (decide ((0 : Int) = 0) && decide (r.head? = some 41))) te60 ?_ (hc := by intro _ w hs; exact (by have h9 := next_calls b s (s.size - r.length) x.A x.c (ts ++ x.new).length 0 41 (by omega) hz w (hs.blk_at (.there .here)); rw [← hrest] at h9; exact h9))
      refine O.assign ?_
      refine XO.nil ?_
      (refine X.seq ?_; refine X.seq ?_)
      refine X.region ?_
      refine O.move ?_
      refine O.not ?_
      refine XO.nil ?_
      refine X.cond rfl (fun c6 => ?_) (fun c6 => ?_)
      · (refine X.seq ?_)
        refine X.region ?_
        refine O.move ?_
        refine O.nilCheck ?_
        (first | refine O.fieldB0 td91_3 ?_ | refine O.fieldA td91_3 ?_ | refine O.fieldB td91_3 ?_)
        refine O.store _ ts3 ?_
        refine XO.nil ?_
        (refine X.seq ?_)
        refine X.region ?_
        refine O.build (.agg #[.slice none 0 0, .slice none 0 0, .int .i64 0, .int .i64 0]) ?_
        refine O.store _ ts93 ?_
        refine XO.nil ?_
        refine X.retC1 hfn ta93 rfl (fun w hs => CellsAt.of_blk (n := 4) hs .here rfl) (fun w' hs => ?_)
        have h41 : r.head? ≠ some 41 := by simpa using c6
        rw [hone, hp]
        dsimp only
        rw [if_neg h41]
        refine ⟨.inr (zeroBad (s.size - r.length) x.A x.c (ts ++ x.new).length), ⟨rfl, zeroBad_ok _ (by omega) _ _ _⟩, rfl, ?_⟩
        exact ((hs.rems (L1 := [HP.blk b (rC s (s.size - r.length) x.A x.c (ts ++ x.new).length 2)]) (by repeat (first | exact Rems.nil | (apply Rems.cons; focus (repeat (first | with_reducible exact Rem.here | with_reducible apply Rem.there)))))).drop.rd_true.rd_mono (ψ := ReadsB (zeroBad (s.size - r.length) x.A x.c (ts ++ x.new).length)) (fun w _ => ⟨Reads.nil _ _, Reads.nil _ _⟩)).swap
      · have h41 : r.head? = some 41 := by simpa using c6
        have htl2 := tail_len h41
        (refine X.skip ?_; refine X.seq ?_)
        refine X.region ?_
        refine O.move ?_
        refine O.nilCheck ?_
        (first | refine O.fieldB0 td91_1 ?_ | refine O.fieldA td91_1 ?_ | refine O.fieldB td91_1 ?_)
        (first | refine O.loadB tf3 ?_ | refine O.loadO tf3 (by first | assumption | (simp only [Nat.add_zero, Nat.zero_add]; assumption)) ?_ | refine O.loadOwn tf3 ?_)
        refine O.add (r := ((s.size - r.tail.length : Nat) : Int)) ?_ (hr := by intro _; rw [wrap_i64 (by omega) (by omega)]; omega)
        refine O.nilCheck ?_
        (first | refine O.fieldB0 td91_1 ?_ | refine O.fieldA td91_1 ?_ | refine O.fieldB td91_1 ?_)
        refine O.store _ ts3 ?_
        refine XO.nil ?_
        (refine X.seq ?_)
        refine X.region ?_
        refine O.loadAggB ta93 ?_
        refine O.store _ ts93 ?_
        refine XO.nil ?_
        refine X.retC1 hfn ta93 rfl (fun w hs => CellsAt.of_blk (n := 4) hs .here rfl) (fun w' hs => ?_)
        rw [hone, hp]
        dsimp only
        rw [if_pos h41]
        exact ⟨.inl (t, r.tail, x), ⟨rfl, hg⟩, rfl, hs.perm (by repeat (first | exact Rems.nil | (apply Rems.cons; focus (repeat (first | with_reducible exact Rem.here | with_reducible apply Rem.there)))))⟩
    · obtain ⟨hp, hg⟩ := hp
      dsimp only [smV, smL] at hp hg ⊢
      simp only [List.cons_append, List.nil_append]
      have hgi := hg.i
      refine O.alloc tz93 (fun b4 hb4 => ?_)
      refine O.store _ ts93 ?_
      refine XO.nil ?_
      (refine X.seq ?_)
      refine X.region ?_
      refine O.move ?_
      refine O.callB (.bool (decide ((2 : Int) = 0) && decide ((rest s y.i).head? = some 41))) te60 ?_ (hc := by intro _ w hs; exact next_calls b s y.i y.A y.c y.n 2 41 hgi hz w (hs.blk_at (.there .here)))
      refine O.assign ?_
      refine XO.nil ?_
      (refine X.seq ?_; refine X.seq ?_)
      refine X.region ?_
      refine O.move ?_
      refine O.not ?_
      refine XO.nil ?_
      refine X.condT rfl (by simp) ?_
      (refine X.seq ?_)
      refine X.region ?_
      refine O.move ?_
      refine O.nilCheck ?_
      (first | refine O.fieldB0 td91_3 ?_ | refine O.fieldA td91_3 ?_ | refine O.fieldB td91_3 ?_)
      refine O.store _ ts3 ?_
      refine XO.nil ?_
      (refine X.seq ?_)
      refine X.region ?_
      refine O.build (.agg #[.slice none 0 0, .slice none 0 0, .int .i64 0, .int .i64 0]) ?_
      refine O.store _ ts93 ?_
      refine XO.nil ?_
      refine X.retC1 hfn ta93 rfl (fun w hs => CellsAt.of_blk (n := 4) hs .here rfl) (fun w' hs => ?_)
      rw [hone, hp]
      refine ⟨.inr (zeroBad y.i y.A y.c y.n), ⟨rfl, zeroBad_ok _ hgi _ _ _⟩, rfl, ?_⟩
      exact ((hs.rems (L1 := [HP.blk b (rC s y.i y.A y.c y.n 2)]) (by repeat (first | exact Rems.nil | (apply Rems.cons; focus (repeat (first | with_reducible exact Rem.here | with_reducible apply Rem.there)))))).drop.rd_true.rd_mono (ψ := ReadsB (zeroBad y.i y.A y.c y.n)) (fun w _ => ⟨Reads.nil _ _, Reads.nil _ _⟩)).swap
  · have hone : one (f + 1) (rest s i) = number (rest s i) := by
      rw [one, if_neg (by simpa using c2)]
    rw [hone]
    (refine X.skip ?_; refine X.seq ?_)
    refine X.region ?_
    refine O.assign ?_
    refine XO.nil ?_
    (refine X.seq ?_)
    refine X.region ?_
    refine O.move ?_
    refine O.nilCheck ?_
    (first | refine O.fieldB0 td91_1 ?_ | refine O.fieldA td91_1 ?_ | refine O.fieldB td91_1 ?_)
    (first | refine O.loadB tf3 ?_ | refine O.loadO tf3 (by first | assumption | (simp only [Nat.add_zero, Nat.zero_add]; assumption)) ?_ | refine O.loadOwn tf3 ?_)
    refine O.assign ?_
    refine XO.nil ?_
    (refine X.seq ?_; refine X.block ?_)
    refine X.loop (γ := Nat) (fun j => i ≤ j ∧ j ≤ s.size ∧ (rest s i).takeWhile isDig = (rest s i).take (j - i) ++ (rest s j).takeWhile isDig)
      (fun j => [⟨0, true, .pointer (some ⟨b, 0, none⟩)⟩, ⟨2, true, .pointer (some ⟨b2, 0, none⟩)⟩, ⟨6, true, .int .i64 (capR ((rest s i).take (j - i)))⟩, ⟨7, true, .int .i64 i⟩])
      (fun j => St w S [HP.blk b2 (.cells #[.slice none 0 0, .slice none 0 0, .int .i64 0, .int .i64 0] 93 (0, 0)), HP.blk b (rC s j A c ts.length 0), HP.own 46 2 (.slice A ts.length c) ts.length (planRow ts), HP.rd (NeedsOK ts)]) (fun j => s.size - j) i ⟨Nat.le_refl _, hi, by simp⟩ (by refine Sub.cons rfl rfl (Sub.cons rfl rfl (Sub.cons rfl (by simp [capR]) (Sub.cons rfl rfl Sub.nil)))) (fun w hs => hs.perm (by repeat (first | exact Rems.nil | (apply Rems.cons; focus (repeat (first | with_reducible exact Rem.here | with_reducible apply Rem.there)))))) ?_
    rintro j ⟨h1, h2, h3⟩ next
    try dsimp only at h1 h2 h3 ⊢
    have hpre : ((rest s i).take (j - i)).all isDig = true := by
      have h4 : ((rest s i).takeWhile isDig).all isDig = true := by simp [List.all_takeWhile]
      rw [h3, List.all_append, Bool.and_eq_true] at h4
      exact h4.1
    have hcb := foldR_bound _ 0 hpre (by decide) (by decide)
    rw [← foldR] at hcb
    (refine X.seq ?_; refine X.seq ?_)
    refine X.regionR mixed (by kernel_rfl) ?_
    refine O.move ?_
    refine O.nilCheck ?_
    (first | refine O.fieldB0 td91_3 ?_ | refine O.fieldA td91_3 ?_ | refine O.fieldB td91_3 ?_)
    (first | refine O.loadB tf3 ?_ | refine O.loadO tf3 (by first | assumption | (simp only [Nat.add_zero, Nat.zero_add]; assumption)) ?_ | refine O.loadOwn tf3 ?_)
    refine O.eql ?_
    refine O.move ?_
    refine O.move ?_
    refine O.nilCheck ?_
    (first | refine O.fieldB0 td91_1 ?_ | refine O.fieldA td91_1 ?_ | refine O.fieldB td91_1 ?_)
    (first | refine O.loadB tf3 ?_ | refine O.loadO tf3 (by first | assumption | (simp only [Nat.add_zero, Nat.zero_add]; assumption)) ?_ | refine O.loadOwn tf3 ?_)
    refine O.move ?_
    refine O.nilCheck ?_
    (first | refine O.fieldB0 td91_0 ?_ | refine O.fieldA td91_0 ?_ | refine O.fieldB td91_0 ?_)
    (first | refine O.loadB tf9 ?_ | refine O.loadO tf9 (by first | assumption | (simp only [Nat.add_zero, Nat.zero_add]; assumption)) ?_ | refine O.loadOwn tf9 ?_)
    refine O.lenString tg9 ?_
    refine O.lss ?_
    refine O.pickAnd ?_
    refine O.move ?_
    refine O.move ?_
    refine O.nilCheck ?_
    (first | refine O.fieldB0 td91_0 ?_ | refine O.fieldA td91_0 ?_ | refine O.fieldB td91_0 ?_)
    (first | refine O.loadB tf9 ?_ | refine O.loadO tf9 (by first | assumption | (simp only [Nat.add_zero, Nat.zero_add]; assumption)) ?_ | refine O.loadOwn tf9 ?_)
    refine O.move ?_
    refine O.nilCheck ?_
    (first | refine O.fieldB0 td91_1 ?_ | refine O.fieldA td91_1 ?_ | refine O.fieldB td91_1 ?_)
    (first | refine O.loadB tf3 ?_ | refine O.loadO tf3 (by first | assumption | (simp only [Nat.add_zero, Nat.zero_add]; assumption)) ?_ | refine O.loadOwn tf3 ?_)
    refine O.index tg9 ?_ (h1 := by intro h; simp only [Bool.true_and, beq_iff_eq, decide_eq_true_eq, Bool.and_eq_true] at h; omega)
    refine O.geq ?_
    refine O.pickAnd ?_
    refine O.move ?_
    refine O.move ?_
    refine O.nilCheck ?_
    (first | refine O.fieldB0 td91_0 ?_ | refine O.fieldA td91_0 ?_ | refine O.fieldB td91_0 ?_)
    (first | refine O.loadB tf9 ?_ | refine O.loadO tf9 (by first | assumption | (simp only [Nat.add_zero, Nat.zero_add]; assumption)) ?_ | refine O.loadOwn tf9 ?_)
    refine O.move ?_
    refine O.nilCheck ?_
    (first | refine O.fieldB0 td91_1 ?_ | refine O.fieldA td91_1 ?_ | refine O.fieldB td91_1 ?_)
    (first | refine O.loadB tf3 ?_ | refine O.loadO tf3 (by first | assumption | (simp only [Nat.add_zero, Nat.zero_add]; assumption)) ?_ | refine O.loadOwn tf3 ?_)
    refine O.index tg9 ?_ (h1 := by intro h; simp only [Bool.true_and, beq_iff_eq, decide_eq_true_eq, Bool.and_eq_true] at h; omega)
    refine O.leq ?_
    refine O.pickAnd ?_
    refine XO.nilS ?_
    refine XO.nil ?_
    refine X.cond rfl (fun c13 => ?_) (fun c13 => ?_)
    · simp only [decide_true, Bool.true_and, Bool.and_eq_true, decide_eq_true_eq] at c13
      obtain ⟨⟨h4, h5⟩, h6⟩ := c13
      have hlt : j < s.size := by omega
      obtain ⟨g1, g2⟩ := rest_head s j hlt
      have hdig : isDig ((s[j]?).getD 0) = true := by
        simp only [Int.toNat_natCast] at h5 h6
        simp only [isDig, Bool.and_eq_true, decide_eq_true_eq]
        omega
      have hb48 : 48 ≤ ((s[j]?).getD 0).toNat := by simp only [isDig, Bool.and_eq_true, decide_eq_true_eq] at hdig; omega
      have hb57 : ((s[j]?).getD 0).toNat ≤ 57 := by simp only [isDig, Bool.and_eq_true, decide_eq_true_eq] at hdig; omega
      have hrj : rest s j = (s[j]?).getD 0 :: rest s (j + 1) := by
        cases hr : rest s j with
        | nil => rw [hr] at g1; cases g1
        | cons x r => rw [hr] at g1 g2; simp only [List.head?_cons, Option.some.injEq] at g1; rw [g1, ← g2]; rfl
      have hstep : stepR (capR ((rest s i).take (j - i))) ((s[j]?).getD 0) = capR ((rest s i).take (j + 1 - i)) := by rw [take_step h1 hlt, capR_snoc]
      (refine X.skip ?_; refine X.block ?_; refine X.seq ?_; refine X.seq ?_)
      refine X.region ?_
      refine O.move ?_
      refine O.lss ?_
      refine XO.nil ?_
      refine X.cond rfl (fun c14 => ?_) (fun c14 => ?_)
      · have hlt14 := of_decide_eq_true c14
        refine X.regionR mixed (by kernel_rfl) ?_
        refine O.move ?_
        refine O.mul ?_
        refine O.move ?_
        refine O.nilCheck ?_
        (first | refine O.fieldB0 td91_0 ?_ | refine O.fieldA td91_0 ?_ | refine O.fieldB td91_0 ?_)
        (first | refine O.loadB tf9 ?_ | refine O.loadO tf9 (by first | assumption | (simp only [Nat.add_zero, Nat.zero_add]; assumption)) ?_ | refine O.loadOwn tf9 ?_)
        refine O.move ?_
        refine O.nilCheck ?_
        (first | refine O.fieldB0 td91_1 ?_ | refine O.fieldA td91_1 ?_ | refine O.fieldB td91_1 ?_)
        (first | refine O.loadB tf3 ?_ | refine O.loadO tf3 (by first | assumption | (simp only [Nat.add_zero, Nat.zero_add]; assumption)) ?_ | refine O.loadOwn tf3 ?_)
        refine O.index tg9 ?_
        refine O.conv (.int .i64 ((s[(j : Int).toNat]?).getD 0).toNat) ?_ (hrun := by intro _ w _; exact conv_byte _ (by rw [Int.toNat_natCast]; omega) w)
        refine O.add ?_
        refine O.sub ?_
        have hval : capR ((rest s i).take (j - i)) * 10 + (((s[(j : Int).toNat]?).getD 0).toNat : Int) - 48 = capR ((rest s i).take (j + 1 - i)) := by
          rw [← hstep, stepR, if_pos hlt14, Int.toNat_natCast]
          omega
        rw [hval]
        refine O.assign ?_
        refine XO.nilS ?_
        refine XO.nil ?_
        refine X.region ?_
        refine O.move ?_
        refine O.nilCheck ?_
        (first | refine O.fieldB0 td91_1 ?_ | refine O.fieldA td91_1 ?_ | refine O.fieldB td91_1 ?_)
        (first | refine O.loadB tf3 ?_ | refine O.loadO tf3 (by first | assumption | (simp only [Nat.add_zero, Nat.zero_add]; assumption)) ?_ | refine O.loadOwn tf3 ?_)
        refine O.add (r := ((j + 1 : Nat) : Int)) ?_ (hr := by intro _; rw [wrap_i64 (by omega) (by omega)]; rfl)
        refine O.nilCheck ?_
        (first | refine O.fieldB0 td91_1 ?_ | refine O.fieldA td91_1 ?_ | refine O.fieldB td91_1 ?_)
        refine O.store _ ts3 ?_
        refine XO.nil ?_
        (refine X.inBlock ?_)
        refine X.st (fun w hs => hs.perm (by repeat (first | exact Rems.nil | (apply Rems.cons; focus (repeat (first | with_reducible exact Rem.here | with_reducible apply Rem.there)))))) (X.sub (by repeat (first | exact Sub.nil | refine Sub.cons rfl (by first | rfl | simp) ?_)) (next (j + 1) ⟨by omega, by omega, ?_⟩ (by omega)))
        rw [h3, hrj, List.takeWhile_cons, if_pos hdig, take_step h1 hlt, List.append_assoc]
        rfl
      · (refine X.skip ?_)
        have hlt14 := of_decide_eq_false c14
        rw [show capR ((rest s i).take (j - i)) = capR ((rest s i).take (j + 1 - i)) from by rw [← hstep, stepR, if_neg hlt14]]
        refine X.region ?_
        refine O.move ?_
        refine O.nilCheck ?_
        (first | refine O.fieldB0 td91_1 ?_ | refine O.fieldA td91_1 ?_ | refine O.fieldB td91_1 ?_)
        (first | refine O.loadB tf3 ?_ | refine O.loadO tf3 (by first | assumption | (simp only [Nat.add_zero, Nat.zero_add]; assumption)) ?_ | refine O.loadOwn tf3 ?_)
        refine O.add (r := ((j + 1 : Nat) : Int)) ?_ (hr := by intro _; rw [wrap_i64 (by omega) (by omega)]; rfl)
        refine O.nilCheck ?_
        (first | refine O.fieldB0 td91_1 ?_ | refine O.fieldA td91_1 ?_ | refine O.fieldB td91_1 ?_)
        refine O.store _ ts3 ?_
        refine XO.nil ?_
        (refine X.inBlock ?_)
        refine X.st (fun w hs => hs.perm (by repeat (first | exact Rems.nil | (apply Rems.cons; focus (repeat (first | with_reducible exact Rem.here | with_reducible apply Rem.there)))))) (X.sub (by repeat (first | exact Sub.nil | refine Sub.cons rfl (by first | rfl | simp) ?_)) (next (j + 1) ⟨by omega, by omega, ?_⟩ (by omega)))
        rw [h3, hrj, List.takeWhile_cons, if_pos hdig, take_step h1 hlt, List.append_assoc]
        rfl
    · have hnd : (rest s j).takeWhile isDig = [] := by
        by_cases hlt : j < s.size
        · obtain ⟨g1, g2⟩ := rest_head s j hlt
          cases hr : rest s j with
          | nil => rfl
          | cons x r =>
            rw [hr] at g1
            simp only [List.head?_cons, Option.some.injEq] at g1
            have hnot : isDig x = false := by
              rw [g1]
              have h4 : ((j : Int) < (s.size : Int)) = True := by simp; omega
              simp only [Int.toNat_natCast, h4, decide_true, Bool.true_and] at c13
              simp only [isDig]
              revert c13
              simp only [Bool.and_eq_false_iff, decide_eq_false_iff_not]
              omega
            simp [List.takeWhile_cons, hnot]
        · rw [rest_end s j (by omega)]; rfl
      have hds : (rest s i).takeWhile isDig = (rest s i).take (j - i) := by rw [h3, hnd, List.append_nil]
      have hdw : (rest s i).dropWhile isDig = rest s j := by
        have h4 := take_drop isDig (rest s i)
        rw [hds] at h4
        have h5 : (rest s i).take (j - i) ++ (rest s i).drop (j - i) = rest s i := List.take_append_drop _ _
        have h6 := List.append_cancel_left (h4.trans h5.symm)
        rw [h6]
        unfold rest
        rw [List.drop_drop, show i + (j - i) = j from by omega]
      have hdl : ((rest s i).takeWhile isDig).length = j - i := by rw [hds, List.length_take, rest_length]; omega
      rw [← hds] at hpre hcb ⊢
      generalize hdsd : (rest s i).takeWhile isDig = ds at *
      have hnum : number (rest s i) = if ds.isEmpty || (rest s i).head? == some 48 then none else some (.num ds, rest s j) := by
        unfold number
        rw [hdsd, hdw]
      (refine X.exit rfl ?_; refine X.seq ?_; refine X.seq ?_)
      refine X.region ?_
      refine O.move ?_
      refine O.nilCheck ?_
      (first | refine O.fieldB0 td91_1 ?_ | refine O.fieldA td91_1 ?_ | refine O.fieldB td91_1 ?_)
      (first | refine O.loadB tf3 ?_ | refine O.loadO tf3 (by first | assumption | (simp only [Nat.add_zero, Nat.zero_add]; assumption)) ?_ | refine O.loadOwn tf3 ?_)
      refine O.move ?_
      refine O.eql ?_
      refine O.move ?_
      refine O.move ?_
      refine O.nilCheck ?_
      (first | refine O.fieldB0 td91_0 ?_ | refine O.fieldA td91_0 ?_ | refine O.fieldB td91_0 ?_)
      (first | refine O.loadB tf9 ?_ | refine O.loadO tf9 (by first | assumption | (simp only [Nat.add_zero, Nat.zero_add]; assumption)) ?_ | refine O.loadOwn tf9 ?_)
      refine O.move ?_
      refine O.index tg9 ?_ (h1 := by intro h; simp only [Bool.true_and, beq_iff_eq, decide_eq_false_iff_not] at h; omega)
      refine O.eql ?_
      refine O.pickOr ?_
      refine XO.nil ?_
      refine X.cond rfl (fun c17 => ?_) (fun c17 => ?_)
      · have hnone : number (rest s i) = none := by
          rw [hnum, if_pos]
          simp only [Bool.or_eq_true, decide_eq_true_eq, Int.toNat_natCast] at c17
          simp only [Bool.or_eq_true, List.isEmpty_iff, beq_iff_eq]
          by_cases hij : i = j
          · exact .inl (List.eq_nil_of_length_eq_zero (by omega))
          · refine .inr ?_
            rw [(rest_head s i (by omega)).1]
            congr 1
            exact UInt8.toNat_inj.1 (by rcases c17 with h | h; exact absurd h (by omega); exact (by omega : ((s[i]?).getD 0).toNat = 48))
        (refine X.seq ?_)
        refine X.region ?_
        refine O.move ?_
        refine O.nilCheck ?_
        (first | refine O.fieldB0 td91_3 ?_ | refine O.fieldA td91_3 ?_ | refine O.fieldB td91_3 ?_)
        refine O.store _ ts3 ?_
        refine XO.nil ?_
        (refine X.seq ?_)
        refine X.region ?_
        refine O.build (.agg #[.slice none 0 0, .slice none 0 0, .int .i64 0, .int .i64 0]) ?_
        refine O.store _ ts93 ?_
        refine XO.nil ?_
        refine X.retC1 hfn ta93 rfl (fun w hs => CellsAt.of_blk (n := 4) hs .here rfl) (fun w' hs => ?_)
        rw [hnone]
        refine ⟨.inr (zeroBad j A c ts.length), ⟨rfl, zeroBad_ok _ h2 _ _ _⟩, rfl, ?_⟩
        exact ((hs.rems (L1 := [HP.blk b (rC s j A c ts.length 2)]) (by repeat (first | exact Rems.nil | (apply Rems.cons; focus (repeat (first | with_reducible exact Rem.here | with_reducible apply Rem.there)))))).drop.rd_true.rd_mono (ψ := ReadsB (zeroBad j A c ts.length)) (fun w _ => ⟨Reads.nil _ _, Reads.nil _ _⟩)).swap
      · simp only [Bool.or_eq_false_iff, decide_eq_false_iff_not, Int.toNat_natCast] at c17
        have hij : i ≠ j := by omega
        have hsome : number (rest s i) = some (.num ds, rest s j) := by
          rw [hnum, if_neg]
          simp only [Bool.or_eq_true, List.isEmpty_iff, beq_iff_eq, not_or]
          refine ⟨fun e => ?_, fun e => ?_⟩
          · rw [e] at hdl; simp at hdl; omega
          · rw [(rest_head s i (by omega)).1] at e
            have e2 := Option.some.inj e
            rw [e2] at c17
            exact c17.2 rfl
        (refine X.skip ?_; refine X.seq ?_)
        refine X.region ?_
        refine O.move ?_
        refine O.move ?_
        refine O.nilCheck ?_
        (first | refine O.fieldB0 td91_2 ?_ | refine O.fieldA td91_2 ?_ | refine O.fieldB td91_2 ?_)
        (first | refine O.loadB tf33 ?_ | refine O.loadO tf33 (by first | assumption | (simp only [Nat.add_zero, Nat.zero_add]; assumption)) ?_ | refine O.loadOwn tf33 ?_)
        refine O.move ?_
        refine O.build (.agg #[.int .i64 (capR ds), .slice none 0 0]) ?_
        refine O.buildSlice 46 #[.int .i64 (capR ds), .slice none 0 0] (fun g hg => ?_)
        refine O.append [.int .i64 (capR ds), .slice none 0 0] 1 tl33 elemTask (hsrc := fun w hs => Src.ofBlk tl33.1 hs .here rfl rfl) (h63 := by simp only [maxLen]; omega) (hbytes := by omega) (next := fun A' c' => ?_)
        refine O.nilCheck ?_
        (first | refine O.fieldB0 td91_2 ?_ | refine O.fieldA td91_2 ?_ | refine O.fieldB td91_2 ?_)
        refine O.store _ ts33 ?_
        refine XO.nil ?_
        (refine X.seq ?_)
        refine X.region ?_
        refine O.move ?_
        refine O.nilCheck ?_
        (first | refine O.fieldB0 td91_2 ?_ | refine O.fieldA td91_2 ?_ | refine O.fieldB td91_2 ?_)
        (first | refine O.loadB tf33 ?_ | refine O.loadO tf33 (by first | assumption | (simp only [Nat.add_zero, Nat.zero_add]; assumption)) ?_ | refine O.loadOwn tf33 ?_)
        refine O.lenSlice tl33 ?_
        refine O.sub (r := (ts.length : Int)) ?_ (hr := by rw [wrap_i64 (by omega) (by omega)]; omega)
        refine O.buildSlice 3 #[.int .i64 ts.length] (fun g2 hg2 => ?_)
        refine O.assign ?_
        refine XO.nil ?_
        (refine X.seq ?_)
        refine X.region ?_
        refine O.move ?_
        refine O.move ?_
        refine O.move ?_
        refine O.move ?_
        refine O.build (.agg #[.slice (some ⟨g2, 0, none⟩) 1 1, .slice (some ⟨g2, 0, none⟩) 1 1, .int .i64 (capR ds), .int .i64 (capR ds)]) ?_
        refine O.store _ ts93 ?_
        refine XO.nil ?_
        refine X.retC1 hfn ta93 rfl (fun w hs => CellsAt.of_blk (n := 4) hs .here rfl) (fun w' hs => ?_)
        rw [hsome]
        refine ⟨.inl (.num ds, rest s j, ⟨[⟨capR ds, [], none, 0⟩], A', c', some ⟨g2, 0, none⟩, 1, some ⟨g2, 0, none⟩, 1⟩), ⟨rfl, rfl, ?_⟩, rfl, ?_⟩
        · intro t ht _
          obtain rfl := List.mem_singleton.1 ht
          exact ⟨rfl, rfl⟩
        · have hj : s.size - (rest s j).length = j := by rw [rest_length]; omega
          have a1 := (hs.rems (L1 := [HP.blk g2 (.cells #[.int .i64 ts.length] 3 (0, 0))]) (by repeat (first | exact Rems.nil | (apply Rems.cons; focus (repeat (first | with_reducible exact Rem.here | with_reducible apply Rem.there))))))
          simp only [List.cons_append, List.nil_append] at a1
          have a2 := a1.rd_blk.rd_mono (ψ := ClothOK (.num ds) ts.length ⟨[⟨capR ds, [], none, 0⟩], A', c', some ⟨g2, 0, none⟩, 1, some ⟨g2, 0, none⟩, 1⟩) (fun w h => ⟨h, h⟩)
          have a3 := a2.rems (L1 := [HP.rd (NeedsOK ts)]) (by repeat (first | exact Rems.nil | (apply Rems.cons; focus (repeat (first | with_reducible exact Rem.here | with_reducible apply Rem.there)))))
          simp only [List.cons_append, List.nil_append] at a3
          have a4 := a3.rd_mono (ψ := NeedsOK (ts ++ [⟨capR ds, [], none, 0⟩])) (fun w h t ht => by
            rcases List.mem_append.1 ht with ht | ht
            · exact h t ht
            · obtain rfl := List.mem_singleton.1 ht
              exact Reads.nil _ _)
          dsimp only [smL]
          rw [hj, planRow_snoc, List.length_append, List.length_singleton]
          simp only [TaskM.cells, List.length_nil]
          exact a4.perm (by repeat (first | exact Rems.nil | (apply Rems.cons; focus (repeat (first | with_reducible exact Rem.here | with_reducible apply Rem.there)))))
end Go.Proofs.YtgegppbjpaeljaaDoor.Ws
