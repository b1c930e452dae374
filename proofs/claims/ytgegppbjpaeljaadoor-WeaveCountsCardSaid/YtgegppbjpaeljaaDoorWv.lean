/- Proved here: weave's reader: (*reader).is and (*reader).number do what the reading in plain Lean does. -/
import Derived.Test.YtgegppbjpaeljaaDoorPl
import Derived.Test.YtgegppbjpaeljaaDoorWp
import Derived.Test.YtgegppbjpaeljaaDoorShelf
import Derived.Lib.AtoiAllCases
set_option linter.unusedVariables false
set_option linter.unusedSimpArgs false
set_option maxRecDepth 10000
namespace Go.Proofs.YtgegppbjpaeljaaDoor.Wv
open Go Go.X Go.X.Wv Go.RowKit Go.Proofs.YtgegppbjpaeljaaDoor.Ty Go.Proofs.YtgegppbjpaeljaaDoor.Pl

/-! ### Atoi of digits -/
theorem fold_ge : ∀ (l : List UInt8) (acc : Nat), acc ≤ l.foldl (fun n b => n * 10 + (b.toNat - 48)) acc
  | [], _ => Nat.le_refl _
  | b :: r, acc => Nat.le_trans (by omega) (fold_ge r (acc * 10 + (b.toNat - 48)))
theorem parse_digits : ∀ (l : List UInt8) (acc : Nat), l.all isDig = true → Lib.parseUint10 acc l = .ok (l.foldl (fun n b => n * 10 + (b.toNat - 48)) acc) ∨ (Lib.parseUint10 acc l = .range ∧ 9223372036854775808 ≤ l.foldl (fun n b => n * 10 + (b.toNat - 48)) acc)
  | [], _, _ => .inl rfl
  | b :: r, acc, h => by
    simp only [List.all_cons, Bool.and_eq_true, isDig, decide_eq_true_eq] at h
    have hge := fold_ge r (acc * 10 + (b.toNat - 48))
    simp only [Lib.parseUint10, if_pos h.1, List.foldl_cons]
    split
    · exact .inr ⟨rfl, by omega⟩
    · split
      · exact .inr ⟨rfl, by omega⟩
      · exact parse_digits r _ (by simpa [isDig] using h.2)
theorem atoi_digits {ds : List UInt8} (h : ds.all isDig = true) (hne : ds ≠ []) : Lib.atoiAll ds = .ok (val ds : Int) ∨ (Lib.atoiAll ds = .range ∧ 20 < val ds) := by
  cases ds with
  | nil => exact absurd rfl hne
  | cons c r =>
    have hc : isDig c = true := by simp only [List.all_cons, Bool.and_eq_true] at h; exact h.1
    simp only [isDig, Bool.and_eq_true, decide_eq_true_eq] at hc
    rw [Lib.atoiAll_plain c r (by omega) (by omega)]
    have hp := parse_digits (c :: r) 0 h
    unfold Lib.parseMag
    rw [if_neg (by simp)]
    rcases hp with h1 | ⟨h1, h2⟩
    · rw [h1]
      simp only [Lib.signless]
      split
      · rename_i h3
        exact .inr ⟨rfl, by unfold val; omega⟩
      · exact .inl rfl
    · rw [h1]
      exact .inr ⟨rfl, by unfold val; omega⟩

/-- What the listed error variables give. -/
def ErrsAt (w : World) : Prop := (∃ ev, w.cell? ⟨6, 0, none⟩ = some ev ∧ (ev = .nilIface ∨ ∃ te pe, ev = .iface te pe)) ∧ ∃ ev, w.cell? ⟨7, 0, none⟩ = some ev ∧ (ev = .nilIface ∨ ∃ te pe, ev = .iface te pe)
def capW (ds : L) : Int := if 20 < val ds then 21 else val ds
theorem capW_le (ds : L) : 0 ≤ capW ds ∧ capW ds ≤ (21 : Nat) := by unfold capW; split <;> omega
def rest (s : ByteArray) (i : Nat) : L := s.data.toList.drop i
theorem rest_head (s : ByteArray) (i : Nat) (h : i < s.size) : (rest s i).head? = some ((s[i]?).getD 0) ∧ (rest s i).tail = rest s (i + 1) := by
  have hl : i < s.data.toList.length := by rw [Array.length_toList]; exact h
  have h1 : s[i]? = some (s.data.toList[i]) := by rw [getElem?_pos s i h]; rfl
  rw [h1]
  unfold rest
  rw [List.drop_eq_getElem_cons hl]
  exact ⟨rfl, rfl⟩
theorem rest_end (s : ByteArray) (i : Nat) (h : s.size ≤ i) : rest s i = [] := List.drop_eq_nil_of_le (by rw [Array.length_toList]; exact h)
theorem rest_length (s : ByteArray) (i : Nat) : (rest s i).length = s.size - i := by unfold rest; rw [List.length_drop, Array.length_toList]; rfl
theorem rest_suffix {s : ByteArray} {i : Nat} {r : L} (h : r <:+ rest s i) (hi : i ≤ s.size) : r = rest s (s.size - r.length) := by
  obtain ⟨p, hp⟩ := h
  have h1 := congrArg List.length hp
  rw [List.length_append, rest_length] at h1
  unfold rest at hp ⊢
  rw [show s.size - r.length = i + p.length from by omega, ← List.drop_drop, ← hp, List.drop_left]

/-- The reader: where it lies, what it has read. -/
abbrev readerC (s : ByteArray) (i : Nat) (A : Option Addr) (c n : Nat) : Obj := .cells #[.string s, .int .i64 i, .slice A n c] 83 (0, 0)
abbrev RD (b : Nat) (s : ByteArray) (i : Nat) (A : Option Addr) (c : Nat) (ts : List TaskM) : List HP :=
  [HP.blk b (readerC s i A c ts.length), HP.own 46 2 (.slice A ts.length c) ts.length (planRow ts), HP.rd (NeedsOK ts)]

noncomputable def cxIs : Cx := ⟨Tryd.prog, 57, 28, []⟩
theorem is_calls (b : Nat) (s : ByteArray) (i : Nat) (A : Option Addr) (c n : Nat) (ch : UInt8) (hi : i ≤ s.size) (hs : s.size ≤ 200) (w0 : World) (hw : w0.heap[b]? = some (readerC s i A c n)) :
    Calls Tryd.prog 57 #[.pointer (some ⟨b, 0, none⟩), .int .u8 ch.toNat] w0 fun e w' => e = .returned (.bool (decide ((rest s i).head? = some ch))) ∧ Below w0.heap.size w0 w' := by
  have c0 : w0.cell? ⟨b, 0, none⟩ = some (.string s) := by simp [World.cell?, hw, readerC]
  have c1 : w0.cell? ⟨b, 1, none⟩ = some (.int .i64 i) := by simp [World.cell?, hw, readerC]
  refine calls_of_X cxIs [.pointer (some ⟨b, 0, none⟩), .int .u8 ch.toNat] Tryd.func57 (St.nil w0) ?_
  (repeat (first | with_reducible refine X.seq ?_ | with_reducible refine X.region ?_ | with_reducible refine X.block ?_ | with_reducible refine X.skip ?_ | with_reducible refine X.inBlock ?_ | refine X.exit rfl ?_))
  refine O.assign ?_
  refine XO.nil ?_
  (repeat (first | with_reducible refine X.seq ?_ | with_reducible refine X.region ?_ | with_reducible refine X.block ?_ | with_reducible refine X.skip ?_ | with_reducible refine X.inBlock ?_ | refine X.exit rfl ?_))
  refine X.regionR mixed (by kernel_rfl) ?_
  refine O.move ?_
  refine O.nilCheck ?_
  refine O.fieldB0 td83_1 ?_
  refine O.loadO tf3 c1 ?_
  refine O.move ?_
  refine O.nilCheck ?_
  refine O.fieldB0 td83_0 ?_
  refine O.loadO tf9 c0 ?_
  refine O.lenString tg9 ?_
  refine O.lss ?_
  refine O.move ?_
  refine O.move ?_
  refine O.nilCheck ?_
  refine O.fieldB0 td83_0 ?_
  refine O.loadO tf9 c0 ?_
  refine O.move ?_
  refine O.nilCheck ?_
  refine O.fieldB0 td83_1 ?_
  refine O.loadO tf3 c1 ?_
  refine O.index tg9 ?_ (h1 := by intro h; simp only [Bool.true_and, beq_iff_eq, decide_eq_true_eq] at h; omega)
  refine O.move ?_
  refine O.eql ?_
  refine O.pickAnd ?_
  refine O.assign ?_
  refine XO.nilS ?_
  refine XO.nil ?_
  (repeat (first | with_reducible refine X.seq ?_ | with_reducible refine X.region ?_ | with_reducible refine X.block ?_ | with_reducible refine X.skip ?_ | with_reducible refine X.inBlock ?_ | refine X.exit rfl ?_))
  refine X.ret1 Tryd.func57 ?_
  refine fun w' hs' => ⟨?_, hs'.below⟩
  congr 2
  by_cases h : i < s.size
  · rw [(rest_head s i h).1]
    have : ((i : Int) < (s.size : Int)) = True := by simp; omega
    simp only [this, decide_true, Bool.true_and, Int.toNat_natCast, Option.some.injEq]
    congr 1
    exact propext ⟨fun h => UInt8.toNat_inj.1 (by omega), fun h => by rw [h]⟩
  · rw [rest_end s i (by omega)]
    have : ((i : Int) < (s.size : Int)) = False := by simp; omega
    simp [this]

/-- What one part of a reading hands back. -/
structure Res where
  new : List TaskM
  A : Option Addr
  c : Nat
  fA : Option Addr
  fc : Nat
  lA : Option Addr
  lc : Nat
def clothV (t : T) (n : Nat) (x : Res) : Value := .agg #[.slice x.fA (firsts t n).length x.fc, .slice x.lA (lasts t n).length x.lc, .int .i64 (work capW t), .int .i64 (span capW t)]
def nats (l : List Nat) : List Int := l.map Int.ofNat
def ClothOK (t : T) (n : Nat) (x : Res) (w : World) : Prop := Reads w x.fA (ints (nats (firsts t n))) ∧ Reads w x.lA (ints (nats (lasts t n)))
def Wf (ts : List TaskM) : Prop := ∀ t ∈ ts, t.needs = [] → t.hA = none ∧ t.hc = 0
def Good (t : T) (n : Nat) (x : Res) : Prop := x.new.map TaskM.spec = tasks capW t n ∧ Wf x.new
def wrongCh : List PanicEntry := [{ v := .iface 80 (.agg #[.int .i64 2]), recovered := false }]
def Out (b : Nat) (s : ByteArray) (ts : List TaskM) (w : World) (S : Nat → Prop) (p : Option (T × L)) (en : Ending) (w' : World) : Prop :=
  match p with
  | some (t, r) => ∃ x : Res, Good t ts.length x ∧ en = .returned (clothV t ts.length x) ∧ St w S (RD b s (s.size - r.length) x.A x.c (ts ++ x.new) ++ [HP.rd (ClothOK t ts.length x)]) w'
  | none => ∃ ch, en = .panicked ch ∧ ch = wrongCh ∧ St w S [] w'
theorem elemTask : TElem Tryd.prog 46 (.agg #[.int .i64 0, .slice none 0 0]) 2 32 := TElem.of (by kernel_rfl) rfl
theorem extract_rest (s : ByteArray) (i j : Nat) : (s.extract i j).data.toList = (rest s i).take (j - i) := by
  rw [ByteArray.data_extract]
  simp [rest, List.drop_take]

noncomputable def cxNum : Cx := ⟨Tryd.prog, 100, 114, []⟩
theorem number_calls (b : Nat) (s : ByteArray) (i : Nat) (A : Option Addr) (c : Nat) (ts : List TaskM) (hi : i ≤ s.size) (hs : s.size ≤ 200) (hts : ts.length ≤ i) (w : World) (S : Nat → Prop) (hst : St w S (RD b s i A c ts) w) (hE : Stable w S ErrsAt) :
    Calls Tryd.prog 100 #[.pointer (some ⟨b, 0, none⟩)] w (Out b s ts w S (number (rest s i))) := by
  refine calls_of_X cxNum [.pointer (some ⟨b, 0, none⟩)] Tryd.func100 hst ?_
  (repeat (first | with_reducible refine X.seq ?_ | with_reducible refine X.region ?_ | with_reducible refine X.block ?_ | with_reducible refine X.skip ?_ | with_reducible refine X.inBlock ?_ | refine X.exit rfl ?_))
  refine O.alloc tz85 (fun b2 hb2 => ?_)
  refine XO.nil ?_
  (repeat (first | with_reducible refine X.seq ?_ | with_reducible refine X.region ?_ | with_reducible refine X.block ?_ | with_reducible refine X.skip ?_ | with_reducible refine X.inBlock ?_ | refine X.exit rfl ?_))
  refine O.move ?_
  refine O.nilCheck ?_
  (first | refine O.fieldB0 td83_1 ?_ | refine O.fieldA td83_1 ?_ | refine O.fieldB td83_1 ?_)
  (first | refine O.loadB tf3 ?_ | refine O.loadO tf3 (by first | assumption | (simp only [Nat.add_zero, Nat.zero_add]; assumption)) ?_ | refine O.loadOwn tf3 ?_)
  refine O.assign ?_
  refine XO.nil ?_
  (repeat (first | with_reducible refine X.seq ?_ | with_reducible refine X.region ?_ | with_reducible refine X.block ?_ | with_reducible refine X.skip ?_ | with_reducible refine X.inBlock ?_ | refine X.exit rfl ?_))
  refine X.loop (γ := Nat) (fun j => i ≤ j ∧ j ≤ s.size ∧ (rest s i).takeWhile isDig = (rest s i).take (j - i) ++ (rest s j).takeWhile isDig)
    (fun j => [⟨0, true, .pointer (some ⟨b, 0, none⟩)⟩, ⟨2, true, .pointer (some ⟨b2, 0, none⟩)⟩, ⟨3, true, .int .i64 i⟩])
    (fun j => St w S (HP.blk b2 (.cells #[.slice none 0 0, .slice none 0 0, .int .i64 0, .int .i64 0] 85 (0, 0)) :: RD b s j A c ts)) (fun j => s.size - j) i ⟨Nat.le_refl _, hi, by simp⟩ (by repeat (first | exact Sub.nil | refine Sub.cons rfl (by first | rfl | simp) ?_)) (fun _ h => h) ?_
  rintro j ⟨h1, h2, h3⟩ next
  try dsimp only at h1 h2 h3 ⊢
  (repeat (first | with_reducible refine X.seq ?_ | with_reducible refine X.region ?_ | with_reducible refine X.block ?_ | with_reducible refine X.skip ?_ | with_reducible refine X.inBlock ?_ | refine X.exit rfl ?_))
  refine X.regionR mixed (by kernel_rfl) ?_
  refine O.move ?_
  refine O.nilCheck ?_
  (first | refine O.fieldB0 td83_1 ?_ | refine O.fieldA td83_1 ?_ | refine O.fieldB td83_1 ?_)
  (first | refine O.loadB tf3 ?_ | refine O.loadO tf3 (by first | assumption | (simp only [Nat.add_zero, Nat.zero_add]; assumption)) ?_ | refine O.loadOwn tf3 ?_)
  refine O.move ?_
  refine O.nilCheck ?_
  (first | refine O.fieldB0 td83_0 ?_ | refine O.fieldA td83_0 ?_ | refine O.fieldB td83_0 ?_)
  (first | refine O.loadB tf9 ?_ | refine O.loadO tf9 (by first | assumption | (simp only [Nat.add_zero, Nat.zero_add]; assumption)) ?_ | refine O.loadOwn tf9 ?_)
  refine O.lenString tg9 ?_
  refine O.lss ?_
  refine O.move ?_
  refine O.move ?_
  refine O.nilCheck ?_
  (first | refine O.fieldB0 td83_0 ?_ | refine O.fieldA td83_0 ?_ | refine O.fieldB td83_0 ?_)
  (first | refine O.loadB tf9 ?_ | refine O.loadO tf9 (by first | assumption | (simp only [Nat.add_zero, Nat.zero_add]; assumption)) ?_ | refine O.loadOwn tf9 ?_)
  refine O.move ?_
  refine O.nilCheck ?_
  (first | refine O.fieldB0 td83_1 ?_ | refine O.fieldA td83_1 ?_ | refine O.fieldB td83_1 ?_)
  (first | refine O.loadB tf3 ?_ | refine O.loadO tf3 (by first | assumption | (simp only [Nat.add_zero, Nat.zero_add]; assumption)) ?_ | refine O.loadOwn tf3 ?_)
  refine O.index tg9 ?_ (h1 := by intro h; simp only [Bool.true_and, beq_iff_eq, decide_eq_true_eq] at h; omega)
  refine O.geq ?_
  refine O.pickAnd ?_
  refine O.move ?_
  refine O.move ?_
  refine O.nilCheck ?_
  (first | refine O.fieldB0 td83_0 ?_ | refine O.fieldA td83_0 ?_ | refine O.fieldB td83_0 ?_)
  (first | refine O.loadB tf9 ?_ | refine O.loadO tf9 (by first | assumption | (simp only [Nat.add_zero, Nat.zero_add]; assumption)) ?_ | refine O.loadOwn tf9 ?_)
  refine O.move ?_
  refine O.nilCheck ?_
  (first | refine O.fieldB0 td83_1 ?_ | refine O.fieldA td83_1 ?_ | refine O.fieldB td83_1 ?_)
  (first | refine O.loadB tf3 ?_ | refine O.loadO tf3 (by first | assumption | (simp only [Nat.add_zero, Nat.zero_add]; assumption)) ?_ | refine O.loadOwn tf3 ?_)
  refine O.index tg9 ?_ (h1 := by intro h; simp only [Bool.true_and, beq_iff_eq, decide_eq_true_eq, Bool.and_eq_true] at h; omega)
  refine O.leq ?_
  refine O.pickAnd ?_
  refine XO.nilS ?_
  refine XO.nil ?_
  (repeat (first | with_reducible refine X.seq ?_ | with_reducible refine X.region ?_ | with_reducible refine X.block ?_ | with_reducible refine X.skip ?_ | with_reducible refine X.inBlock ?_ | refine X.exit rfl ?_))
  refine X.cond rfl (fun h => ?_) (fun h => ?_)
  · simp only [Bool.and_eq_true, decide_eq_true_eq] at h
    obtain ⟨⟨h4, h5⟩, h6⟩ := h
    have hlt : j < s.size := by omega
    obtain ⟨g1, g2⟩ := rest_head s j hlt
    have hdig : isDig ((s[j]?).getD 0) = true := by
      simp only [Int.toNat_natCast] at h5 h6
      simp only [isDig, Bool.and_eq_true, decide_eq_true_eq]
      omega
    have hrj : rest s j = (s[j]?).getD 0 :: rest s (j + 1) := by
      cases hr : rest s j with
      | nil => rw [hr] at g1; cases g1
      | cons x r => rw [hr] at g1 g2; simp only [List.head?_cons, Option.some.injEq] at g1; rw [g1, ← g2]; rfl
    (repeat (first | with_reducible refine X.seq ?_ | with_reducible refine X.region ?_ | with_reducible refine X.block ?_ | with_reducible refine X.skip ?_ | with_reducible refine X.inBlock ?_ | refine X.exit rfl ?_))
    refine O.move ?_
    refine O.nilCheck ?_
    (first | refine O.fieldB0 td83_1 ?_ | refine O.fieldA td83_1 ?_ | refine O.fieldB td83_1 ?_)
    (first | refine O.loadB tf3 ?_ | refine O.loadO tf3 (by first | assumption | (simp only [Nat.add_zero, Nat.zero_add]; assumption)) ?_ | refine O.loadOwn tf3 ?_)
    refine O.add ?_
    refine O.nilCheck ?_
    (first | refine O.fieldB0 td83_1 ?_ | refine O.fieldA td83_1 ?_ | refine O.fieldB td83_1 ?_)
    refine O.store _ ts3 ?_
    refine XO.nil ?_
    (repeat (first | with_reducible refine X.seq ?_ | with_reducible refine X.region ?_ | with_reducible refine X.block ?_ | with_reducible refine X.skip ?_ | with_reducible refine X.inBlock ?_ | refine X.exit rfl ?_))
    refine X.st (fun w hs => ?_) (X.sub (by repeat (first | exact Sub.nil | refine Sub.cons rfl (by first | rfl | simp) ?_)) (next (j + 1) ⟨by omega, by omega, ?_⟩ (by omega)))
    · exact hs.rems (.cons (.there .here) (.cons .here .nil))
    · rw [h3, hrj, List.takeWhile_cons, if_pos hdig, show j + 1 - i = (j - i) + 1 from by omega, List.take_add_one]
      have : (rest s i)[j - i]? = some ((s[j]?).getD 0) := by
        have h7 : (rest s j)[0]? = some ((s[j]?).getD 0) := by rw [hrj]; rfl
        unfold rest at h7 ⊢
        rw [List.getElem?_drop] at h7 ⊢
        rw [show i + (j - i) = j + 0 from by omega]
        exact h7
      rw [this]
      simp
  · have hnd : (rest s j).takeWhile isDig = [] := by
      by_cases hlt : j < s.size
      · obtain ⟨g1, g2⟩ := rest_head s j hlt
        cases hr : rest s j with
        | nil => rfl
        | cons x r =>
          rw [hr] at g1
          simp only [List.head?_cons, Option.some.injEq] at g1
          have hnot : isDig x = false := by
            rw [g1]
            simp only [Int.toNat_natCast] at h
            have h4 : ((j : Int) < (s.size : Int)) = True := by simp; omega
            simp only [h4, decide_true, Bool.true_and] at h
            simp only [isDig]
            revert h
            simp only [Bool.and_eq_false_iff, decide_eq_false_iff_not]
            omega
          simp [List.takeWhile_cons, hnot]
      · rw [rest_end s j (by omega)]; rfl
    have hds : (rest s i).takeWhile isDig = (rest s i).take (j - i) := by rw [h3, hnd, List.append_nil]
    have hall : ((rest s i).takeWhile isDig).all isDig = true := by simp [List.all_takeWhile]
    have hdw : (rest s i).dropWhile isDig = rest s j := by
      have h4 := take_drop isDig (rest s i)
      rw [hds] at h4
      have h5 : (rest s i).take (j - i) ++ (rest s i).drop (j - i) = rest s i := List.take_append_drop _ _
      have h6 := List.append_cancel_left (h4.trans h5.symm)
      rw [h6]
      unfold rest
      rw [List.drop_drop, show i + (j - i) = j from by omega]
    have hdl : ((rest s i).takeWhile isDig).length = j - i := by rw [hds, List.length_take, rest_length]; omega
    generalize hdsd : (rest s i).takeWhile isDig = ds at *
    (repeat (first | with_reducible refine X.seq ?_ | with_reducible refine X.region ?_ | with_reducible refine X.block ?_ | with_reducible refine X.skip ?_ | with_reducible refine X.inBlock ?_ | refine X.exit rfl ?_))
    refine X.regionH [] [] [0, 1, 2, 3, 4, 5, 6, 7, 8, 9, 10, 11, 12, 13, 14, 15] [HP.blk b (readerC s j A c ts.length)] mixed (by kernel_rfl) (by repeat (first | exact Rems.nil | (apply Rems.cons; focus (repeat (first | with_reducible exact Rem.here | with_reducible apply Rem.there))))) ?_
    simp only [permL, List.getD_cons_zero, List.getD_cons_succ]
    refine O.move ?_
    refine O.nilCheck ?_
    (first | refine O.fieldB0 td83_0 ?_ | refine O.fieldA td83_0 ?_ | refine O.fieldB td83_0 ?_)
    (first | refine O.loadB tf9 ?_ | refine O.loadO tf9 (by first | assumption | (simp only [Nat.add_zero, Nat.zero_add]; assumption)) ?_ | refine O.loadOwn tf9 ?_)
    refine O.move ?_
    refine O.move ?_
    refine O.nilCheck ?_
    (first | refine O.fieldB0 td83_1 ?_ | refine O.fieldA td83_1 ?_ | refine O.fieldB td83_1 ?_)
    (first | refine O.loadB tf3 ?_ | refine O.loadO tf3 (by first | assumption | (simp only [Nat.add_zero, Nat.zero_add]; assumption)) ?_ | refine O.loadOwn tf3 ?_)
    refine O.sliceStr tg9 ?_
    refine O.callNH (α := Value × Value) (φ := fun x => (ds ≠ [] ∧ x = (.int .i64 (val ds), .nilIface)) ∨ ∃ p v, x = (.int .i64 v, .iface 191 p) ∧ (ds = [] ∨ 20 < val ds)) (vo := fun x => .tuple #[x.1, x.2]) (N := fun _ => []) te89 (by repeat (first | exact Rems.nil | (apply Rems.cons; focus (repeat (first | with_reducible exact Rem.here | with_reducible apply Rem.there))))) (hc := ?_) (next := fun x hx => ?_)
    · intro w' hs'
      obtain ⟨⟨ev1, hv1, hev1⟩, ev2, hv2, hev2⟩ := hE.at_ hs'
      have hex : (s.extract (i : Int).toNat (j : Int).toNat).data.toList = ds := by rw [Int.toNat_natCast, Int.toNat_natCast, extract_rest, ← hds]
      have hsz : (s.extract (i : Int).toNat (j : Int).toNat).size = j - i := by
        show (s.extract (i : Int).toNat (j : Int).toNat).data.size = j - i
        rw [← Array.length_toList, hex, hdl]
      by_cases hd0 : ds = []
      · refine (Tryd.strconv_Atoi_syntax _ (by omega) (by rw [hex, hd0]; rfl) ev1 w' hv1 hev1).mono ?_
        rintro en w'' ⟨N, he, _, _, hb⟩
        exact ⟨_, .inr ⟨_, _, rfl, .inl hd0⟩, he, (St.nil w').keep hb⟩
      · rcases atoi_digits hall hd0 with h5 | ⟨h5, h6⟩
        · refine (Tryd.strconv_Atoi_ok _ (by omega) _ (by rw [hex]; exact h5) w').mono ?_
          rintro en w'' ⟨he, hb⟩
          refine ⟨_, .inl ⟨hd0, rfl⟩, he, (St.nil w').keep ?_⟩
          rcases hb with rfl | ⟨t, rfl⟩
          · exact Below.refl _ _
          · exact Lib.bytesWorld_below _ _ _
        · refine (Tryd.strconv_Atoi_range _ (by omega) (by rw [hex]; exact h5) ev2 w' hv2 hev2).mono ?_
          rintro en w'' ⟨N, he, _, _, hb⟩
          exact ⟨_, .inr ⟨_, _, rfl, .inr h6⟩, he, (St.nil w').keep hb⟩
    refine O.move ?_
    refine O.extract ?_
    refine O.extract ?_
    refine O.assign ?_
    refine O.assign ?_
    refine XO.nilH ?_
    refine XO.nil ?_
    simp only [List.append_nil]
    repeat (with_reducible refine X.seq ?_)
    have hnum : number (rest s i) = if ds.isEmpty || (rest s i).head? == some 48 then none else some (.num ds, rest s j) := by
      unfold number
      rw [hdsd, hdw]
    have hsum : (s.data.toList.drop i).head? = (rest s i).head? := rfl
    refine X.join [⟨0, true, .pointer (some ⟨b, 0, none⟩)⟩, ⟨2, true, .pointer (some ⟨b2, 0, none⟩)⟩, ⟨4, true, .int .i64 (capW ds)⟩]
      (fun w' => St w S (HP.blk b2 (.cells #[.slice none 0 0, .slice none 0 0, .int .i64 0, .int .i64 0] 85 (0, 0)) :: RD b s j A c ts) w' ∧ number (rest s i) = some (.num ds, rest s j)) (fun fin => ?_) ?_
    · (repeat (first | with_reducible refine X.seq ?_ | with_reducible refine X.region ?_ | with_reducible refine X.block ?_ | with_reducible refine X.skip ?_ | with_reducible refine X.inBlock ?_ | refine X.exit rfl ?_))
      refine O.move ?_
      refine O.move ?_
      refine O.nilCheck ?_
      (first | refine O.fieldB0 td83_1 ?_ | refine O.fieldA td83_1 ?_ | refine O.fieldB td83_1 ?_)
      (first | refine O.loadB tf3 ?_ | refine O.loadO tf3 (by first | assumption | (simp only [Nat.add_zero, Nat.zero_add]; assumption)) ?_ | refine O.loadOwn tf3 ?_)
      refine O.eql ?_
      refine O.move ?_
      refine O.move ?_
      refine O.nilCheck ?_
      (first | refine O.fieldB0 td83_0 ?_ | refine O.fieldA td83_0 ?_ | refine O.fieldB td83_0 ?_)
      (first | refine O.loadB tf9 ?_ | refine O.loadO tf9 (by first | assumption | (simp only [Nat.add_zero, Nat.zero_add]; assumption)) ?_ | refine O.loadOwn tf9 ?_)
      refine O.move ?_
      refine O.index tg9 ?_ (h1 := by intro h; simp only [Bool.true_and, beq_iff_eq, decide_eq_false_iff_not] at h; omega)
      refine O.eql ?_
      refine O.pickOr ?_
      refine O.assign ?_
      refine XO.nil ?_
      (repeat (first | with_reducible refine X.seq ?_ | with_reducible refine X.region ?_ | with_reducible refine X.block ?_ | with_reducible refine X.skip ?_ | with_reducible refine X.inBlock ?_ | refine X.exit rfl ?_))
      refine X.cond rfl (fun h => ?_) (fun h => ?_)
      · have hnone : number (rest s i) = none := by
          rw [hnum, if_pos]
          simp only [Bool.or_eq_true, decide_eq_true_eq, Int.toNat_natCast] at h
          simp only [Bool.or_eq_true, List.isEmpty_iff, beq_iff_eq]
          by_cases hij : i = j
          · exact .inl (List.eq_nil_of_length_eq_zero (by omega))
          · refine .inr ?_
            rw [(rest_head s i (by omega)).1]
            congr 1
            exact UInt8.toNat_inj.1 (by rcases h with h | h; · omega
                                        · exact (by omega : ((s[i]?).getD 0).toNat = 48))
        (repeat (first | with_reducible refine X.seq ?_ | with_reducible refine X.region ?_ | with_reducible refine X.block ?_ | with_reducible refine X.skip ?_ | with_reducible refine X.inBlock ?_ | refine X.exit rfl ?_))
        refine O.build (.agg #[.int .i64 2]) ?_
        refine O.makeInterface ?_
        refine O.panic Tryd.func100 (fun w' hs => ?_)
        rw [hnone]
        exact ⟨_, rfl, rfl, hs.drop (L1 := [])⟩
      · have hsome : number (rest s i) = some (.num ds, rest s j) := by
          simp only [Bool.or_eq_false_iff, decide_eq_false_iff_not, Int.toNat_natCast] at h
          have hij : i ≠ j := by omega
          rw [hnum, if_neg]
          simp only [Bool.or_eq_true, List.isEmpty_iff, beq_iff_eq, not_or]
          refine ⟨fun e => ?_, fun e => ?_⟩
          · rw [e] at hdl; simp at hdl; omega
          · rw [(rest_head s i (by omega)).1] at e
            have e2 := Option.some.inj e
            rw [e2] at h
            exact h.2 rfl
        have hne : ds ≠ [] := fun e => by
          rw [hnum, e] at hsome
          simp at hsome
        rcases hx with ⟨_, rfl⟩ | ⟨p, v, rfl, hr⟩
        · (repeat (first | with_reducible refine X.seq ?_ | with_reducible refine X.region ?_ | with_reducible refine X.block ?_ | with_reducible refine X.skip ?_ | with_reducible refine X.inBlock ?_ | refine X.exit rfl ?_))
          refine O.move ?_
          (first | refine Go.Proofs.YtgegppbjpaeljaaDoor.O.neErr ?_ | refine O.neNil ?_ | refine O.nilNe ?_)
          refine O.move ?_
          refine O.move ?_
          refine O.gtr ?_
          refine O.pickOr ?_
          refine O.assign ?_
          refine XO.nil ?_
          (repeat (first | with_reducible refine X.seq ?_ | with_reducible refine X.region ?_ | with_reducible refine X.block ?_ | with_reducible refine X.skip ?_ | with_reducible refine X.inBlock ?_ | refine X.exit rfl ?_))
          refine X.cond rfl (fun h => ?_) (fun h => ?_)
          · have hcap : capW ds = 21 := by
              simp only [Bool.false_or, decide_eq_true_eq] at h
              unfold capW
              rw [if_pos (by omega)]
            rw [hcap] at fin
            (repeat (first | with_reducible refine X.seq ?_ | with_reducible refine X.region ?_ | with_reducible refine X.block ?_ | with_reducible refine X.skip ?_ | with_reducible refine X.inBlock ?_ | refine X.exit rfl ?_))
            refine O.assign ?_
            refine XO.nil ?_
            (repeat (first | with_reducible refine X.skip ?_ | with_reducible refine X.inBlock ?_ | refine X.exit rfl ?_))
            refine X.st (fun w' hs => ?_) (X.sub (by repeat (first | exact Sub.nil | refine Sub.cons rfl (by first | rfl | simp) ?_)) fin)
            exact ⟨hs, hsome⟩
          · have hcap : capW ds = val ds := by
              simp only [Bool.false_or, decide_eq_false_iff_not] at h
              unfold capW
              rw [if_neg (by omega)]
            rw [hcap] at fin
            (repeat (first | with_reducible refine X.skip ?_ | with_reducible refine X.inBlock ?_ | refine X.exit rfl ?_))
            refine X.st (fun w' hs => ?_) (X.sub (by repeat (first | exact Sub.nil | refine Sub.cons rfl (by first | rfl | simp) ?_)) fin)
            exact ⟨hs, hsome⟩
        · have hcap : capW ds = 21 := by
            unfold capW
            rw [if_pos (hr.resolve_left hne)]
          rw [hcap] at fin
          (repeat (first | with_reducible refine X.seq ?_ | with_reducible refine X.region ?_ | with_reducible refine X.block ?_ | with_reducible refine X.skip ?_ | with_reducible refine X.inBlock ?_ | refine X.exit rfl ?_))
          refine O.move ?_
          (first | refine Go.Proofs.YtgegppbjpaeljaaDoor.O.neErr ?_ | refine O.neNil ?_ | refine O.nilNe ?_)
          refine O.move ?_
          refine O.move ?_
          refine O.gtr ?_
          refine O.pickOr ?_
          refine O.assign ?_
          refine XO.nil ?_
          (repeat (first | with_reducible refine X.seq ?_ | with_reducible refine X.region ?_ | with_reducible refine X.block ?_ | with_reducible refine X.skip ?_ | with_reducible refine X.inBlock ?_ | refine X.exit rfl ?_))
          refine X.condT rfl (by rfl) ?_
          (repeat (first | with_reducible refine X.seq ?_ | with_reducible refine X.region ?_ | with_reducible refine X.block ?_ | with_reducible refine X.skip ?_ | with_reducible refine X.inBlock ?_ | refine X.exit rfl ?_))
          refine O.assign ?_
          refine XO.nil ?_
          (repeat (first | with_reducible refine X.skip ?_ | with_reducible refine X.inBlock ?_ | refine X.exit rfl ?_))
          refine X.st (fun w' hs => ?_) (X.sub (by repeat (first | exact Sub.nil | refine Sub.cons rfl (by first | rfl | simp) ?_)) fin)
          exact ⟨hs, hsome⟩
    · refine X.fact (fun w h => h.2) (fun hsome => ?_)
      refine X.st (fun w h => h.1) ?_
      have hcb := capW_le ds
      (repeat (first | with_reducible refine X.seq ?_ | with_reducible refine X.region ?_ | with_reducible refine X.block ?_ | with_reducible refine X.skip ?_ | with_reducible refine X.inBlock ?_ | refine X.exit rfl ?_))
      refine O.move ?_
      refine O.move ?_
      refine O.nilCheck ?_
      (first | refine O.fieldB0 td83_2 ?_ | refine O.fieldA td83_2 ?_ | refine O.fieldB td83_2 ?_)
      (first | refine O.loadB tf33 ?_ | refine O.loadO tf33 (by first | assumption | (simp only [Nat.add_zero, Nat.zero_add]; assumption)) ?_ | refine O.loadOwn tf33 ?_)
      refine O.move ?_
      refine O.build (.agg #[.int .i64 (capW ds), .slice none 0 0]) ?_
      refine O.buildSlice 46 #[.int .i64 (capW ds), .slice none 0 0] (fun g hg => ?_)
      refine O.append [.int .i64 (capW ds), .slice none 0 0] 1 tl33 elemTask (hsrc := fun w hs => Src.ofBlk tl33.1 hs .here rfl rfl) (h63 := by simp only [maxLen]; omega) (hbytes := by omega) (next := fun A' c' => ?_)
      refine O.nilCheck ?_
      (first | refine O.fieldB0 td83_2 ?_ | refine O.fieldA td83_2 ?_ | refine O.fieldB td83_2 ?_)
      refine O.store _ ts33 ?_
      refine XO.nil ?_
      (repeat (first | with_reducible refine X.seq ?_ | with_reducible refine X.region ?_ | with_reducible refine X.block ?_ | with_reducible refine X.skip ?_ | with_reducible refine X.inBlock ?_ | refine X.exit rfl ?_))
      refine O.move ?_
      refine O.nilCheck ?_
      (first | refine O.fieldB0 td83_2 ?_ | refine O.fieldA td83_2 ?_ | refine O.fieldB td83_2 ?_)
      (first | refine O.loadB tf33 ?_ | refine O.loadO tf33 (by first | assumption | (simp only [Nat.add_zero, Nat.zero_add]; assumption)) ?_ | refine O.loadOwn tf33 ?_)
      refine O.lenSlice tl33 ?_
      refine O.sub (r := (ts.length : Int)) ?_ (hr := by rw [wrap_i64 (by omega) (by omega)]; omega)
      refine O.buildSlice 3 #[.int .i64 ts.length] (fun g2 hg2 => ?_)
      refine O.assign ?_
      refine XO.nil ?_
      (repeat (first | with_reducible refine X.seq ?_ | with_reducible refine X.region ?_ | with_reducible refine X.block ?_ | with_reducible refine X.skip ?_ | with_reducible refine X.inBlock ?_ | refine X.exit rfl ?_))
      refine O.move ?_
      refine O.move ?_
      refine O.move ?_
      refine O.move ?_
      refine O.build (.agg #[.slice (some ⟨g2, 0, none⟩) 1 1, .slice (some ⟨g2, 0, none⟩) 1 1, .int .i64 (capW ds), .int .i64 (capW ds)]) ?_
      refine O.store _ ts85 ?_
      refine XO.nil ?_
      (repeat (first | with_reducible refine X.seq ?_ | with_reducible refine X.region ?_ | with_reducible refine X.block ?_ | with_reducible refine X.skip ?_ | with_reducible refine X.inBlock ?_ | refine X.exit rfl ?_))
      refine X.retC1 (vs := [.slice (some ⟨g2, 0, none⟩) 1 1, .slice (some ⟨g2, 0, none⟩) 1 1, .int .i64 (capW ds), .int .i64 (capW ds)]) Tryd.func100 ta85 rfl (fun w hs => CellsAt.of_blk (n := 4) hs .here rfl) (fun w' hs => ?_)
      rw [hsome]
      refine ⟨⟨[⟨capW ds, [], none, 0⟩], A', c', some ⟨g2, 0, none⟩, 1, some ⟨g2, 0, none⟩, 1⟩, ⟨rfl, ?_⟩, rfl, ?_⟩
      · intro t ht _
        obtain rfl := List.mem_singleton.1 ht
        exact ⟨rfl, rfl⟩
      · have hj : s.size - (rest s j).length = j := by rw [rest_length]; omega
        have h1 := ((hs.rems (.cons (.there .here) .nil)).rd_blk).rd_mono (ψ := ClothOK (.num ds) ts.length ⟨[⟨capW ds, [], none, 0⟩], A', c', some ⟨g2, 0, none⟩, 1, some ⟨g2, 0, none⟩, 1⟩) (fun w h => ⟨h, h⟩)
        have h2 := h1.rd_monoR (ψ := NeedsOK (ts ++ [⟨capW ds, [], none, 0⟩])) (.there (.there (.there (.there (.there .here))))) (fun w h t ht => by
          rcases List.mem_append.1 ht with ht | ht
          · exact h t ht
          · obtain rfl := List.mem_singleton.1 ht
            exact Reads.nil _ _)
        have h3 := (h2.rems (L1 := [_, _, _, _]) (.cons (.there (.there (.there .here))) (.cons (.there (.there (.there .here))) (.cons .here (.cons .here .nil))))).drop
        rw [hj]
        dsimp only [List.cons_append, List.nil_append]
        rw [planRow_snoc, List.length_append]
        exact h3
end Go.Proofs.YtgegppbjpaeljaaDoor.Wv
