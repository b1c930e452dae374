/- Proved here: weave.Parse gives what the plain reading gives: the plan, its work, its span, or the fault; and weave.Measure. -/
import Derived.Test.YtgegppbjpaeljaaDoorWx
set_option linter.unusedVariables false
set_option linter.unusedSimpArgs false
set_option maxRecDepth 10000
namespace Go.X.Wv
/-- The fault of a text, or its tree. -/
def over (cap : L → Int) (t : T) : Bool := (tasks cap t 0).any fun x => decide (20 < x.1)
def parseF (cap : L → Int) (s : L) : Except Int T := if 200 < s.length then .error 4 else match parse s with
  | none => .error 2
  | some t => if over cap t then .error 1 else if 30 < size t then .error 4 else .ok t
end Go.X.Wv
namespace Go.Proofs.YtgegppbjpaeljaaDoor.Wv
open Go Go.X Go.X.Wv Go.RowKit Go.Proofs.YtgegppbjpaeljaaDoor Go.Proofs.YtgegppbjpaeljaaDoor.Ty Go.Proofs.YtgegppbjpaeljaaDoor.Pl

/-- What Parse hands back. -/
structure PR where
  A : Option Addr
  c : Nat
  ts : List TaskM
  wk : Int
  sp : Int
  err : Int
def Parsed (s : L) (x : PR) : Prop := match parseF capW s with
  | .error e => x = ⟨none, 0, [], 0, 0, e⟩
  | .ok t => x.ts.map TaskM.spec = tasks capW t 0 ∧ x.wk = work capW t ∧ x.sp = span capW t ∧ x.err = 0
def PR.val (x : PR) : Value := .tuple #[.slice x.A x.ts.length x.c, .int .i64 x.wk, .int .i64 x.sp, errV x.err]
theorem ErrsAt.below {w w' : World} (h : ErrsAt w) (hb : Below w.heap.size w w') : ErrsAt w' := by
  obtain ⟨⟨e1, h1, h2⟩, e2, h3, h4⟩ := h
  exact ⟨⟨e1, (hb.cell (World.block_lt_of_cell? w _ h1)).trans h1, h2⟩, e2, (hb.cell (World.block_lt_of_cell? w _ h3)).trans h3, h4⟩
theorem ErrsAt.stable {w : World} (h : ErrsAt w) : Stable w noS ErrsAt := Stable.of_below fun w' hb => h.below hb
noncomputable def cxParse : Cx := ⟨Tryd.prog, 11, 57, []⟩
def outC (v2 v3 v4 v5 : Value) (b2 b3 b4 b5 : Nat) : List HP := [HP.blk b2 (.cells #[v2] 33 (0, 0)), HP.blk b3 (.cells #[v3] 3 (0, 0)), HP.blk b4 (.cells #[v4] 3 (0, 0)), HP.blk b5 (.cells #[v5] 24 (0, 0))]
theorem parse_none {s : L} (h : beside (3 * s.length + 3) s = none) : parse s = none := by rw [parse, h]
theorem parse_rest {s : L} {t : T} {r : L} (h : beside (3 * s.length + 3) s = some (t, r)) (hr : r ≠ []) : parse s = none := by
  rw [parse, h]
  cases r with
  | nil => exact absurd rfl hr
  | cons a r => rfl
/-- The four results, out of their cells. -/
theorem parse_results {w0 w : World} {S : Nat → Prop} {L : List HP} {T : Array Value} {b2 b3 b4 b5 : Nat} {v2 v3 v4 v5 : Value} (hs : St w0 S (outC v2 v3 v4 v5 b2 b3 b4 b5 ++ L) w) (h2 : T.getD 2 undef = .pointer (some ⟨b2, 0, none⟩)) (h3 : T.getD 3 undef = .pointer (some ⟨b3, 0, none⟩)) (h4 : T.getD 4 undef = .pointer (some ⟨b4, 0, none⟩)) (h5 : T.getD 5 undef = .pointer (some ⟨b5, 0, none⟩)) :
    (results Tryd.f11 T).run Tryd.prog w = .ok (.tuple #[v2, v3, v4, v5]) w :=
  results_cells4 (by rfl) h2 h3 h4 h5 tf33 tf3 tf3 tf24 (hs.cell .here rfl) (hs.cell (.there .here) rfl) (hs.cell (.there (.there .here)) rfl) (hs.cell (.there (.there (.there .here))) rfl)
def ParsePost (s : L) (w0 : World) (en : Ending) (w' : World) : Prop := ∃ x : PR, Parsed s x ∧ en = .returned x.val ∧ St w0 noS [HP.rd (fun w => PlanAt w x.A x.ts)] w'
theorem PlanAt.none (w : World) (A : Option Addr) : PlanAt w A [] := ⟨Reads.nil _ _, fun t ht => by cases ht⟩
theorem post_fault {s : L} {w0 w : World} {e : Int} {L : List HP} (h : parseF capW s = .error e) (hs : St w0 noS L w) (he : e ≠ 0) : ParsePost s w0 (.returned (.tuple #[.slice none 0 0, .int .i64 0, .int .i64 0, .iface 78 (.int .i64 e)])) w := by
  refine ⟨⟨none, 0, [], 0, 0, e⟩, by unfold Parsed; rw [h], ?_, ((hs.drop (L1 := [])).rd_true).rd_mono (fun w _ => PlanAt.none w _)⟩
  rw [PR.val, errV_ne he]
  rfl
/-- Leaving with the deferred call laid by. -/
theorem parse_leaves {w0 w : World} {L : List HP} {T : Array Value} {b2 b3 b4 b5 : Nat} {v2 v3 v4 v5 : Value} {R : Ending → World → Prop} (hs : St w0 noS (outC v2 v3 v4 v5 b2 b3 b4 b5 ++ L) w) (h2 : T.getD 2 undef = .pointer (some ⟨b2, 0, none⟩)) (h3 : T.getD 3 undef = .pointer (some ⟨b3, 0, none⟩)) (h4 : T.getD 4 undef = .pointer (some ⟨b4, 0, none⟩)) (h5 : T.getD 5 undef = .pointer (some ⟨b5, 0, none⟩))
    (hR : R (.returned (.tuple #[v2, v3, v4, v5])) w) :
    Leaves Tryd.prog Tryd.f11 T R [{ target := .fn (.func 33) #[.pointer (some ⟨b2, 0, none⟩), .pointer (some ⟨b3, 0, none⟩), .pointer (some ⟨b4, 0, none⟩), .pointer (some ⟨b5, 0, none⟩)], args := #[] }] .returning w := by
  refine leaves_cons (f := 33) (args := #[.pointer (some ⟨b2, 0, none⟩), .pointer (some ⟨b3, 0, none⟩), .pointer (some ⟨b4, 0, none⟩), .pointer (some ⟨b5, 0, none⟩)]) (by simp) (by kernel_rfl) ?_
  refine (catch_idle b2 b3 b4 b5 w).mono ?_
  rintro e u' w'' ⟨rfl, rfl, rfl⟩
  exact ⟨_, parse_results hs h2 h3 h4 h5, hR⟩
theorem parse_caught {s : L} {w0 w : World} {T : Array Value} {b2 b3 b4 b5 : Nat} {v2 v3 v4 v5 : Value} (hp : parse s = none) (hl : s.length ≤ 200) (hs : St w0 noS (outC v2 v3 v4 v5 b2 b3 b4 b5) w) (h2 : T.getD 2 undef = .pointer (some ⟨b2, 0, none⟩)) (h3 : T.getD 3 undef = .pointer (some ⟨b3, 0, none⟩)) (h4 : T.getD 4 undef = .pointer (some ⟨b4, 0, none⟩)) (h5 : T.getD 5 undef = .pointer (some ⟨b5, 0, none⟩)) :
    Leaves Tryd.prog Tryd.f11 T (ParsePost s w0) [{ target := .fn (.func 33) #[.pointer (some ⟨b2, 0, none⟩), .pointer (some ⟨b3, 0, none⟩), .pointer (some ⟨b4, 0, none⟩), .pointer (some ⟨b5, 0, none⟩)], args := #[] }] (.panicking wrongCh) w := by
  refine leaves_cons (f := 33) (args := #[.pointer (some ⟨b2, 0, none⟩), .pointer (some ⟨b3, 0, none⟩), .pointer (some ⟨b4, 0, none⟩), .pointer (some ⟨b5, 0, none⟩)]) (by simp) (by kernel_rfl) ?_
  refine (catch_panicking b2 b3 b4 b5 w0 w noS _ _ _ _ hs).mono ?_
  rintro e u' w'' ⟨rfl, rfl, hs'⟩
  refine ⟨_, parse_results (L := []) (v2 := .slice none 0 0) (v3 := .int .i64 0) (v4 := .int .i64 0) (v5 := .iface 78 (.int .i64 2)) hs' h2 h3 h4 h5, ?_⟩
  exact post_fault (by rw [parseF, if_neg (by omega), hp]) hs' (by decide)

set_option maxHeartbeats 1000000 in
theorem Parse_calls (s : ByteArray) (w0 : World) (hE : ErrsAt w0) (hlen : s.size ≤ 9223372036854775807) : Calls Tryd.prog 11 #[.string s] w0 (ParsePost s.data.toList w0) := by
  have hfn := Tryd.func11
  have hsz : s.data.toList.length = s.size := by rw [Array.length_toList]; rfl
  refine calls_of_X cxParse [.string s] hfn (St.nil w0) ?_
  (refine X.seq ?_)
  refine X.region ?_
  refine O.alloc tz33 (fun b2 hb2 => ?_)
  refine O.alloc tz3 (fun b3 hb3 => ?_)
  refine O.alloc tz3 (fun b4 hb4 => ?_)
  refine O.alloc tz24 (fun b5 hb5 => ?_)
  refine XO.nil ?_
  (refine X.seq ?_; refine X.seq ?_)
  refine X.region ?_
  refine O.move ?_
  refine O.lenString tg9 ?_
  refine O.gtr ?_
  refine XO.nil ?_
  refine X.cond rfl (fun c1 => ?_) (fun c1 => ?_)
  · (refine X.seq ?_)
    refine X.region ?_
    refine O.makeInterface ?_
    refine O.store _ ts33 ?_
    refine O.store _ ts3 ?_
    refine O.store _ ts3 ?_
    refine O.store _ ts24 ?_
    refine XO.nil ?_
    refine X.retG _ hfn (fun a w hf hs => parse_results (L := []) (hs.perm (by repeat (first | exact Rems.nil | (apply Rems.cons; focus (repeat (first | with_reducible exact Rem.here | with_reducible apply Rem.there)))))) (hf.2.2 2 true _ rfl) (hf.2.2 3 true _ rfl) (hf.2.2 4 true _ rfl) (hf.2.2 5 true _ rfl)) (fun w hs => ?_)
    exact post_fault (by rw [parseF, if_pos (by have := of_decide_eq_true c1; omega)]) hs (by decide)
  · have hs2 : s.size ≤ 200 := by have := of_decide_eq_false c1; omega
    (refine X.skip ?_; refine X.seq ?_)
    refine X.region ?_
    refine O.makeFunc ?_
    refine O.deferF ?_
    refine XO.nil ?_
    (refine X.seq ?_)
    refine X.region ?_
    refine O.move ?_
    refine O.build (.agg #[.string s, .int .i64 0, .slice none 0 0]) ?_
    refine O.box (fun b17 hb17 => ?_)
    refine O.assign ?_
    refine XO.nil ?_
    refine X.st (σ' := St w0 noS [HP.blk b17 (readerC s 0 none 0 0), HP.own 46 2 (.slice none 0 0) 0 [], HP.rd (NeedsOK []), HP.blk b2 (.cells #[.slice none 0 0] 33 (0, 0)), HP.blk b3 (.cells #[.int .i64 0] 3 (0, 0)), HP.blk b4 (.cells #[.int .i64 0] 3 (0, 0)), HP.blk b5 (.cells #[.nilIface] 24 (0, 0))]) (fun w hs => by
      have h1 := ((hs.own_nil 46 2).rd_true).rd_mono (ψ := NeedsOK []) (fun w _ t ht => by cases ht)
      exact h1.perm (L1 := [HP.blk b17 (.cells #[.string s, .int .i64 0, .slice none 0 0] 83 (0, 0)), _, _, _, _, _, _]) (by repeat (first | exact Rems.nil | (apply Rems.cons; focus (repeat (first | with_reducible exact Rem.here | with_reducible apply Rem.there)))))) ?_
    (refine X.seq ?_)
    refine X.region ?_
    refine O.move ?_
    refine O.callSPD (α := T × L × Res) (φ := fun x => beside (3 * s.data.toList.length + 3) s.data.toList = some (x.1, x.2.1) ∧ Good x.1 0 x.2.2) (vo := fun x => .agg #[.slice x.2.2.fA (firsts x.1 0).length x.2.2.fc, .slice x.2.2.lA (lasts x.1 0).length x.2.2.lc, .int .i64 (work capW x.1), .int .i64 (span capW x.1)]) (L1 := [HP.blk b17 (readerC s 0 none 0 0), HP.own 46 2 (.slice none 0 0) 0 [], HP.rd (NeedsOK [])]) (L1' := fun x => [HP.blk b17 (readerC s (s.size - x.2.1.length) x.2.2.A x.2.2.c x.2.2.new.length), HP.own 46 2 (.slice x.2.2.A x.2.2.new.length x.2.2.c) x.2.2.new.length (planRow x.2.2.new), HP.rd (NeedsOK x.2.2.new), HP.rd (ClothOK x.1 0 x.2.2)]) (ψ := fun ch => parse s.data.toList = none ∧ ch = wrongCh) te34 hfn (by repeat (first | exact Rems.nil | (apply Rems.cons; focus (repeat (first | with_reducible exact Rem.here | with_reducible apply Rem.there))))) (hc := ?_) (hp := ?_) (next := ?_)
    · intro w' S' h1 h2 h3
      refine (reader_calls b17 s w' S' hs2 h1 (hE.stable.from_ h2 h3)).mono fun en w'' h4 => ?_
      rcases Out.split h4 with h | ⟨ch, g1, ⟨g2, g3⟩, g4⟩
      · exact .inl h
      · exact .inr ⟨ch, g1, ⟨parse_none g2, g3⟩, g4⟩
    · rintro ch a w' hf ⟨h1, h2⟩ h3
      subst h2
      exact parse_caught h1 (by omega) h3 (hf.2.2 2 true _ rfl) (hf.2.2 3 true _ rfl) (hf.2.2 4 true _ rfl) (hf.2.2 5 true _ rfl)
    rintro ⟨t, r, ⟨nw, A1, cc1, fA1, fc1, lA1, lc1⟩⟩ ⟨hp, hg⟩
    dsimp only at hp hg ⊢
    simp only [List.cons_append, List.nil_append]
    refine O.alloc tz85 (fun b7 hb7 => ?_)
    refine O.store _ ts85 ?_
    refine XO.nil ?_
    obtain ⟨hsuf, hln⟩ := beside_fact _ hp
    have hnl := hg.len
    dsimp only at hnl
    have hspec := hg.1
    dsimp only at hspec
    (refine X.seq ?_; refine X.seq ?_)
    refine X.region ?_
    refine O.move ?_
    refine O.nilCheck ?_
    (first | refine O.fieldB0 td83_1 ?_ | refine O.fieldA td83_1 ?_ | refine O.fieldB td83_1 ?_)
    (first | refine O.loadB tf3 ?_ | refine O.loadO tf3 (by first | assumption | (simp only [Nat.add_zero, Nat.zero_add]; assumption)) ?_ | refine O.loadOwn tf3 ?_)
    refine O.move ?_
    refine O.lenString tg9 ?_
    refine O.lss ?_
    refine XO.nil ?_
    refine X.cond rfl (fun c6 => ?_) (fun c6 => ?_)
    · (refine X.seq ?_)
      refine X.region ?_
      refine O.makeInterface ?_
      refine O.store _ ts33 ?_
      refine O.store _ ts3 ?_
      refine O.store _ ts3 ?_
      refine O.store _ ts24 ?_
      refine XO.nil ?_
      refine X.retD hfn (fun a w hf hs => parse_leaves (L := []) (hs.perm (by repeat (first | exact Rems.nil | (apply Rems.cons; focus (repeat (first | with_reducible exact Rem.here | with_reducible apply Rem.there)))))) (hf.2.2 2 true _ rfl) (hf.2.2 3 true _ rfl) (hf.2.2 4 true _ rfl) (hf.2.2 5 true _ rfl) ?_)
      have hr : r ≠ [] := by
        rintro rfl
        have := of_decide_eq_true c6
        simp only [List.length_nil] at this
        omega
      exact post_fault (by rw [parseF, if_neg (by omega), parse_rest hp hr]) hs (by decide)
    · have hr : r = [] := by
        have := of_decide_eq_false c6
        exact List.eq_nil_of_length_eq_zero (by omega)
      subst hr
      have hpar : parse s.data.toList = some t := parse_some.2 hp
      (refine X.skip ?_; refine X.seq ?_; refine X.seq ?_)
      refine X.region ?_
      refine O.move ?_
      refine O.nilCheck ?_
      (first | refine O.fieldB0 td83_2 ?_ | refine O.fieldA td83_2 ?_ | refine O.fieldB td83_2 ?_)
      (first | refine O.loadB tf33 ?_ | refine O.loadO tf33 (by first | assumption | (simp only [Nat.add_zero, Nat.zero_add]; assumption)) ?_ | refine O.loadOwn tf33 ?_)
      refine O.lenSlice tl33 ?_
      refine O.move ?_
      refine XO.nil ?_
      (refine X.block ?_)
      refine X.loop (γ := Nat) (fun j => j ≤ nw.length ∧ ∀ i (h : i < nw.length), i < j → nw[i].work ≤ 20) (fun j => [⟨2, true, .pointer (some ⟨b2, 0, none⟩)⟩, ⟨3, true, .pointer (some ⟨b3, 0, none⟩)⟩, ⟨4, true, .pointer (some ⟨b4, 0, none⟩)⟩, ⟨5, true, .pointer (some ⟨b5, 0, none⟩)⟩, ⟨6, true, .pointer (some ⟨b17, 0, none⟩)⟩, ⟨7, true, .pointer (some ⟨b7, 0, none⟩)⟩, ⟨31, true, .slice A1 nw.length cc1⟩, ⟨32, true, .int .i64 nw.length⟩, ⟨33, true, .int .i64 j⟩])
        (fun j => St w0 noS [HP.blk b2 (.cells #[.slice none 0 0] 33 (0, 0)), HP.blk b3 (.cells #[.int .i64 0] 3 (0, 0)), HP.blk b4 (.cells #[.int .i64 0] 3 (0, 0)), HP.blk b5 (.cells #[.nilIface] 24 (0, 0)), HP.blk b7 (.cells #[.slice fA1 (firsts t 0).length fc1, .slice lA1 (lasts t 0).length lc1, .int .i64 (work capW t), .int .i64 (span capW t)] 85 (0, 0)), HP.blk b17 (readerC s (s.size - ([] : L).length) A1 cc1 nw.length), HP.own 46 2 (.slice A1 nw.length cc1) nw.length (planRow nw), HP.rd (NeedsOK nw)])
        (fun j => nw.length - j) 0 ⟨Nat.zero_le _, fun i _ h => by omega⟩ (by repeat (first | exact Sub.nil | refine Sub.cons rfl (by first | rfl | simp) ?_)) (fun w hs => hs.perm (by repeat (first | exact Rems.nil | (apply Rems.cons; focus (repeat (first | with_reducible exact Rem.here | with_reducible apply Rem.there)))))) ?_
      rintro j ⟨j1, j2⟩ next
      try dsimp only at j1 j2 ⊢
      (refine X.seq ?_)
      refine X.region ?_
      refine O.lss ?_
      refine XO.nil ?_
      (refine X.seq ?_)
      refine X.cond rfl (fun c9 => ?_) (fun c9 => ?_)
      · have hj : j < nw.length := by have := of_decide_eq_true c9; omega
        have hrow := rows_drop TaskM.cells_length nw j hj
        refine X.fact (fun w' hs => (hs.own_reads (.there (.there (.there (.there (.there (.there .here))))))).addr (j := 0) (by rw [planRow_length]; omega)) ?_
        rintro ⟨pad, rfl⟩
        (refine X.skip ?_; refine X.seq ?_; refine X.block ?_; refine X.seq ?_)
        refine X.region ?_
        (first | refine O.indexBN tl33 ?_ | refine O.indexAddrN tl33 ?_)
        refine O.loadAgg [.int .i64 nw[j].work, .slice nw[j].hA nw[j].needs.length nw[j].hc] ta46 (fun _ w' hs => (hs.own_reads (.there (.there (.there (.there (.there (.there .here))))))).cells (j * 2) 2 hrow) ?_
        refine O.alloc tz46 (fun b9 hb9 => ?_)
        refine O.store _ ts46 ?_
        refine XO.nil ?_
        (refine X.seq ?_)
        refine X.region ?_
        (first | refine O.fieldB0 td46_0 ?_ | refine O.fieldA td46_0 ?_ | refine O.fieldB td46_0 ?_)
        (first | refine O.loadB tf3 ?_ | refine O.loadO tf3 (by first | assumption | (simp only [Nat.add_zero, Nat.zero_add]; assumption)) ?_ | refine O.loadOwn tf3 ?_)
        refine O.gtr ?_
        refine XO.nil ?_
        refine X.cond rfl (fun c11 => ?_) (fun c11 => ?_)
        · (refine X.seq ?_)
          refine X.region ?_
          refine O.makeInterface ?_
          refine O.store _ ts33 ?_
          refine O.store _ ts3 ?_
          refine O.store _ ts3 ?_
          refine O.store _ ts24 ?_
          refine XO.nil ?_
          refine X.retD hfn (fun a w hf hs => parse_leaves (L := []) (hs.perm (by repeat (first | exact Rems.nil | (apply Rems.cons; focus (repeat (first | with_reducible exact Rem.here | with_reducible apply Rem.there)))))) (hf.2.2 2 true _ rfl) (hf.2.2 3 true _ rfl) (hf.2.2 4 true _ rfl) (hf.2.2 5 true _ rfl) ?_)
          have hov : over capW t = true := by
            rw [over, ← hspec, List.any_map, List.any_eq_true]
            exact ⟨nw[j], List.getElem_mem hj, by have := of_decide_eq_true c11; simp only [Function.comp, decide_eq_true_eq]; exact this⟩
          exact post_fault (by rw [parseF, if_neg (by omega), hpar]; dsimp only; rw [if_pos hov]) hs (by decide)
        · (refine X.skip ?_; refine X.inBlock ?_)
          refine X.region ?_
          refine O.add ?_
          refine O.move ?_
          refine XO.nil ?_
          refine X.st (fun w hs => hs.perm (by repeat (first | exact Rems.nil | (apply Rems.cons; focus (repeat (first | with_reducible exact Rem.here | with_reducible apply Rem.there)))))) (X.sub (by repeat (first | exact Sub.nil | refine Sub.cons rfl (by first | rfl | simp) ?_)) (next (j + 1) (⟨hj, fun i h hi => if h1 : i < j then j2 i h h1 else (by obtain rfl : i = j := (by omega); exact Int.not_lt.1 (of_decide_eq_false c11))⟩) (by omega)))
      · have hje : j = nw.length := by have := of_decide_eq_false c9; omega
        have hov : over capW t = false := by
          rw [over, ← hspec, List.any_map, List.any_eq_false]
          intro x hx
          obtain ⟨i, hi, rfl⟩ := List.getElem_of_mem hx
          have := j2 i hi (by omega)
          simp only [Function.comp, decide_eq_true_eq]
          exact Int.not_lt.2 this
        (refine X.exit rfl ?_; refine X.seq ?_; refine X.seq ?_)
        refine X.region ?_
        refine O.move ?_
        refine O.nilCheck ?_
        (first | refine O.fieldB0 td83_2 ?_ | refine O.fieldA td83_2 ?_ | refine O.fieldB td83_2 ?_)
        (first | refine O.loadB tf33 ?_ | refine O.loadO tf33 (by first | assumption | (simp only [Nat.add_zero, Nat.zero_add]; assumption)) ?_ | refine O.loadOwn tf33 ?_)
        refine O.lenSlice tl33 ?_
        refine O.gtr ?_
        refine XO.nil ?_
        refine X.cond rfl (fun c14 => ?_) (fun c14 => ?_)
        · (refine X.seq ?_)
          refine X.region ?_
          refine O.makeInterface ?_
          refine O.store _ ts33 ?_
          refine O.store _ ts3 ?_
          refine O.store _ ts3 ?_
          refine O.store _ ts24 ?_
          refine XO.nil ?_
          refine X.retD hfn (fun a w hf hs => parse_leaves (L := []) (hs.perm (by repeat (first | exact Rems.nil | (apply Rems.cons; focus (repeat (first | with_reducible exact Rem.here | with_reducible apply Rem.there)))))) (hf.2.2 2 true _ rfl) (hf.2.2 3 true _ rfl) (hf.2.2 4 true _ rfl) (hf.2.2 5 true _ rfl) ?_)
          exact post_fault (by rw [parseF, if_neg (by omega), hpar]; dsimp only; rw [hov, if_neg (by decide), if_pos (by have := of_decide_eq_true c14; omega)]) hs (by decide)
        · (refine X.skip ?_; refine X.seq ?_)
          refine X.regionH [] [] [0, 1, 2, 3, 4, 5, 6, 7, 8, 9, 10, 11] [HP.blk b17 (readerC s (s.size - ([] : L).length) A1 cc1 nw.length), HP.blk b7 (.cells #[.slice fA1 (firsts t 0).length fc1, .slice lA1 (lasts t 0).length lc1, .int .i64 (work capW t), .int .i64 (span capW t)] 85 (0, 0))] mixed (by kernel_rfl) (by repeat (first | exact Rems.nil | (apply Rems.cons; focus (repeat (first | with_reducible exact Rem.here | with_reducible apply Rem.there))))) ?_
          simp only [permL, List.getD_cons_zero, List.getD_cons_succ]
          refine O.move ?_
          refine O.nilCheck ?_
          (first | refine O.fieldB0 td83_2 ?_ | refine O.fieldA td83_2 ?_ | refine O.fieldB td83_2 ?_)
          (first | refine O.loadB tf33 ?_ | refine O.loadO tf33 (by first | assumption | (simp only [Nat.add_zero, Nat.zero_add]; assumption)) ?_ | refine O.loadOwn tf33 ?_)
          (first | refine O.fieldB0 td85_2 ?_ | refine O.fieldA td85_2 ?_ | refine O.fieldB td85_2 ?_)
          (first | refine O.loadB tf3 ?_ | refine O.loadO tf3 (by first | assumption | (simp only [Nat.add_zero, Nat.zero_add]; assumption)) ?_ | refine O.loadOwn tf3 ?_)
          (first | refine O.fieldB0 td85_3 ?_ | refine O.fieldA td85_3 ?_ | refine O.fieldB td85_3 ?_)
          (first | refine O.loadB tf3 ?_ | refine O.loadO tf3 (by first | assumption | (simp only [Nat.add_zero, Nat.zero_add]; assumption)) ?_ | refine O.loadOwn tf3 ?_)
          refine O.storeH (b := b2) _ ts33 (by repeat (first | with_reducible exact Rem.here | with_reducible apply Rem.there)) (fun X => ⟨_, (by repeat (first | exact Rems.nil | (apply Rems.cons; focus (repeat (first | with_reducible exact Rem.here | with_reducible apply Rem.there)))))⟩) ?_
          refine O.storeH (b := b3) _ ts3 (by repeat (first | with_reducible exact Rem.here | with_reducible apply Rem.there)) (fun X => ⟨_, (by repeat (first | exact Rems.nil | (apply Rems.cons; focus (repeat (first | with_reducible exact Rem.here | with_reducible apply Rem.there)))))⟩) ?_
          refine O.storeH (b := b4) _ ts3 (by repeat (first | with_reducible exact Rem.here | with_reducible apply Rem.there)) (fun X => ⟨_, (by repeat (first | exact Rems.nil | (apply Rems.cons; focus (repeat (first | with_reducible exact Rem.here | with_reducible apply Rem.there)))))⟩) ?_
          refine O.storeH (b := b5) _ ts24 (by repeat (first | with_reducible exact Rem.here | with_reducible apply Rem.there)) (fun X => ⟨_, (by repeat (first | exact Rems.nil | (apply Rems.cons; focus (repeat (first | with_reducible exact Rem.here | with_reducible apply Rem.there)))))⟩) ?_
          refine XO.nilH ?_
          refine XO.nil ?_
          refine X.retD hfn (fun a w hf hs => parse_leaves (L := [HP.own 46 2 (.slice A1 nw.length cc1) nw.length (planRow nw), HP.rd (NeedsOK nw)]) (hs.perm (by repeat (first | exact Rems.nil | (apply Rems.cons; focus (repeat (first | with_reducible exact Rem.here | with_reducible apply Rem.there)))))) (hf.2.2 2 true _ rfl) (hf.2.2 3 true _ rfl) (hf.2.2 4 true _ rfl) (hf.2.2 5 true _ rfl) ?_)
          have hok : parseF capW s.data.toList = .ok t := by rw [parseF, if_neg (by omega), hpar]; dsimp only; rw [hov, if_neg (by decide), if_neg (by have := of_decide_eq_false c14; omega)]
          refine ⟨⟨A1, cc1, nw, work capW t, span capW t, 0⟩, by unfold Parsed; rw [hok]; exact ⟨hspec, rfl, rfl, rfl⟩, rfl, ?_⟩
          have a1 := (hs.perm (L1 := [HP.own 46 2 (.slice A1 nw.length cc1) nw.length (planRow nw), HP.rd (NeedsOK nw)]) (by repeat (first | exact Rems.nil | (apply Rems.cons; focus (repeat (first | with_reducible exact Rem.here | with_reducible apply Rem.there)))))).rd_own.rd_and
          exact a1.rd_mono (fun w h => ⟨h.1, h.2⟩)
end Go.Proofs.YtgegppbjpaeljaaDoor.Wv
