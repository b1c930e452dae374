/- strings.Builder: copyCheck and WriteString by what is owned. -/
import Derived.Test.YtgegppbjpaeljaaDoorTy
import Derived.Test.YtgegppbjpaeljaaDoorF
import Derived.Laws.Externs
import Derived.Shelf.Strings.Builder1
import Derived.LaidEqlPtr
set_option linter.unusedVariables false
set_option linter.unusedSimpArgs false
set_option maxRecDepth 10000
namespace Go.Proofs.YtgegppbjpaeljaaDoor.Bd
open Go Go.X Go.RowKit Go.Proofs.YtgegppbjpaeljaaDoor.Ty

def bptr (b : Nat) : Value := .pointer (some ⟨b, 0, none⟩)
theorem sizeB : (Tryd.prog.info? 69).map (·.size) = some 2 := by kernel_rfl
theorem liesB : liesAt Tryd.prog Tryd.prog.depth 69 (2 / Tryd.prog.cellsOf 69) 0 69 1 = true := by kernel_rfl
noncomputable def cxCheck : Cx := ⟨Tryd.prog, 54, 20, []⟩
theorem copyCheck_calls (b : Nat) (p v : Value) (hp : p = .pointer none ∨ p = bptr b) (w : World) (S : Nat → Prop) (hs : St w S [HP.blk b (.cells #[p, v] 69 (0, 0))] w) :
    Calls Tryd.prog 54 #[bptr b] w fun en w' => ∃ x : Unit, True ∧ en = .returned (.tuple #[]) ∧ St w S [HP.blk b (.cells #[bptr b, v] 69 (0, 0))] w' := by
  obtain ⟨j, hj, hjs⟩ := Option.map_eq_some_iff.1 sizeB
  rcases hp with rfl | rfl
  · refine calls_of_X cxCheck [bptr b] Tryd.func54 hs ?_
    (repeat (first | with_reducible refine X.seq ?_ | with_reducible refine X.region ?_ | with_reducible refine X.block ?_ | with_reducible refine X.skip ?_ | with_reducible refine X.inBlock ?_ | refine X.exit rfl ?_))
    refine O.move ?_
    refine O.nilCheck ?_
    (first | refine O.fieldB0 td69_0 ?_ | refine O.fieldA td69_0 ?_ | refine O.fieldB td69_0 ?_)
    (first | refine O.loadB tf66 ?_ | refine O.loadO tf66 (by first | assumption | (simp only [Nat.add_zero, Nat.zero_add]; assumption)) ?_)
    refine O.bin (.bool true) ?_
    refine XO.nil ?_
    (repeat (first | with_reducible refine X.seq ?_ | with_reducible refine X.region ?_ | with_reducible refine X.block ?_ | with_reducible refine X.skip ?_ | with_reducible refine X.inBlock ?_ | refine X.exit rfl ?_))
    refine X.condT rfl rfl ?_
    (repeat (first | with_reducible refine X.seq ?_ | with_reducible refine X.region ?_ | with_reducible refine X.block ?_ | with_reducible refine X.skip ?_ | with_reducible refine X.inBlock ?_ | refine X.exit rfl ?_))
    refine O.move ?_
    refine O.move ?_
    refine O.conv (bptr b) ?_ (hrun := by intro _ w hs; exact Lib.run_to_unsafe w ⟨b, 0, none⟩ Tryd.underlying66 Tryd.underlying133 hj (by rw [hjs]; decide) (show w.shape? b = some (69, 2) by simp [World.shape?, hs.blk_at .here]) (Nat.zero_lt_succ 1))
    refine O.callX (bptr b) ?_ (hrun := by intro _ w hs; show (callFunc 76 #[bptr b]).run Tryd.prog w = _; rw [run_callFunc_extern Tryd.func76 (by kernel_rfl) (by kernel_rfl) (by kernel_rfl) (e := Extern.AbiNoEscape.same) (by kernel_rfl)]; rw [Lib.run_noEscape]; rfl)
    refine O.conv (bptr b) ?_ (hrun := by intro _ w hs; exact Lib.run_from_unsafe w ⟨b, 0, none⟩ Tryd.underlying133 Tryd.underlying66 hj (by simp [World.shape?, hs.blk_at .here]) liesB)
    refine O.nilCheck ?_
    (first | refine O.fieldB0 td69_0 ?_ | refine O.fieldA td69_0 ?_ | refine O.fieldB td69_0 ?_)
    refine O.store _ ts66 ?_
    refine XO.nil ?_
    (repeat (first | with_reducible refine X.seq ?_ | with_reducible refine X.region ?_ | with_reducible refine X.block ?_ | with_reducible refine X.skip ?_ | with_reducible refine X.inBlock ?_ | refine X.exit rfl ?_))
    refine X.fin0 Tryd.func54 ?_
    exact fun w' hs => ⟨(), trivial, rfl, hs⟩
  · refine calls_of_X cxCheck [bptr b] Tryd.func54 hs ?_
    (repeat (first | with_reducible refine X.seq ?_ | with_reducible refine X.region ?_ | with_reducible refine X.block ?_ | with_reducible refine X.skip ?_ | with_reducible refine X.inBlock ?_ | refine X.exit rfl ?_))
    refine O.move ?_
    refine O.nilCheck ?_
    (first | refine O.fieldB0 td69_0 ?_ | refine O.fieldA td69_0 ?_ | refine O.fieldB td69_0 ?_)
    (first | refine O.loadB tf66 ?_ | refine O.loadO tf66 (by first | assumption | (simp only [Nat.add_zero, Nat.zero_add]; assumption)) ?_)
    refine O.bin (.bool false) ?_
    refine XO.nil ?_
    (repeat (first | with_reducible refine X.seq ?_ | with_reducible refine X.region ?_ | with_reducible refine X.block ?_ | with_reducible refine X.skip ?_ | with_reducible refine X.inBlock ?_ | refine X.exit rfl ?_))
    refine X.condF rfl rfl ?_
    (repeat (first | with_reducible refine X.seq ?_ | with_reducible refine X.region ?_ | with_reducible refine X.block ?_ | with_reducible refine X.skip ?_ | with_reducible refine X.inBlock ?_ | refine X.exit rfl ?_))
    refine O.move ?_
    refine O.nilCheck ?_
    (first | refine O.fieldB0 td69_0 ?_ | refine O.fieldA td69_0 ?_ | refine O.fieldB td69_0 ?_)
    (first | refine O.loadB tf66 ?_ | refine O.loadO tf66 (by first | assumption | (simp only [Nat.add_zero, Nat.zero_add]; assumption)) ?_)
    refine O.move ?_
    refine O.bin (.bool false) ?_ (hrun := by intro _ w _; exact Lib.run_neq_ptr_same w _ Tryd.underlying66 hj)
    refine XO.nil ?_
    (repeat (first | with_reducible refine X.seq ?_ | with_reducible refine X.region ?_ | with_reducible refine X.block ?_ | with_reducible refine X.skip ?_ | with_reducible refine X.inBlock ?_ | refine X.exit rfl ?_))
    refine X.condF rfl rfl ?_
    (repeat (first | with_reducible refine X.seq ?_ | with_reducible refine X.region ?_ | with_reducible refine X.block ?_ | with_reducible refine X.skip ?_ | with_reducible refine X.inBlock ?_ | refine X.exit rfl ?_))
    refine X.fin0 Tryd.func54 ?_
    exact fun w' hs => ⟨(), trivial, rfl, hs⟩

def bytesC (s : ByteArray) : List Value := byteCells s
theorem elem8 : TElem Tryd.prog 5 (.int .u8 0) 1 1 := TElem.of (by kernel_rfl) rfl
theorem tl8 : TSlice Tryd.prog 67 5 1 := ⟨fun w => by kernel_rfl, fun w => by kernel_rfl⟩
theorem fB0 : TField Tryd.prog 69 0 0 := fun a w => by kernel_rfl
theorem fB1 : TField Tryd.prog 69 1 1 := fun a w => by kernel_rfl
noncomputable def cxWS : Cx := ⟨Tryd.prog, 29, 19, []⟩
/-- A builder b of the call's own that holds bs. -/
def HP.bld (b : Nat) (bs : List Value) : HP := HP.ex fun x : Value × Value × Nat => HP.star [HP.pure (x.1 = .pointer none ∨ x.1 = bptr b), HP.blk b (.cells #[x.1, x.2.1] 69 (0, 0)), HP.own 5 1 x.2.1 x.2.2 bs]
theorem bld_open {w0 w : World} {S : Nat → Prop} {L : List HP} {b : Nat} {bs : List Value} : St w0 S (HP.bld b bs :: L) w ↔ ∃ p A c, (p = .pointer none ∨ p = bptr b) ∧ St w0 S (HP.blk b (.cells #[p, .slice A bs.length c] 69 (0, 0)) :: HP.own 5 1 (.slice A bs.length c) bs.length bs :: L) w := by
  constructor
  · intro h
    obtain ⟨⟨p, v, n⟩, h⟩ := St.ex.1 h
    have h := St.star.1 h
    simp only [List.cons_append, List.nil_append] at h
    obtain ⟨hp, h⟩ := St.pure.1 h
    obtain ⟨A, c, rfl, hl, _⟩ := h.own_form (.there .here)
    obtain rfl : bs.length = n := by simpa using hl
    exact ⟨p, A, c, hp, h⟩
  · rintro ⟨p, A, c, hp, h⟩
    exact St.ex.2 ⟨(p, .slice A bs.length c, bs.length), St.star.2 (by simp only [List.cons_append, List.nil_append]; exact St.pure.2 ⟨hp, h⟩)⟩
theorem WriteString_calls (b : Nat) (bs : List Value) (s : ByteArray) (hlen : bs.length + s.size ≤ 140737488355328) (w : World) (S : Nat → Prop) (hs : St w S [HP.bld b bs] w) :
    Calls Tryd.prog 29 #[bptr b, .string s] w fun en w' => ∃ x : Unit, True ∧ en = .returned (.tuple #[.int .i64 s.size, .nilIface]) ∧ St w S [HP.bld b (bs ++ byteCells s)] w' := by
  obtain ⟨p, A, c, hp, hs⟩ := bld_open.1 hs
  refine calls_of_X cxWS [bptr b, .string s] Tryd.func29 hs ?_
  (repeat (first | with_reducible refine X.seq ?_ | with_reducible refine X.region ?_ | with_reducible refine X.block ?_ | with_reducible refine X.skip ?_ | with_reducible refine X.inBlock ?_ | refine X.exit rfl ?_))
  refine O.assign ?_
  refine O.assign ?_
  refine XO.nil ?_
  (repeat (first | with_reducible refine X.seq ?_ | with_reducible refine X.region ?_ | with_reducible refine X.block ?_ | with_reducible refine X.skip ?_ | with_reducible refine X.inBlock ?_ | refine X.exit rfl ?_))
  refine O.move ?_
  refine O.callS (α := Unit) (φ := fun _ => True) (vo := fun _ => .tuple #[]) (L1' := fun _ => [HP.blk b (.cells #[bptr b, .slice A bs.length c] 69 (0, 0))]) te54 (hr := Rems.cons .here .nil) (hc := by intro w S' hs' _ _; exact copyCheck_calls b p _ hp w S' hs') (next := fun _ _ => ?_)
  simp only [List.cons_append, List.nil_append]
  refine XO.nil ?_
  (repeat (first | with_reducible refine X.seq ?_ | with_reducible refine X.region ?_ | with_reducible refine X.block ?_ | with_reducible refine X.skip ?_ | with_reducible refine X.inBlock ?_ | refine X.exit rfl ?_))
  refine O.move ?_
  refine O.move ?_
  refine O.nilCheck ?_
  (first | refine O.fieldB0 td69_1 ?_ | refine O.fieldA td69_1 ?_ | refine O.fieldB td69_1 ?_)
  (first | refine O.loadB tf67 ?_ | refine O.loadO tf67 (by first | assumption | (simp only [Nat.add_zero, Nat.zero_add]; assumption)) ?_)
  refine O.move ?_
  refine O.append (byteCells s) s.size tl8 elem8 (hsrc := fun w _ => Src.ofString w (under_of tg9) s) (h63 := by simp only [maxLen]; omega) (hbytes := by omega) (next := fun A' c' => ?_)
  refine O.nilCheck ?_
  (first | refine O.fieldB0 td69_1 ?_ | refine O.fieldA td69_1 ?_ | refine O.fieldB td69_1 ?_)
  refine O.store _ ts67 ?_
  refine XO.nil ?_
  (repeat (first | with_reducible refine X.seq ?_ | with_reducible refine X.region ?_ | with_reducible refine X.block ?_ | with_reducible refine X.skip ?_ | with_reducible refine X.inBlock ?_ | refine X.exit rfl ?_))
  refine O.move ?_
  refine O.lenString tg9 ?_
  refine O.assign ?_
  refine O.assign ?_
  refine XO.nil ?_
  (repeat (first | with_reducible refine X.seq ?_ | with_reducible refine X.region ?_ | with_reducible refine X.block ?_ | with_reducible refine X.skip ?_ | with_reducible refine X.inBlock ?_ | refine X.exit rfl ?_))
  refine X.ret2 Tryd.func29 ?_
  intro w' hs
  refine ⟨(), trivial, rfl, bld_open.2 ⟨bptr b, A', c', .inr rfl, ?_⟩⟩
  have hl : (bs ++ byteCells s).length = bs.length + s.size := by rw [List.length_append, byteCells_length]
  rw [hl]
  exact hs
/-- What the shelf's contract of String asks. -/
theorem isBuilder {w0 w : World} {L : List HP} {b c : Nat} {p : Value} {A : Option Addr} {bs : List Value} (hp : p = .pointer none ∨ p = bptr b) (hb : w0.heap.size ≤ b) (hs : St w0 noS (HP.blk b (.cells #[p, .slice A bs.length c] 69 (0, 0)) :: HP.own 5 1 (.slice A bs.length c) bs.length bs :: L) w) : Lib.IsBuilder 69 5 w0.heap.size b bs w := by
  have h0 := hs.blk_at .here
  obtain ⟨F, hF, F1, F2, h1, h2, h3, h4, G1, G2, g1, g2, g3, ⟨hown, hfp⟩, g5⟩ := hs.sat
  have hat : w.ownsRow w0.heap.size 5 1 (.slice A bs.length c) bs.length bs ∧ (Value.slice A bs.length c).ownBlock ≠ some b := by
    constructor
    · refine ⟨hown.1, ?_⟩
      rcases hown.2 with h | ⟨g, cap, cur, hv, _, hr⟩
      · exact .inl h
      · refine .inr ⟨g, cap, cur, hv, ?_, hr⟩
        have hg : (Value.slice A bs.length c).ownBlock = some g := by rw [hv]; rfl
        exact (hF g (h2 g (g1 g ((hfp g).2 hg)))).2.resolve_left (fun h => h)
    · intro he
      exact h3 b h4.2.1 (g1 b ((hfp b).2 he))
  rcases hp with rfl | rfl
  · exact .inl ⟨hb, _, h0, hat.1, hat.2⟩
  · exact .inr ⟨hb, _, h0, hat.1, hat.2⟩
end Go.Proofs.YtgegppbjpaeljaaDoor.Bd
