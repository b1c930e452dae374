/- The rules of the walk's frame, 2: memory. Over any program. -/
import Derived.Test.YtgegppbjpaeljaaDoorB
set_option linter.unusedVariables false
set_option linter.unusedSimpArgs false
namespace Go.X
open Go.RowKit

theorem addr_add (a : Addr) (i j : Nat) : (a.add i).add j = a.add (i + j) := by
  unfold Addr.add
  by_cases hi : i = 0 <;> by_cases hj : j = 0 <;> simp [hi, hj, Nat.add_assoc]
theorem add_blk (b i j : Nat) : (⟨b, i, none⟩ : Addr).add j = ⟨b, i + j, none⟩ := by
  unfold Addr.add
  by_cases hj : j = 0 <;> simp [hj]
theorem add_block (a : Addr) (i : Nat) : (a.add i).block = a.block := by unfold Addr.add; split <;> rfl

theorem St.old {w0 w : World} {S : Nat → Prop} {L : List HP} (h : St w0 S L w) {p : Addr} {v : Value} (hc : w0.cell? p = some v) (hS : ¬ S p.block) : w.cell? p = some v := by
  rw [World.cell?_of_block (w := w0) (h.mod.block p.block (World.block_lt_of_cell? w0 p hc) hS)]; exact hc
theorem St.old0 {w0 w : World} {L : List HP} (h : St w0 noS L w) {p : Addr} {v : Value} (hc : w0.cell? p = some v) : w.cell? p = some v := h.old hc (fun h => h)
theorem St.cell {w0 w : World} {S : Nat → Prop} {L L' : List HP} {b off : Nat} {cs : Array Value} {t : TypeId} {fz : Nat × Nat} {v : Value} (h : St w0 S L w) (hr : Rem (HP.blk b (.cells cs t fz)) L L') (hv : cs[off]? = some v) : w.cell? ⟨b, off, none⟩ = some v := by
  simp [World.cell?, h.blk_at hr, hv]

def overL : Array Value → Nat → List Value → Array Value
  | cs, _, [] => cs
  | cs, o, v :: r => overL (cs.setIfInBounds o v) (o + 1) r
theorem size_overL : ∀ (vs : List Value) (cs : Array Value) (o : Nat), (overL cs o vs).size = cs.size
  | [], _, _ => rfl
  | v :: r, cs, o => by simp [overL, size_overL r]

theorem run_storeCells_st {P : Program} {w0 : World} {S : Nat → Prop} {L' : List HP} {b off : Nat} {t : TypeId} : ∀ (vs : List Value) (i : Nat) (cs : Array Value) (w : World), St w0 S (HP.blk b (.cells cs t (0, 0)) :: L') w → off + i + vs.length ≤ cs.size → vs.all Value.oneCell' = true →
    ∃ w', (storeCells ⟨b, off, none⟩ vs i).run P w = .ok () w' ∧ St w0 S (HP.blk b (.cells (overL cs (off + i) vs) t (0, 0)) :: L') w'
  | [], i, cs, w, h, _, _ => ⟨w, rfl, h⟩
  | v :: r, i, cs, w, h, hl, h1 => by
    simp only [List.all_cons, Bool.and_eq_true] at h1
    simp only [List.length_cons] at hl
    have hb := h.blk_at .here
    have hlt : off + i < cs.size := by omega
    have hcell : w.cell? ⟨b, off + i, none⟩ = some cs[off + i] := by simp [World.cell?, hb, hlt]
    have hfz : w.frozen? ⟨b, off + i, none⟩ = false := by
      simp only [World.frozen?, hb]
      simp
    have hrun : (store ((⟨b, off, none⟩ : Addr).add i) v).run P w = .ok () (w.setCell ⟨b, off + i, none⟩ v) := by
      rw [add_blk, run_store _ _ _ _ _ h1.1, hcell]
      simp [hfz]
    have hst : St w0 S (HP.blk b (.cells (cs.setIfInBounds (off + i) v) t (0, 0)) :: L') (w.setCell ⟨b, off + i, none⟩ v) := by
      refine h.write .here rfl rfl rfl (by simp) (fun k hk => Below.heap_setCell _ _ _ _ hk) ?_
      have hlt : b < w.heap.size := (Array.getElem?_eq_some_iff.1 hb).1
      have hg : w.heap[b] = .cells cs t (0, 0) := (Array.getElem?_eq_some_iff.1 hb).2
      simp [World.setCell, Array.getElem?_modify, hb]
    obtain ⟨w', h2, h3⟩ := run_storeCells_st (off := off) r (i + 1) _ _ hst (by rw [Array.size_setIfInBounds]; omega) h1.2
    refine ⟨w', ?_, h3⟩
    unfold storeCells
    rw [Sem.run_bind, hrun]
    exact h2

section
variable {cx : Cx} {k : List Item} {e : Env} {R : Ending → World → Prop} {ops rest : List Oper} {o : Oper} {g : Bool} {d : Nat}
variable {w0 : World} {S : Nat → Prop} {L L' : List HP}

/-- A region whose order is open: reads, then its last operations in their order. -/
theorem X.regionS {id : Nat} {l : List Oper} (n : Nat) (hm : cx.P.follows .mixedOrders = true) (hB : Region.lexTailB .any l.toArray n = true) (h : XO cx (.still (l.drop n)) l (l.take n) k e (St w0 S L) R) (hnr : cx.f.rnd = none := by rfl) : X cx (.code (.region id l.toArray true) :: k) e (St w0 S L) R :=
  fun a w hf hs => Run.of_wp hnr (wp_region_still_tail n hm hB (h a _ hf (hs.drew _)))
/-- A region whose order is open: reads alone. -/
theorem X.regionR {id : Nat} {l : List Oper} (hm : cx.P.follows .mixedOrders = true) (hB : Region.lexB .any l.toArray = true) (h : XO cx (.still []) l l k e (St w0 S L) R) (hnr : cx.f.rnd = none := by rfl) : X cx (.code (.region id l.toArray true) :: k) e (St w0 S L) R :=
  fun a w hf hs => Run.of_wp hnr (wp_region_still_lit hm hB (h a _ hf (hs.drew _)))
/-- A region whose order is open: reads and quiet calls. -/
theorem X.regionQ {id : Nat} {l : List Oper} (hm : cx.P.follows .mixedOrders = true) (hB : Region.lexB .any l.toArray = true) (h : XO cx .quiet l l k e (St w0 S L) R) (hnr : cx.f.rnd = none := by rfl) : X cx (.code (.region id l.toArray true) :: k) e (St w0 S L) R :=
  fun a w hf hs => Run.of_wp hnr (wp_region_quiet hm hB (hs.drew _) (by simpa using h a hf))
theorem XO.alloc {t : TypeId} {z : Value} (ho : o.op = .alloc t) (hT : TZero cx.P t z) (hg : gcond e ops o.guard = some true) (hd : o.dst = some d) (hn : Nat.ble (d + 1) cx.n = true)
    (next : ∀ b, w0.heap.size ≤ b → XO cx .seq ops rest k (⟨d, true, .pointer (some ⟨b, 0, none⟩)⟩ :: e) (St w0 S (HP.blk b (.cells z.cells t (0, 0)) :: L)) R) : XO cx .seq ops (o :: rest) k e (St w0 S L) R := by
  refine XO.eff (α := Nat) (φ := fun b => w0.heap.size ≤ b) (vo := fun b => .pointer (some ⟨b, 0, none⟩)) (σ' := fun b => St w0 S (HP.blk b (.cells z.cells t (0, 0)) :: L)) hg rfl hd hn ?_ next
  intro a w hf hs
  obtain ⟨h1, h2⟩ := hs.alloc (.cells z.cells t (0, 0))
  refine ⟨w.heap.size, _, h1, ?_, h2⟩
  simp [execOp, ho, Instr.alloc, hT w, newVar, newRow, newObj]
  rfl
theorem XO.box {t : TypeId} {x : Operand} {v : Value} {c : Bool} (ho : o.op = .box t x) (hx : opd e x = some (c, v)) (hc : c = true) (hg : gcond e ops o.guard = some true) (hd : o.dst = some d) (hn : Nat.ble (d + 1) cx.n = true)
    (next : ∀ b, w0.heap.size ≤ b → XO cx .seq ops rest k (⟨d, true, .pointer (some ⟨b, 0, none⟩)⟩ :: e) (St w0 S (HP.blk b (.cells v.cells t (0, 0)) :: L)) R) : XO cx .seq ops (o :: rest) k e (St w0 S L) R := by
  refine XO.eff (α := Nat) (φ := fun b => w0.heap.size ≤ b) (vo := fun b => .pointer (some ⟨b, 0, none⟩)) (σ' := fun b => St w0 S (HP.blk b (.cells v.cells t (0, 0)) :: L)) hg rfl hd hn ?_ next
  intro a w hf hs
  obtain ⟨h1, h2⟩ := hs.alloc (.cells v.cells t (0, 0))
  refine ⟨w.heap.size, _, h1, ?_, h2⟩
  simp [execOp, ho, Instr.box, opd_eval hf hx hc, newVar, newRow, newObj]
  rfl
theorem XO.store {t t' : TypeId} {x y : Operand} {b off : Nat} {cs cs' : Array Value} {v : Value} {c c' : Bool} {n : Nat} (ho : o.op = .store t x y) (hT : TSize cx.P t n) (hx : opd e x = some (c, .pointer (some ⟨b, off, none⟩))) (hy : opd e y = some (c', v)) (hc : c = true) (hc' : c' = true)
    (hr : Rem (HP.blk b (.cells cs t' (0, 0))) L L') (hv : v.cells.size = n) (hone : v.cells.toList.all Value.oneCell' = true) (hl : off + n ≤ cs.size) (hcs : overL cs off v.cells.toList = cs')
    (hg : gcond e ops o.guard = some true) (hd : o.dst = none) (next : XO cx .seq ops rest k e (St w0 S (HP.blk b (.cells cs' t' (0, 0)) :: L')) R) : XO cx .seq ops (o :: rest) k e (St w0 S L) R := by
  refine XO.eff0 (α := Unit) (φ := fun _ => True) (σ' := fun _ => St w0 S (HP.blk b (.cells cs' t' (0, 0)) :: L')) hg rfl hd ?_ (fun _ _ => next)
  intro a w hf hs
  have hs' : St w0 S (HP.blk b (.cells cs t' (0, 0)) :: L') w := by
    have := hs.rems (Rems.cons hr Rems.nil)
    exact this
  obtain ⟨w', h1, h2⟩ := run_storeCells_st (P := cx.P) (off := off) v.cells.toList 0 cs w hs' (by simp; omega) hone
  refine ⟨(), w', trivial, ?_, by rw [← hcs]; exact h2⟩
  simp only [execOp, ho, Instr.storeAt, opd_eval hf hx hc, opd_eval hf hy hc', Instr.sureAddr, storeVar]
  simp [hT w, hv, h1]
end

/-! ### calls -/
def opds (e : Env) : List Operand → Option (Bool × List Value)
  | [] => some (true, [])
  | x :: r => match opd e x with
    | some (c, v) => match opds e r with
      | some (c2, vs) => some (c && c2, v :: vs)
      | none => none
    | none => none
theorem opds_eval {cx : Cx} {e : Env} {a : Act} (h : Fits cx e a) : ∀ {xs : List Operand} {c : Bool} {vs : List Value}, opds e xs = some (c, vs) → c = true → xs.map a.eval = vs
  | [], c, vs, ho, _ => by simp only [opds, Option.some.injEq, Prod.mk.injEq] at ho; simp [ho.2]
  | x :: r, c, vs, ho, hc => by
    simp only [opds] at ho
    cases hx : opd e x with
    | none => rw [hx] at ho; cases ho
    | some cv =>
      obtain ⟨c1, v⟩ := cv
      rw [hx] at ho
      cases hr : opds e r with
      | none => rw [hr] at ho; cases ho
      | some cvs =>
        obtain ⟨c2, vs'⟩ := cvs
        rw [hr] at ho
        simp only [Option.some.injEq, Prod.mk.injEq] at ho
        obtain ⟨rfl, rfl⟩ := ho
        simp only [Bool.and_eq_true] at hc
        simp [opd_eval h hx hc.1, opds_eval h hr hc.2]
theorem run_call {cx : Cx} {e : Env} {a : Act} {w : World} {o : Oper} {fo : Operand} {fid : FuncId} {caps : Array Value} {xs : List Operand} {vs : List Value} {c cf : Bool} {ts : Array TypeId} (ho : o.op = .call { callee := .value fo, args := xs.toArray, argTypes := ts }) (hT : TEnters cx.P fid) (hf : opd e fo = some (cf, .func (.func fid) #[] caps)) (hxs : opds e xs = some (c, vs)) (hcf : cf = true) (hc : c = true)
    (h : Fits cx e a) : (execOp a.eval o).run cx.P w = .ok (.enter fid (vs ++ caps.toList).toArray) w := by
  have h1 := opds_eval h hxs hc
  have h2 := hT (vs ++ caps.toList).toArray w
  have h3 : (vs ++ caps.toList).toArray = vs.toArray ++ caps := by simp
  rw [h3] at h2 ⊢
  simp [execOp, ho, resolve, opd_eval h hf hcf, Deferred.ofValue, invoke, h1, h2]
theorem St.keep {w0 w w' : World} {S : Nat → Prop} {L : List HP} (h : St w0 S L w) (hb : Below w.heap.size w w') : St w0 S L w' := by
  obtain ⟨F, hF, hs⟩ := h.sat
  exact ⟨h.mod.trans (Mod.of_below hb noS) (fun _ h => h.elim), F, fun k hk => ⟨Nat.lt_of_lt_of_le (hF k hk).1 hb.size, (hF k hk).2⟩, hs.move (fun k hk => hb.block k (hF k hk).1)⟩
/-- New blocks beside what is owned. -/
theorem St.more {w0 w w' : World} {S : Nat → Prop} {L N : List HP} (h : St w0 S L w) (hb : Below w.heap.size w w') {G : Nat → Prop} (hG : ∀ k, G k → w.heap.size ≤ k ∧ k < w'.heap.size) (hN : Sats N w' G) : St w0 S (N ++ L) w' := by
  obtain ⟨F, hF, hs⟩ := h.sat
  refine ⟨h.mod.trans (Mod.of_below hb noS) (fun _ h => h.elim), fun k => G k ∨ F k, ?_, Sats.join hN (hs.move (fun k hk => hb.block k (hF k hk).1)) (fun k hk => .inl hk) (fun k hk => .inr hk) (fun k hk hk' => ?_)⟩
  · rintro k (hk | hk)
    · exact ⟨(hG k hk).2, .inr (Nat.le_trans h.mod.size (hG k hk).1)⟩
    · exact ⟨Nat.lt_of_lt_of_le (hF k hk).1 hb.size, (hF k hk).2⟩
  · have := (hG k hk).1
    have := (hF k hk').1
    omega
/-- A guarded call that turns nothing that is spoken of. -/
theorem XO.callG {cx : Cx} {md : Md} {k : List Item} {e : Env} {σ : World → Prop} {R : Ending → World → Prop} {ops rest : List Oper} {o : Oper} {g : Bool} {d : Nat} {v : Value} {fid : FuncId} {args : List Value} (hmd : md.calls) (hg : gcond e ops o.guard = some g) (hd : o.dst = some d) (hn : Nat.ble (d + 1) cx.n = true)
    (hrun : g = true → ∀ a w, Fits cx e a → (execOp a.eval o).run cx.P w = .ok (.enter fid args.toArray) w)
    (hc : g = true → ∀ w, σ w → Calls cx.P fid args.toArray w (fun en w' => en = .returned v ∧ σ w')) (next : XO cx md ops rest k (⟨d, g, v⟩ :: e) σ R) : XO cx md ops (o :: rest) k e σ R := by
  cases g with
  | true =>
    cases md with
    | seq => exact XO.call (α := Unit) (φ := fun _ => True) (vo := fun _ => v) (σ' := fun _ => σ) hg rfl hd hn (hrun rfl) (fun w hs => (hc rfl w hs).mono fun en w' h => ⟨(), trivial, h.1, h.2⟩) (fun _ _ => next)
    | still tail => exact hmd.elim
    | held fs tail ρ => exact hmd.elim
    | inn => exact hmd.elim
    | quiet =>
      intro a hf
      have hw := wanted_of hf hg
      have hnext := next (a.put (some d) v) (hf.put (c := true) (Nat.le_of_ble_eq_true hn))
      unfold wpQuiet
      rw [if_pos hw]
      refine ⟨v, fun w hs => ?_, by rw [hd]; exact hnext⟩
      unfold Oper.quietAt
      rw [hrun rfl a w hf]
      exact ⟨rfl, (hc rfl w hs).mono fun en w' h => h⟩
  | false => exact XO.val (v := v) hg hd hn (fun _ _ _ h => by cases h) next

/-- Cells in a row from place i on. -/
def CellsAt (w : World) (p : Addr) : Nat → List Value → Prop
  | _, [] => True
  | i, v :: r => w.cell? (p.add i) = some v ∧ CellsAt w p (i + 1) r
theorem CellsAt.of_get {w : World} {p : Addr} : ∀ {vs : List Value} {i : Nat}, (∀ j u, vs[j]? = some u → w.cell? (p.add (i + j)) = some u) → CellsAt w p i vs
  | [], _, _ => trivial
  | v :: r, i, h => ⟨by simpa using h 0 v rfl, CellsAt.of_get fun j u hu => by have := h (j + 1) u (by simpa using hu); rwa [show i + 1 + j = i + (j + 1) from by omega]⟩
theorem run_loadCells_at {P : Program} {w : World} {p : Addr} : ∀ (vs : List Value) (i : Nat) (acc : Array Value), CellsAt w p i vs → (loadCellsFrom p i vs.length acc).run P w = .ok (acc ++ vs.toArray) w
  | [], _, acc, _ => by simp [loadCellsFrom]
  | v :: r, i, acc, ⟨h1, h2⟩ => by
    have := run_loadCells_at (P := P) r (i + 1) (acc.push v) h2
    simp only [List.length_cons, loadCellsFrom]
    rw [Sem.run_bind, run_load, h1]
    simp only [Result.andThen_ok]
    rw [this]
    simp

theorem toList_beq (s s' : ByteArray) : (s.toList == s'.toList) = decide (s = s') := by
  rw [Bool.eq_iff_iff]
  simp only [beq_iff_eq, decide_eq_true_eq, ByteArray.toList_eq]
  constructor
  · intro h
    cases s; cases s'
    simp only [ByteArray.mk.injEq]
    exact Array.toList_inj.1 h
  · rintro rfl; rfl
namespace V
variable {cx : Cx} {e : Env} {g : Bool} {σ : World → Prop} {o : Oper} {x y z : Operand} {c c' c'' : Bool} {u v : Value}
theorem loadAgg {t : TypeId} {p : Addr} {vs : List Value} {n : Nat} (ho : o.op = .load t x) (hT : TAgg cx.P t n) (hx : opd e x = some (c, .pointer (some p))) (hc : g = true → c = true) (hn : vs.length = n) (hcell : g = true → ∀ w, σ w → CellsAt w p 0 vs) : OpV cx e g σ o (.agg vs.toArray) := by
  intro a w hf hg hs
  have := run_loadCells_at (P := cx.P) vs 0 #[] (hcell hg w hs)
  rw [hn] at this
  simp [execOp, ho, opd_eval hf hx (hc hg), Instr.loadAt, Instr.sureAddr, loadVar, hT.1 w, hT.2 w, loadCells, this]
theorem fieldB {s : TypeId} {f off : Nat} {b i : Nat} (ho : o.op = .fieldAddr s x f) (hT : TField cx.P s f off) (hx : opd e x = some (c, .pointer (some ⟨b, i, none⟩))) (hc : g = true → c = true) : OpV cx e g σ o (.pointer (some ⟨b, i + off, none⟩)) := by
  intro a w hf hg _
  have := hT ⟨b, i, none⟩ w
  simp [execOp, ho, opd_eval hf hx (hc hg), this, add_blk]
theorem fieldA {s : TypeId} {f off : Nat} {b : Addr} {i : Nat} (ho : o.op = .fieldAddr s x f) (hT : TField cx.P s f off) (hx : opd e x = some (c, .pointer (some (b.add i)))) (hc : g = true → c = true) : OpV cx e g σ o (.pointer (some (b.add (i + off)))) := by
  intro a w hf hg _
  have := hT (b.add i) w
  simp [execOp, ho, opd_eval hf hx (hc hg), this, addr_add]
theorem lenSlice {A : Option Addr} {n cap : Nat} {t el : TypeId} {sz : Nat} (ho : o.op = .call { callee := .builtin .len, args := #[x], argTypes := #[t] }) (hT : TSlice cx.P t el sz) (hx : opd e x = some (c, .slice A n cap)) (hc : g = true → c = true) : OpV cx e g σ o (.int .i64 n) := by
  intro a w hf hg _
  have h1 : (Builtin.len_ #[t] o.type #[.slice A n cap]).run cx.P w = .ok (.int .i64 n) w := by simp [Builtin.len_, hT.1 w, goInt]
  simp [execOp, ho, opd_eval hf hx (hc hg), resolve, invoke, builtin, h1]
theorem lenString {s : ByteArray} {t : TypeId} (ho : o.op = .call { callee := .builtin .len, args := #[x], argTypes := #[t] }) (hT : TString cx.P t) (hx : opd e x = some (c, .string s)) (hc : g = true → c = true) : OpV cx e g σ o (.int .i64 s.size) := by
  intro a w hf hg _
  have h1 : (Builtin.len_ #[t] o.type #[.string s]).run cx.P w = .ok (.int .i64 s.size) w := by simp [Builtin.len_, hT w, goInt]
  simp [execOp, ho, opd_eval hf hx (hc hg), resolve, invoke, builtin, h1]
theorem index {s : ByteArray} {t : TypeId} {K : IntKind} {i : Int} (ho : o.op = .index t x y) (hT : TString cx.P t) (hx : opd e x = some (c, .string s)) (hy : opd e y = some (c', .int K i)) (hc : g = true → c = true) (hc' : g = true → c' = true) (h0 : g = true → 0 ≤ i) (h1 : g = true → i.toNat < s.size) {n : Nat} (hv : g = true → ((s[i.toNat]?).getD 0).toNat = n) : OpV cx e g σ o (.int .u8 n) := by
  intro a w hf hg _
  have h1' := h1 hg
  have hvv := hv hg
  subst hvv
  simp [execOp, ho, opd_eval hf hx (hc hg), opd_eval hf hy (hc' hg), Instr.index, asIntOf, hT w, h0 hg, h1']
theorem eqStr {s s' : ByteArray} {t t' : TypeId} (ho : o.op = .binOp .eql t x y t') (hx : opd e x = some (c, .string s)) (hy : opd e y = some (c', .string s')) (hc : g = true → c = true) (hc' : g = true → c' = true) : OpV cx e g σ o (.bool (decide (s = s'))) := by
  intro a w hf hg _
  simp [execOp, ho, opd_eval hf hx (hc hg), opd_eval hf hy (hc' hg), eqGuard, binOp, Op.stringOp, toList_beq]
theorem neStr {s s' : ByteArray} {t t' : TypeId} (ho : o.op = .binOp .neq t x y t') (hx : opd e x = some (c, .string s)) (hy : opd e y = some (c', .string s')) (hc : g = true → c = true) (hc' : g = true → c' = true) : OpV cx e g σ o (.bool (!decide (s = s'))) := by
  intro a w hf hg _
  simp [execOp, ho, opd_eval hf hx (hc hg), opd_eval hf hy (hc' hg), eqGuard, binOp, Op.stringOp, toList_beq]
theorem addStr {s s' : ByteArray} {t t' : TypeId} (ho : o.op = .binOp .add t x y t') (hx : opd e x = some (c, .string s)) (hy : opd e y = some (c', .string s')) (hc : g = true → c = true) (hc' : g = true → c' = true) (hl : g = true → s.size + s'.size ≤ 9223372036854775807) : OpV cx e g σ o (.string (s ++ s')) := by
  intro a w hf hg _
  have h1 := hl hg
  simp [execOp, ho, opd_eval hf hx (hc hg), opd_eval hf hy (hc' hg), eqGuard, binOp, Op.stringOp]
  omega
/-- err != nil, err == nil -/
theorem neNil {t t' t'' : TypeId} (ho : o.op = .binOp .neq t x y t') (hx : opd e x = some (c, .iface t'' u)) (hy : opd e y = some (c', .nilIface)) (hc : g = true → c = true) (hc' : g = true → c' = true) (hrun : ∀ w, (binOp .neq t (.iface t'' u) .nilIface).run cx.P w = .ok (.bool true) w) : OpV cx e g σ o (.bool true) := by
  intro a w hf hg _
  simp [execOp, ho, opd_eval hf hx (hc hg), opd_eval hf hy (hc' hg), eqGuard, hrun w]
theorem nilNe {t t' : TypeId} (ho : o.op = .binOp .neq t x y t') (hx : opd e x = some (c, .nilIface)) (hy : opd e y = some (c', .nilIface)) (hk : (match y with | .const _ => true | _ => false) = true) (hc : g = true → c = true) (hc' : g = true → c' = true) (hrun : ∀ w, (binOp .neq t .nilIface .nilIface).run cx.P w = .ok (.bool false) w) : OpV cx e g σ o (.bool false) := by
  intro a w hf hg _
  cases y <;> simp at hk
  simp [execOp, ho, opd_eval hf hx (hc hg), opd_eval hf hy (hc' hg), eqGuard, hrun w]
theorem eqNil {t t' t'' : TypeId} (ho : o.op = .binOp .eql t x y t') (hx : opd e x = some (c, .iface t'' u)) (hy : opd e y = some (c', .nilIface)) (hc : g = true → c = true) (hc' : g = true → c' = true) (hrun : ∀ w, (binOp .eql t (.iface t'' u) .nilIface).run cx.P w = .ok (.bool false) w) : OpV cx e g σ o (.bool false) := by
  intro a w hf hg _
  simp [execOp, ho, opd_eval hf hx (hc hg), opd_eval hf hy (hc' hg), eqGuard, hrun w]
theorem nilEq {t t' : TypeId} (ho : o.op = .binOp .eql t x y t') (hx : opd e x = some (c, .nilIface)) (hy : opd e y = some (c', .nilIface)) (hk : (match y with | .const _ => true | _ => false) = true) (hc : g = true → c = true) (hc' : g = true → c' = true) (hrun : ∀ w, (binOp .eql t .nilIface .nilIface).run cx.P w = .ok (.bool true) w) : OpV cx e g σ o (.bool true) := by
  intro a w hf hg _
  cases y <;> simp at hk
  simp [execOp, ho, opd_eval hf hx (hc hg), opd_eval hf hy (hc' hg), eqGuard, hrun w]
end V
end Go.X
