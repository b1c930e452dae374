/- The rules of the walk's frame, 5: rows made, appended to, cut, written; values built. Over any program. -/
import Derived.Test.YtgegppbjpaeljaaDoorE
set_option linter.unusedVariables false
set_option linter.unusedSimpArgs false
namespace Go.X
open Go.RowKit

theorem XO.fact {cx : Cx} {k : List Item} {e : Env} {σ : World → Prop} {R : Ending → World → Prop} {ops rest : List Oper} {φ : Prop} (hs : ∀ w, σ w → φ) (h : φ → XO cx .seq ops rest k e σ R) : XO cx .seq ops rest k e σ R := fun a w hf hw => h (hs w hw) a w hf hw

def popds (e : Env) : List (Nat × Operand) → Option (List (Nat × Value))
  | [] => some []
  | (i, x) :: r => match opd e x with
    | some (true, v) => match popds e r with
      | some vs => some ((i, v) :: vs)
      | none => none
    | _ => none
theorem popds_eval {cx : Cx} {e : Env} {a : Act} (h : Fits cx e a) : ∀ {ps : List (Nat × Operand)} {vs : List (Nat × Value)}, popds e ps = some vs → ps.map (fun p => (p.1, a.eval p.2)) = vs
  | [], vs, hp => by simp only [popds, Option.some.injEq] at hp; simp [← hp]
  | (i, x) :: r, vs, hp => by
    simp only [popds] at hp
    cases hx : opd e x with
    | none => rw [hx] at hp; cases hp
    | some cv =>
      obtain ⟨c, v⟩ := cv
      rw [hx] at hp
      cases c with
      | false => cases hp
      | true =>
        cases hr : popds e r with
        | none => rw [hr] at hp; cases hp
        | some vs' =>
          rw [hr] at hp
          simp only [Option.some.injEq] at hp
          subst hp
          simp [opd_eval h hx rfl, popds_eval h hr]

/-- What a call gives that owned nothing. -/
theorem St.out {w w' : World} {N : List HP} (h : St w noS N w') : Below w.heap.size w w' ∧ ∃ G : Nat → Prop, (∀ k, G k → w.heap.size ≤ k ∧ k < w'.heap.size) ∧ Sats N w' G := by
  obtain ⟨F, hF, hs⟩ := h.sat
  exact ⟨h.below, F, fun k hk => ⟨(hF k hk).2.resolve_left (fun h => h), (hF k hk).1⟩, hs⟩
/-- What a call gives of which only what lay before is known. -/
theorem St.after {w0 w w' : World} {L : List HP} (h : St w0 noS L w) (hb : Below w0.heap.size w w') : St w0 noS [] w' :=
  ⟨⟨hb.os.trans h.mod.os, hb.tape.trans h.mod.tape, hb.output.trans h.mod.output, Nat.le_trans h.mod.size hb.size, fun k hk hn => (hb.block k hk).trans (h.mod.block k hk hn)⟩, fun _ => False, fun _ h => h.elim, trivial⟩

theorem Rem.sats1 {A : HP} {L L' : List HP} {w0 w : World} {S : Nat → Prop} (hr : Rem A L L') (h : St w0 S L w) : St w0 S (A :: L') w := h.rems (Rems.cons hr Rems.nil)

/-- An owned row is written at one cell. -/
theorem store_own_st {P : Program} {w0 w : World} {S : Nat → Prop} {L : List HP} {el sz n i c : Nat} {ad : Addr} {cs : List Value} {u : Value} (h : St w0 S (HP.own el sz (.slice (some ad) n c) n cs :: L) w) (hi : i < cs.length) (hu : u.oneCell' = true) :
    ∃ w', (store (ad.add i) u).run P w = .ok () w' ∧ St w0 S (HP.own el sz (.slice (some ad) n c) n (cs.set i u) :: L) w' := by
  obtain ⟨F, hF, F1, F2, h1, h2, h3, ⟨hown, hfp⟩, h5⟩ := h.sat
  rcases hown.2 with ⟨hv, _⟩ | ⟨g, cap, cur, hv, _, hg, hnc', hcm, hcs, htake⟩
  · cases hv
  · simp only [Value.slice.injEq, Option.some.injEq] at hv
    obtain ⟨rfl, _, rfl⟩ := hv
    have hst : St w0 S (HP.blk g (.cells cur el (0, 0)) :: L) w := ⟨h.mod, F, hF, F1, F2, h1, h2, h3, ⟨fun k hk => by simpa [Value.ownBlock] using ((hfp k).1 hk).symm, (hfp g).2 rfl, hg⟩, h5⟩
    have hlen : cs.length ≤ cur.size := by
      rw [← htake, List.length_take]
      simp
      omega
    obtain ⟨w', hs1, hs2⟩ := run_storeCells_st (P := P) (off := i) [u] 0 cur w hst (by simp; omega) (by simp [hu])
    refine ⟨w', ?_, ?_⟩
    · rw [add_blk] 
      simp only [storeCells] at hs1
      have hz : (⟨g, i, none⟩ : Addr).add 0 = ⟨g, i, none⟩ := by rw [add_blk]; rfl
      rw [hz] at hs1
      simp only [Nat.zero_add]
      rw [Sem.run_bind] at hs1
      cases hst : (store (⟨g, i, none⟩ : Addr) u).run P w with
      | ok x w1 => rw [hst] at hs1; simpa using hs1
      | halt hh w1 => rw [hst] at hs1; simp at hs1
    · obtain ⟨G, hG, G1, G2, g1, g2, g3, g4, g5⟩ := hs2.sat
      refine ⟨hs2.mod, G, hG, G1, G2, g1, g2, g3, ⟨⟨by simpa using hown.1, .inr ⟨g, c, _, rfl, Nat.zero_le _, g4.2.2, hnc', hcm, by rw [size_overL]; exact hcs, ?_⟩⟩, fun k => ?_⟩, g5⟩
      · simp only [overL, Nat.add_zero, Array.toList_setIfInBounds]
        rw [List.take_set, htake]
      · simp only [Value.ownBlock, Option.some.injEq]
        exact ⟨fun hk => (g4.1 k hk).symm, fun e => e ▸ g4.2.1⟩

def TArr (P : Program) (t n el size : Nat) : Prop := (∀ w, (underlying t).run P w = .ok (.array n el) w) ∧ TSize P el size
namespace V
variable {cx : Cx} {e : Env} {g : Bool} {σ : World → Prop} {o : Oper} {x y z : Operand} {c c' c'' : Bool} {u v : Value}
theorem build {t : TypeId} {ps : List (Nat × Operand)} {vs : List (Nat × Value)} (ho : o.op = .build t ps.toArray) (hp : popds e ps = some vs) (hrun : ∀ w, (Instr.build t vs.toArray).run cx.P w = .ok v w) : OpV cx e g σ o v := by
  intro a w hf hg _
  have h1 := popds_eval hf hp
  simp [execOp, ho, h1, hrun w]
theorem sliceStr {s : ByteArray} {t : TypeId} {lo hi : Int} {K K' : IntKind} (ho : o.op = .slice t x (some y) (some z) none) (hT : TString cx.P t) (hx : opd e x = some (c, .string s)) (hy : opd e y = some (c', .int K lo)) (hz : opd e z = some (c'', .int K' hi)) (hc : g = true → c = true) (hc' : g = true → c' = true) (hc'' : g = true → c'' = true)
    (h0 : g = true → 0 ≤ lo) (h1 : g = true → lo ≤ hi) (h2 : g = true → hi ≤ s.size) : OpV cx e g σ o (.string (s.extract lo.toNat hi.toNat)) := by
  intro a w hf hg _
  have a0 := h0 hg
  have a1 := h1 hg
  have a2 := h2 hg
  have b1 : 0 ≤ hi ∧ hi ≤ (s.size : Int) := ⟨by omega, a2⟩
  have b2 : 0 ≤ lo ∧ lo ≤ ((hi.toNat : Nat) : Int) := ⟨a0, by omega⟩
  simp [execOp, ho, opd_eval hf hx (hc hg), opd_eval hf hy (hc' hg), opd_eval hf hz (hc'' hg), Instr.sliceAt, Instr.slice, Instr.sliceBounds, Instr.sliceBound, asIntOf, hT w]
  rw [if_pos b1]
  simp
  intro hh
  have := hh a0
  omega
theorem sliceStrFrom {s : ByteArray} {t : TypeId} {lo : Int} {K : IntKind} (ho : o.op = .slice t x (some y) none none) (hT : TString cx.P t) (hx : opd e x = some (c, .string s)) (hy : opd e y = some (c', .int K lo)) (hc : g = true → c = true) (hc' : g = true → c' = true)
    (h0 : g = true → 0 ≤ lo) (h1 : g = true → lo ≤ s.size) : OpV cx e g σ o (.string (s.extract lo.toNat s.size)) := by
  intro a w hf hg _
  have a0 := h0 hg
  have a1 := h1 hg
  have b2 : 0 ≤ lo ∧ lo ≤ (s.size : Int) := ⟨a0, a1⟩
  simp [execOp, ho, opd_eval hf hx (hc hg), opd_eval hf hy (hc' hg), Instr.sliceAt, Instr.slice, Instr.sliceBounds, Instr.sliceBound, asIntOf, hT w]
  intro hh
  have := hh a0
  omega
theorem sliceStrTo {s : ByteArray} {t : TypeId} {hi : Int} {K : IntKind} (ho : o.op = .slice t x none (some y) none) (hT : TString cx.P t) (hx : opd e x = some (c, .string s)) (hy : opd e y = some (c', .int K hi)) (hc : g = true → c = true) (hc' : g = true → c' = true)
    (h0 : g = true → 0 ≤ hi) (h1 : g = true → hi ≤ s.size) : OpV cx e g σ o (.string (s.extract 0 hi.toNat)) := by
  intro a w hf hg _
  have a0 := h0 hg
  have a1 := h1 hg
  have b2 : 0 ≤ hi ∧ hi ≤ (s.size : Int) := ⟨a0, a1⟩
  simp [execOp, ho, opd_eval hf hx (hc hg), opd_eval hf hy (hc' hg), Instr.sliceAt, Instr.slice, Instr.sliceBounds, Instr.sliceBound, asIntOf, hT w]
  intro hh
  have := hh a0
  omega
theorem indexArr {t el len size : Nat} {A : Addr} {i : Int} {K : IntKind} (ho : o.op = .indexAddr t x y) (hT : TArr cx.P t len el size) (hx : opd e x = some (c, .pointer (some A))) (hy : opd e y = some (c', .int K i)) (hc : g = true → c = true) (hc' : g = true → c' = true)
    (h0 : g = true → 0 ≤ i) (h1 : g = true → i < len) : OpV cx e g σ o (.pointer (some (A.add (i.toNat * size)))) := by
  intro a w hf hg _
  simp [execOp, ho, opd_eval hf hx (hc hg), opd_eval hf hy (hc' hg), Instr.indexAt, asIntOf, hT.1 w, hT.2 w, h0 hg, h1 hg, Instr.sureAddr]
theorem bin {op : BinOp} {t t' : TypeId} {u1 u2 : Value} (ho : o.op = .binOp op t x y t') (hx : opd e x = some (c, u1)) (hy : opd e y = some (c', u2)) (hc : g = true → c = true) (hc' : g = true → c' = true) (hgd : ∀ w, (eqGuard op t x y u1 u2).run cx.P w = .ok () w) (hrun : g = true → ∀ w, σ w → (binOp op t u1 u2).run cx.P w = .ok v w) : OpV cx e g σ o v := by
  intro a w hf hg hs
  simp [execOp, ho, opd_eval hf hx (hc hg), opd_eval hf hy (hc' hg), hgd w, hrun hg w hs]
theorem conv {t t' : TypeId} {u1 : Value} (ho : o.op = .convert t t' x) (hx : opd e x = some (c, u1)) (hc : g = true → c = true) (hrun : g = true → ∀ w, σ w → (convert t t' u1).run cx.P w = .ok v w) : OpV cx e g σ o v := by
  intro a w hf hg hs
  simp [execOp, ho, opd_eval hf hx (hc hg), hrun hg w hs]
theorem callX {fo : Operand} {fid : FuncId} {xs : List Operand} {vs : List Value} {ts : Array TypeId} (ho : o.op = .call { callee := .value fo, args := xs.toArray, argTypes := ts }) (hf : opd e fo = some (c, .func (.func fid) #[] #[])) (hx : opds e xs = some (c', vs)) (hc : g = true → c = true) (hc' : g = true → c' = true) (hrun : g = true → ∀ w, σ w → (callFunc fid vs.toArray).run cx.P w = .ok (.value v) w) : OpV cx e g σ o v := by
  intro a w hfit hg hs
  have h1 := opds_eval hfit hx (hc' hg)
  have h2 := hrun hg w hs
  simp [execOp, ho, resolve, opd_eval hfit hf (hc hg), Deferred.ofValue, invoke, h1, h2]
end V

namespace O
section
variable {cx : Cx} {md : Md} {k : List Item} {e : Env} {R : Ending → World → Prop} {ops rest : List Oper} {σ : World → Prop} {w0 : World} {S : Nat → Prop} {L L' : List HP} {d : Nat} {g c c' c'' : Bool} {x y z : Operand} {ty : TypeId} {ps : String} {af : Array Edge} {gu : Option (Nat × Bool)} {u v : Value}
theorem build {t : TypeId} {pl : List (Nat × Operand)} {vs : List (Nat × Value)} (v : Value) (next : XO cx md ops rest k (⟨d, g, v⟩ :: e) σ R) (hg : gcond e ops gu = some g := by rfl) (hp : popds e pl = some vs := by rfl) (hrun : ∀ w, (Instr.build t vs.toArray).run cx.P w = .ok v w := by intro w; kernel_rfl) (hn : Nat.ble (d + 1) cx.n = true := by rfl) :
    XO cx md ops (⟨some d, .build t pl.toArray, ty, ps, af, gu⟩ :: rest) k e σ R := XO.val hg rfl hn (V.build rfl hp hrun) next
theorem buildSlice {t len : Nat} {pl : List (Nat × Operand)} {vs : List (Nat × Value)} (el : Nat) (cs : Array Value) (next : ∀ b, w0.heap.size ≤ b → XO cx .seq ops rest k (⟨d, true, .slice (some ⟨b, 0, none⟩) len len⟩ :: e) (St w0 S (HP.blk b (.cells cs el (0, 0)) :: L)) R) (hg : gcond e ops gu = some true := by rfl) (hp : popds e pl = some vs := by rfl)
    (hrun : ∀ w, (Instr.buildSlice t len vs.toArray).run cx.P w = .ok (.slice (some ⟨w.heap.size, 0, none⟩) len len) (w.alloc (.cells cs el)) := by intro w; kernel_rfl) (hn : Nat.ble (d + 1) cx.n = true := by rfl) :
    XO cx .seq ops (⟨some d, .buildSlice t len pl.toArray, ty, ps, af, gu⟩ :: rest) k e (St w0 S L) R := by
  refine XO.eff (α := Nat) (φ := fun b => w0.heap.size ≤ b) (vo := fun b => .slice (some ⟨b, 0, none⟩) len len) (σ' := fun b => St w0 S (HP.blk b (.cells cs el (0, 0)) :: L)) hg rfl rfl hn ?_ next
  intro a w hf hs
  obtain ⟨h1, h2⟩ := hs.alloc (.cells cs el (0, 0))
  refine ⟨w.heap.size, _, h1, ?_, h2⟩
  have h3 := popds_eval hf hp
  simp [execOp, h3, hrun w]
theorem sliceStr {s : ByteArray} {t : TypeId} {lo hi : Int} {K K' : IntKind} (hT : TString cx.P t) (next : XO cx md ops rest k (⟨d, g, .string (s.extract lo.toNat hi.toNat)⟩ :: e) σ R) (hg : gcond e ops gu = some g := by rfl) (hx : opd e x = some (c, .string s) := by rfl) (hy : opd e y = some (c', .int K lo) := by rfl) (hz : opd e z = some (c'', .int K' hi) := by rfl) (hc : GC g c := by first | exact fun _ => rfl | exact id) (hc' : GC g c' := by first | exact fun _ => rfl | exact id) (hc'' : GC g c'' := by first | exact fun _ => rfl | exact id)
    (h0 : g = true → 0 ≤ lo := by intros; omega) (h1 : g = true → lo ≤ hi := by intros; omega) (h2 : g = true → hi ≤ s.size := by intros; omega) (hn : Nat.ble (d + 1) cx.n = true := by rfl) :
    XO cx md ops (⟨some d, .slice t x (some y) (some z) none, ty, ps, af, gu⟩ :: rest) k e σ R := XO.val hg rfl hn (V.sliceStr rfl hT hx hy hz hc hc' hc'' h0 h1 h2) next
theorem sliceStrFrom {s : ByteArray} {t : TypeId} {lo : Int} {K : IntKind} (hT : TString cx.P t) (next : XO cx md ops rest k (⟨d, g, .string (s.extract lo.toNat s.size)⟩ :: e) σ R) (hg : gcond e ops gu = some g := by rfl) (hx : opd e x = some (c, .string s) := by rfl) (hy : opd e y = some (c', .int K lo) := by rfl) (hc : GC g c := by first | exact fun _ => rfl | exact id) (hc' : GC g c' := by first | exact fun _ => rfl | exact id)
    (h0 : g = true → 0 ≤ lo := by intros; omega) (h1 : g = true → lo ≤ s.size := by intros; omega) (hn : Nat.ble (d + 1) cx.n = true := by rfl) :
    XO cx md ops (⟨some d, .slice t x (some y) none none, ty, ps, af, gu⟩ :: rest) k e σ R := XO.val hg rfl hn (V.sliceStrFrom rfl hT hx hy hc hc' h0 h1) next
theorem sliceStrTo {s : ByteArray} {t : TypeId} {hi : Int} {K : IntKind} (hT : TString cx.P t) (next : XO cx md ops rest k (⟨d, g, .string (s.extract 0 hi.toNat)⟩ :: e) σ R) (hg : gcond e ops gu = some g := by rfl) (hx : opd e x = some (c, .string s) := by rfl) (hy : opd e y = some (c', .int K hi) := by rfl) (hc : GC g c := by first | exact fun _ => rfl | exact id) (hc' : GC g c' := by first | exact fun _ => rfl | exact id)
    (h0 : g = true → 0 ≤ hi := by intros; omega) (h1 : g = true → hi ≤ s.size := by intros; omega) (hn : Nat.ble (d + 1) cx.n = true := by rfl) :
    XO cx md ops (⟨some d, .slice t x none (some y) none, ty, ps, af, gu⟩ :: rest) k e σ R := XO.val hg rfl hn (V.sliceStrTo rfl hT hx hy hc hc' h0 h1) next
/-- an index into a block that starts at its head -/
theorem indexB {t el : TypeId} {size : Nat} {b len cap : Nat} {i : Int} {K : IntKind} (hT : TSlice cx.P t el size) (next : XO cx md ops rest k (⟨d, g, .pointer (some ⟨b, i.toNat * size, none⟩)⟩ :: e) σ R) (hg : gcond e ops gu = some g := by rfl) (hx : opd e x = some (c, .slice (some ⟨b, 0, none⟩) len cap) := by rfl) (hy : opd e y = some (c', .int K i) := by rfl) (hc : GC g c := by first | exact fun _ => rfl | exact id) (hc' : GC g c' := by first | exact fun _ => rfl | exact id) (h0 : g = true → 0 ≤ i := by intros; omega) (h1 : g = true → i < len := by intros; omega) (hn : Nat.ble (d + 1) cx.n = true := by rfl) :
    XO cx md ops (⟨some d, .indexAddr t x y, ty, ps, af, gu⟩ :: rest) k e σ R := XO.val hg rfl hn (by have := V.indexAddr (σ := σ) (o := ⟨some d, .indexAddr t x y, ty, ps, af, gu⟩) rfl hT hx hy hc hc' h0 h1; rwa [add_blk, Nat.zero_add] at this) next
theorem indexArr {t el len size : Nat} {A : Addr} {i : Int} {K : IntKind} (hT : TArr cx.P t len el size) (next : XO cx md ops rest k (⟨d, g, .pointer (some (A.add (i.toNat * size)))⟩ :: e) σ R) (hg : gcond e ops gu = some g := by rfl) (hx : opd e x = some (c, .pointer (some A)) := by rfl) (hy : opd e y = some (c', .int K i) := by rfl) (hc : GC g c := by first | exact fun _ => rfl | exact id) (hc' : GC g c' := by first | exact fun _ => rfl | exact id) (h0 : g = true → 0 ≤ i := by intros; omega) (h1 : g = true → i < len := by intros; omega) (hn : Nat.ble (d + 1) cx.n = true := by rfl) :
    XO cx md ops (⟨some d, .indexAddr t x y, ty, ps, af, gu⟩ :: rest) k e σ R := XO.val hg rfl hn (V.indexArr rfl hT hx hy hc hc' h0 h1) next
theorem bin {op : BinOp} {t t' : TypeId} {u1 u2 : Value} (v : Value) (next : XO cx md ops rest k (⟨d, g, v⟩ :: e) σ R) (hg : gcond e ops gu = some g := by rfl) (hx : opd e x = some (c, u1) := by rfl) (hy : opd e y = some (c', u2) := by rfl) (hc : GC g c := by first | exact fun _ => rfl | exact id) (hc' : GC g c' := by first | exact fun _ => rfl | exact id) (hgd : ∀ w, (eqGuard op t x y u1 u2).run cx.P w = .ok () w := by intro w; rfl) (hrun : g = true → ∀ w, σ w → (Go.binOp op t u1 u2).run cx.P w = .ok v w := by intro _ w _; kernel_rfl) (hn : Nat.ble (d + 1) cx.n = true := by rfl) :
    XO cx md ops (⟨some d, .binOp op t x y t', ty, ps, af, gu⟩ :: rest) k e σ R := XO.val hg rfl hn (V.bin rfl hx hy hc hc' hgd hrun) next
theorem conv {t t' : TypeId} {u1 : Value} (v : Value) (next : XO cx md ops rest k (⟨d, g, v⟩ :: e) σ R) (hg : gcond e ops gu = some g := by rfl) (hx : opd e x = some (c, u1) := by rfl) (hc : GC g c := by first | exact fun _ => rfl | exact id) (hrun : g = true → ∀ w, σ w → (Go.convert t t' u1).run cx.P w = .ok v w := by intro _ w _; kernel_rfl) (hn : Nat.ble (d + 1) cx.n = true := by rfl) :
    XO cx md ops (⟨some d, .convert t t' x, ty, ps, af, gu⟩ :: rest) k e σ R := XO.val hg rfl hn (V.conv rfl hx hc hrun) next
theorem callX {fo : Operand} {fid : FuncId} {xs : List Operand} {vs : List Value} {ts : Array TypeId} (v : Value) (next : XO cx md ops rest k (⟨d, g, v⟩ :: e) σ R) (hg : gcond e ops gu = some g := by rfl) (hf : opd e fo = some (c, .func (.func fid) #[] #[]) := by rfl) (hx : opds e xs = some (c', vs) := by rfl) (hc : GC g c := by first | exact fun _ => rfl | exact id) (hc' : GC g c' := by first | exact fun _ => rfl | exact id) (hrun : g = true → ∀ w, σ w → (callFunc fid vs.toArray).run cx.P w = .ok (.value v) w) (hn : Nat.ble (d + 1) cx.n = true := by rfl) :
    XO cx md ops (⟨some d, .call { callee := .value fo, args := xs.toArray, argTypes := ts }, ty, ps, af, gu⟩ :: rest) k e σ R := XO.val hg rfl hn (V.callX rfl hf hx hc hc' hrun) next
/-- a call that hands back new memory, and turns nothing that was -/
theorem callN {α : Type} {φ : α → Prop} {vo : α → Value} {N : α → List HP} {fo : Operand} {fid : FuncId} {caps : Array Value} {xs : List Operand} {vs : List Value} {ts : Array TypeId} (hT : TEnters cx.P fid) (hg : gcond e ops gu = some true := by rfl) (hf : opd e fo = some (true, .func (.func fid) #[] caps) := by rfl) (hx : opds e xs = some (true, vs) := by rfl) (hn : Nat.ble (d + 1) cx.n = true := by rfl)
    (hc : ∀ w, St w0 S L w → Calls cx.P fid (vs ++ caps.toList).toArray w (fun en w' => ∃ x, φ x ∧ en = .returned (vo x) ∧ St w noS (N x) w')) (next : ∀ x, φ x → XO cx .seq ops rest k (⟨d, true, vo x⟩ :: e) (St w0 S (N x ++ L)) R) :
    XO cx .seq ops (⟨some d, .call { callee := .value fo, args := xs.toArray, argTypes := ts }, ty, ps, af, gu⟩ :: rest) k e (St w0 S L) R :=
  XO.call hg rfl rfl hn (fun a w hfit => run_call rfl hT hf hx rfl rfl hfit) (fun w hs => (hc w hs).mono fun en w' ⟨x, h1, h2, h3⟩ => by
    obtain ⟨h4, G, h5, h6⟩ := h3.out
    exact ⟨x, h1, h2, hs.more h4 h5 h6⟩) next
/-- a call behind which only what lay before is known -/
theorem callZ {α : Type} {φ : α → Prop} {vo : α → Value} {fo : Operand} {fid : FuncId} {caps : Array Value} {xs : List Operand} {vs : List Value} {ts : Array TypeId} (hT : TEnters cx.P fid) (hg : gcond e ops gu = some true := by rfl) (hf : opd e fo = some (true, .func (.func fid) #[] caps) := by rfl) (hx : opds e xs = some (true, vs) := by rfl) (hn : Nat.ble (d + 1) cx.n = true := by rfl)
    (hc : ∀ w, St w0 noS L w → Calls cx.P fid (vs ++ caps.toList).toArray w (fun en w' => ∃ x, φ x ∧ en = .returned (vo x) ∧ Below w0.heap.size w w')) (next : ∀ x, φ x → XO cx .seq ops rest k (⟨d, true, vo x⟩ :: e) (St w0 noS []) R) :
    XO cx .seq ops (⟨some d, .call { callee := .value fo, args := xs.toArray, argTypes := ts }, ty, ps, af, gu⟩ :: rest) k e (St w0 noS L) R :=
  XO.call hg rfl rfl hn (fun a w hfit => run_call rfl hT hf hx rfl rfl hfit) (fun w hs => (hc w hs).mono fun en w' ⟨x, h1, h2, h3⟩ => ⟨x, h1, h2, hs.after h3⟩) next
/-- 'append' onto an owned row, out of whatever can be read -/
theorem append {t tx el sz bytes n cap : Nat} {zv xv : Value} {A : Option Addr} {cs : List Value} (news : List Value) (m : Nat) (hT : TSlice cx.P t el sz) (hE : TElem cx.P el zv sz bytes) (hg : gcond e ops gu = some true := by rfl) (hx : opd e x = some (true, .slice A n cap) := by rfl) (hy : opd e y = some (true, xv) := by rfl) (hn : Nat.ble (d + 1) cx.n = true := by rfl)
    (hr : Rem (HP.own el sz (.slice A n cap) n cs) L L' := by repeat (first | with_reducible exact Rem.here | with_reducible apply Rem.there))
    (hsrc : ∀ w, St w0 S L w → Src cx.P sz tx xv m news w) (h63 : n + m ≤ maxLen) (hbytes : (n + m) * bytes ≤ 140737488355328)
    (next : ∀ A' c', XO cx .seq ops rest k (⟨d, true, .slice A' (n + m) c'⟩ :: e) (St w0 S (HP.own el sz (.slice A' (n + m) c') (n + m) (cs ++ news) :: L')) R) :
    XO cx .seq ops (⟨some d, .call { callee := .builtin .append, args := #[x, y], argTypes := #[t, tx] }, ty, ps, af, gu⟩ :: rest) k e (St w0 S L) R := by
  refine XO.eff (α := Option Addr × Nat) (φ := fun _ => True) (vo := fun p => .slice p.1 (n + m) p.2) (σ' := fun p => St w0 S (HP.own el sz (.slice p.1 (n + m) p.2) (n + m) (cs ++ news) :: L')) hg rfl rfl hn ?_ (fun p _ => next p.1 p.2)
  intro a w hf hs
  obtain ⟨v', w', h1, h2⟩ := append_own_st (P := cx.P) (ty := ty) hT.1 hE (hr.sats1 hs) (hsrc w hs) h63 hbytes
  obtain ⟨A', c', rfl, _⟩ := h2.own_form .here
  refine ⟨(A', c'), w', trivial, ?_, h2⟩
  simp [execOp, resolve, opd_eval hf hx rfl, opd_eval hf hy rfl, invoke, builtin, h1]
/-- a store into an owned row -/
theorem storeOwn {t el sz n cap i : Nat} {ad : Addr} {cs : List Value} (cs' : List Value) (hT : TSize cx.P t 1) (hx : opd e x = some (true, .pointer (some (ad.add i))) := by rfl) (hy : opd e y = some (true, v) := by rfl) (hg : gcond e ops gu = some true := by rfl)
    (hr : Rem (HP.own el sz (.slice (some ad) n cap) n cs) L L' := by repeat (first | with_reducible exact Rem.here | with_reducible apply Rem.there)) (hone : v.oneCell' = true := by rfl) (hi : i < cs.length) (hcs : cs.set i v = cs') (next : XO cx .seq ops rest k e (St w0 S (HP.own el sz (.slice (some ad) n cap) n cs' :: L')) R) :
    XO cx .seq ops (⟨none, .store t x y, ty, ps, af, gu⟩ :: rest) k e (St w0 S L) R := by
  refine XO.eff0 (α := Unit) (φ := fun _ => True) (σ' := fun _ => St w0 S (HP.own el sz (.slice (some ad) n cap) n cs' :: L')) hg rfl rfl ?_ (fun _ _ => next)
  intro a w hf hs
  obtain ⟨w', h1, h2⟩ := store_own_st (P := cx.P) (u := v) (hr.sats1 hs) hi hone
  refine ⟨(), w', trivial, ?_, by rw [← hcs]; exact h2⟩
  have hvc : v.cells = #[v] := by
    cases v <;> first | rfl | (simp [Value.oneCell'] at hone)
  simp [execOp, Instr.storeAt, opd_eval hf hx rfl, opd_eval hf hy rfl, Instr.sureAddr, storeVar, hT w, hvc, storeCells]
  rw [show (ad.add i).add 0 = ad.add i from by rw [addr_add]; rfl, h1]
  rfl
end
end O
theorem Src.ofBlk {P : Program} {w0 w : World} {S : Nat → Prop} {L L' : List HP} {tx el' b el sz m c : Nat} {cs : Array Value} {fz : Nat × Nat} (hT : ∀ w, (underlying tx).run P w = .ok (.slice el') w) (h : St w0 S L w) (hr : Rem (HP.blk b (.cells cs el fz)) L L') (hl : cs.size = m * sz) (h1 : cs.toList.all Value.oneCell' = true) : Src P sz tx (.slice (some ⟨b, 0, none⟩) m c) m cs.toList w :=
  Src.ofSlice w (under_of hT) _ _ _ _ (by simpa using hl) (fun j u hu => by rw [add_blk, Nat.zero_add]; exact h.cell hr (by simpa using hu)) (fun u hu => List.all_eq_true.1 h1 u hu)
theorem Src.ofReads {P : Program} {w : World} {tx el' sz m c : Nat} {A : Option Addr} {news : List Value} (hT : ∀ w, (underlying tx).run P w = .ok (.slice el') w) (h : Reads w A news) (hl : news.length = m * sz) (hA : A = none → m = 0) (h1 : news.all Value.oneCell' = true) : Src P sz tx (.slice A m c) m news w := by
  cases A with
  | none =>
    have hm := hA rfl
    subst hm
    have : news = [] := List.eq_nil_of_length_eq_zero (by simpa using hl)
    subst this
    exact Src.ofNil w (under_of hT) c
  | some ad => exact Src.ofSlice w (under_of hT) _ _ _ _ hl (fun j u hu => h.at_ hu) (fun u hu => List.all_eq_true.1 h1 u hu)
end Go.X
