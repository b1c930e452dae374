/- The rules of the walk's frame, 7: more loads, indexes, least and greatest. Over any program. -/
import Derived.Test.YtgegppbjpaeljaaDoorG
set_option linter.unusedVariables false
set_option linter.unusedSimpArgs false
namespace Go.X
open Go.RowKit

/-- What is wanted out of what there is, in whatever order. -/
theorem St.perm {w0 w : World} {S : Nat → Prop} {L1 L L2 : List HP} (h : St w0 S L w) (hr : Rems L1 L L2) : St w0 S L1 w := (h.rems hr).drop
theorem St.own_cell {w0 w : World} {S : Nat → Prop} {L L' : List HP} {el sz n c k : Nat} {ad : Addr} {cs : List Value} {v : Value} (h : St w0 S L w) (hr : Rem (HP.own el sz (.slice (some ad) n c) n cs) L L') (hv : cs[k]? = some v) : w.cell? (ad.add k) = some v := by
  obtain ⟨A, c', he, _, _, _, hrd⟩ := h.own_form hr
  simp only [Value.slice.injEq] at he
  obtain ⟨rfl, _, _⟩ := he
  exact hrd.at_ hv
theorem St.own_reads {w0 w : World} {S : Nat → Prop} {L L' : List HP} {el sz n c : Nat} {A : Option Addr} {cs : List Value} (h : St w0 S L w) (hr : Rem (HP.own el sz (.slice A n c) n cs) L L') : Reads w A cs := by
  obtain ⟨A', c', he, _, _, _, hrd⟩ := h.own_form hr
  simp only [Value.slice.injEq] at he
  obtain ⟨rfl, _, _⟩ := he
  exact hrd

theorem ite_max (m n : Int) : (if m < n then n else m) = max m n := by omega
theorem ite_min (m n : Int) : (if n < m then n else m) = min m n := by omega
namespace V
variable {cx : Cx} {e : Env} {g : Bool} {σ : World → Prop} {o : Oper} {x y z : Operand} {c c' c'' : Bool}
theorem maxI {K : IntKind} {m n : Int} {ts : Array TypeId} (ho : o.op = .call { callee := .builtin .max, args := #[x, y], argTypes := ts }) (hx : opd e x = some (c, .int K m)) (hy : opd e y = some (c', .int K n)) (hc : g = true → c = true) (hc' : g = true → c' = true) : OpV cx e g σ o (.int K (max m n)) := by
  intro a w hf hg _
  have h1 : (Builtin.max_ ts o.type #[.int K m, .int K n]).run cx.P w = .ok (.int K (max m n)) w := by
    simp [Builtin.max_, Builtin.max2]
    exact ite_max m n
  simp [execOp, ho, opd_eval hf hx (hc hg), opd_eval hf hy (hc' hg), resolve, invoke, builtin, h1]
theorem minI {K : IntKind} {m n : Int} {ts : Array TypeId} (ho : o.op = .call { callee := .builtin .min, args := #[x, y], argTypes := ts }) (hx : opd e x = some (c, .int K m)) (hy : opd e y = some (c', .int K n)) (hc : g = true → c = true) (hc' : g = true → c' = true) : OpV cx e g σ o (.int K (min m n)) := by
  intro a w hf hg _
  have h1 : (Builtin.min_ ts o.type #[.int K m, .int K n]).run cx.P w = .ok (.int K (min m n)) w := by
    simp [Builtin.min_, Builtin.min2]
    exact ite_min m n
  simp [execOp, ho, opd_eval hf hx (hc hg), opd_eval hf hy (hc' hg), resolve, invoke, builtin, h1]
end V
namespace O
section
variable {cx : Cx} {md : Md} {k : List Item} {e : Env} {R : Ending → World → Prop} {ops rest : List Oper} {σ : World → Prop} {d : Nat} {g c c' c'' : Bool} {x y z : Operand} {ty : TypeId} {ps : String} {af : Array Edge} {gu : Option (Nat × Bool)} {u v : Value}
variable {w0 : World} {S : Nat → Prop} {L L' Lp : List HP}
theorem indexAddrN {t el : TypeId} {size kk : Nat} {A : Addr} {len cap : Nat} {i : Int} {K : IntKind} (hT : TSlice cx.P t el size) (next : XO cx md ops rest k (⟨d, g, .pointer (some (A.add kk))⟩ :: e) σ R) (hg : gcond e ops gu = some g := by rfl) (hx : opd e x = some (c, .slice (some A) len cap) := by rfl) (hy : opd e y = some (c', .int K i) := by rfl)
    (hk : i.toNat * size = kk := by first | (simp only [Int.toNat_natCast, Nat.mul_one]; exact rfl) | exact rfl) (hc : GC g c := by first | exact fun _ => rfl | exact id | exact fun h => (Bool.and_eq_true_iff.1 h).1 | (intro h; simp only [Bool.and_eq_true] at h ⊢; simp [h])) (hc' : GC g c' := by first | exact fun _ => rfl | exact id | exact fun h => (Bool.and_eq_true_iff.1 h).1 | (intro h; simp only [Bool.and_eq_true] at h ⊢; simp [h])) (h0 : g = true → 0 ≤ i := by intros; omega) (h1 : g = true → i < len := by first | (intros; omega) | (intro hg'; simp only [Bool.and_eq_true, Bool.true_and, beq_iff_eq, decide_eq_true_eq, decide_eq_false_iff_not] at hg'; omega)) (hn : Nat.ble (d + 1) cx.n = true := by rfl) :
    XO cx md ops (⟨some d, .indexAddr t x y, ty, ps, af, gu⟩ :: rest) k e σ R := XO.val hg rfl hn (by rw [← hk]; exact V.indexAddr rfl hT hx hy hc hc' h0 h1) next
theorem indexBN {t el : TypeId} {size kk : Nat} {b len cap : Nat} {i : Int} {K : IntKind} (hT : TSlice cx.P t el size) (next : XO cx md ops rest k (⟨d, g, .pointer (some ⟨b, kk, none⟩)⟩ :: e) σ R) (hg : gcond e ops gu = some g := by rfl) (hx : opd e x = some (c, .slice (some ⟨b, 0, none⟩) len cap) := by rfl) (hy : opd e y = some (c', .int K i) := by rfl)
    (hk : i.toNat * size = kk := by first | (simp only [Int.toNat_natCast, Nat.mul_one]; exact rfl) | exact rfl) (hc : GC g c := by first | exact fun _ => rfl | exact id) (hc' : GC g c' := by first | exact fun _ => rfl | exact id) (h0 : g = true → 0 ≤ i := by intros; omega) (h1 : g = true → i < len := by intros; omega) (hn : Nat.ble (d + 1) cx.n = true := by rfl) :
    XO cx md ops (⟨some d, .indexAddr t x y, ty, ps, af, gu⟩ :: rest) k e σ R := XO.val hg rfl hn (by have := V.indexAddr (σ := σ) (o := ⟨some d, .indexAddr t x y, ty, ps, af, gu⟩) rfl hT hx hy hc hc' h0 h1; rwa [add_blk, Nat.zero_add, hk] at this) next
theorem maxI {K : IntKind} {m n : Int} {ts : Array TypeId} (next : XO cx md ops rest k (⟨d, g, .int K (max m n)⟩ :: e) σ R) (hg : gcond e ops gu = some g := by rfl) (hx : opd e x = some (c, .int K m) := by rfl) (hy : opd e y = some (c', .int K n) := by rfl) (hc : GC g c := by first | exact fun _ => rfl | exact id) (hc' : GC g c' := by first | exact fun _ => rfl | exact id) (hn : Nat.ble (d + 1) cx.n = true := by rfl) :
    XO cx md ops (⟨some d, .call { callee := .builtin .max, args := #[x, y], argTypes := ts }, ty, ps, af, gu⟩ :: rest) k e σ R := XO.val hg rfl hn (V.maxI rfl hx hy hc hc') next
theorem minI {K : IntKind} {m n : Int} {ts : Array TypeId} (next : XO cx md ops rest k (⟨d, g, .int K (min m n)⟩ :: e) σ R) (hg : gcond e ops gu = some g := by rfl) (hx : opd e x = some (c, .int K m) := by rfl) (hy : opd e y = some (c', .int K n) := by rfl) (hc : GC g c := by first | exact fun _ => rfl | exact id) (hc' : GC g c' := by first | exact fun _ => rfl | exact id) (hn : Nat.ble (d + 1) cx.n = true := by rfl) :
    XO cx md ops (⟨some d, .call { callee := .builtin .min, args := #[x, y], argTypes := ts }, ty, ps, af, gu⟩ :: rest) k e σ R := XO.val hg rfl hn (V.minI rfl hx hy hc hc') next
/-- a load out of an owned row -/
theorem loadOwn {t el sz n cap i : Nat} {ad : Addr} {cs : List Value} (hT : TFlat cx.P t) (next : XO cx md ops rest k (⟨d, g, v⟩ :: e) (St w0 S L) R) (hg : gcond e ops gu = some g := by rfl) (hx : opd e x = some (c, .pointer (some (ad.add i))) := by rfl)
    (hr : Rem (HP.own el sz (.slice (some ad) n cap) n cs) L L' := by repeat (first | with_reducible exact Rem.here | with_reducible apply Rem.there)) (hv : cs[i]? = some v := by first | rfl | assumption) (hc : GC g c := by first | exact fun _ => rfl | exact id | exact fun h => (Bool.and_eq_true_iff.1 h).1 | (intro h; simp only [Bool.and_eq_true] at h ⊢; simp [h])) (hn : Nat.ble (d + 1) cx.n = true := by rfl) :
    XO cx md ops (⟨some d, .load t x, ty, ps, af, gu⟩ :: rest) k e (St w0 S L) R := XO.val hg rfl hn (V.load rfl hT hx hc (fun _ w hs => hs.own_cell hr hv)) next
/-- a load by a fact with a footprint -/
theorem loadF {t : TypeId} {p : Addr} {φ : World → Prop} (hT : TFlat cx.P t) (hr : Rem (HP.rd φ) L L') (hφ : ∀ w, φ w → w.cell? p = some v) (next : XO cx md ops rest k (⟨d, g, v⟩ :: e) (St w0 S L) R) (hg : gcond e ops gu = some g := by rfl) (hx : opd e x = some (c, .pointer (some p)) := by rfl) (hc : GC g c := by first | exact fun _ => rfl | exact id | exact fun h => (Bool.and_eq_true_iff.1 h).1 | (intro h; simp only [Bool.and_eq_true] at h ⊢; simp [h])) (hn : Nat.ble (d + 1) cx.n = true := by rfl) :
    XO cx md ops (⟨some d, .load t x, ty, ps, af, gu⟩ :: rest) k e (St w0 S L) R := XO.val hg rfl hn (V.load rfl hT hx hc (fun _ w hs => hφ w (hs.rd hr))) next
theorem loadAggF {t : TypeId} {p : Addr} {n : Nat} {φ : World → Prop} (vs : List Value) (hT : TAgg cx.P t n) (hr : Rem (HP.rd φ) L L') (hφ : ∀ w, φ w → CellsAt w p 0 vs) (next : XO cx md ops rest k (⟨d, g, .agg vs.toArray⟩ :: e) (St w0 S L) R) (hg : gcond e ops gu = some g := by rfl) (hx : opd e x = some (c, .pointer (some p)) := by rfl) (hl : vs.length = n := by rfl) (hc : GC g c := by first | exact fun _ => rfl | exact id | exact fun h => (Bool.and_eq_true_iff.1 h).1 | (intro h; simp only [Bool.and_eq_true] at h ⊢; simp [h])) (hn : Nat.ble (d + 1) cx.n = true := by rfl) :
    XO cx md ops (⟨some d, .load t x, ty, ps, af, gu⟩ :: rest) k e (St w0 S L) R := XO.val hg rfl hn (V.loadAgg rfl hT hx hc hl (fun _ w hs => hφ w (hs.rd hr))) next
/-- a read in its place, out of an owned row -/
theorem loadOwnH {fs : List Nat} {tail : List Oper} {t el sz n cap i : Nat} {ad : Addr} {cs : List Value} (hT : TFlat cx.P t) (next : XO cx (.held fs tail (St w0 S L)) ops rest k (⟨d, true, v⟩ :: e) (St w0 S Lp) R) (hg : gcond e ops gu = some true := by rfl) (hx : opd e x = some (c, .pointer (some (ad.add i))) := by rfl)
    (hr : Rem (HP.own el sz (.slice (some ad) n cap) n cs) L L' := by repeat (first | with_reducible exact Rem.here | with_reducible apply Rem.there)) (hv : cs[i]? = some v := by first | rfl | assumption) (hl : ld fs ⟨some d, .load t x, ty, ps, af, gu⟩ = true := by rfl) (hc : c = true := by rfl) (hn : Nat.ble (d + 1) cx.n = true := by rfl) :
    XO cx (.held fs tail (St w0 S L)) ops (⟨some d, .load t x, ty, ps, af, gu⟩ :: rest) k e (St w0 S Lp) R := XO.valF hg rfl rfl hn hl (V.load rfl hT hx (fun _ => hc) (fun _ w hs => hs.own_cell hr hv)) next
/-- a store into an owned row, in a region in any order -/
theorem storeOwnH {fs : List Nat} {tail : List Oper} {t el sz n cap i : Nat} {ad : Addr} {cs : List Value} (cs' : List Value) (hT : TSize cx.P t 1) (hi : i < cs.length) (hcs : cs.set i v = cs') (next : XO cx (.held fs tail (St w0 S (HP.own el sz (.slice (some ad) n cap) n cs' :: L'))) ops rest k e (St w0 S Lp) R)
    (hr : Rem (HP.own el sz (.slice (some ad) n cap) n cs) L L' := by repeat (first | with_reducible exact Rem.here | with_reducible apply Rem.there)) (hp : ∀ X, ∃ L2, Rems Lp (X :: L') L2 := by exact fun X => ⟨_, by repeat (first | exact Rems.nil | (apply Rems.cons; focus (repeat (first | with_reducible exact Rem.here | with_reducible apply Rem.there))))⟩)
    (hx : opd e x = some (true, .pointer (some (ad.add i))) := by rfl) (hy : opd e y = some (true, v) := by rfl) (hg : gcond e ops gu = some true := by rfl) (hone : v.oneCell' = true := by rfl) :
    XO cx (.held fs tail (St w0 S L)) ops (⟨none, .store t x y, ty, ps, af, gu⟩ :: rest) k e (St w0 S Lp) R := by
  refine XO.effH0 (α := Unit) (φ := fun _ => True) (ρ' := fun _ => St w0 S (HP.own el sz (.slice (some ad) n cap) n cs' :: L')) hg rfl rfl rfl ?_ ?_ (fun _ _ => next)
  · intro a w hf hs
    obtain ⟨w', h1, h2⟩ := store_own_st (P := cx.P) (u := v) (hr.sats1 hs) hi hone
    refine ⟨(), w', trivial, ?_, by rw [← hcs]; exact h2⟩
    have hvc : v.cells = #[v] := by
      cases v <;> first | rfl | (simp [Value.oneCell'] at hone)
    simp [execOp, Instr.storeAt, opd_eval hf hx rfl, opd_eval hf hy rfl, Instr.sureAddr, storeVar, hT w, hvc, storeCells]
    rw [show (ad.add i).add 0 = ad.add i from by rw [addr_add]; rfl, h1]
    rfl
  · intro p w _ hs
    obtain ⟨L2, h2⟩ := hp (HP.own el sz (.slice (some ad) n cap) n cs')
    exact (hs.rems h2).drop
theorem makeFunc {fn : Fn} {xs ys : List Operand} {vs us : List Value} (next : XO cx md ops rest k (⟨d, g, .func fn vs.toArray us.toArray⟩ :: e) σ R) (hg : gcond e ops gu = some g := by rfl) (hx : opds e xs = some (true, vs) := by rfl) (hy : opds e ys = some (true, us) := by rfl) (hn : Nat.ble (d + 1) cx.n = true := by rfl) :
    XO cx md ops (⟨some d, .makeFunc fn xs.toArray ys.toArray, ty, ps, af, gu⟩ :: rest) k e σ R := XO.val hg rfl hn (by
  intro a w hf hg _
  have h1 := opds_eval hf hx rfl
  have h2 := opds_eval hf hy rfl
  have h3 : (Instr.makeFunc fn vs.toArray us.toArray).run cx.P w = .ok (.func fn vs.toArray us.toArray) w := rfl
  simp [execOp, h1, h2, h3]) next
theorem deferF {fid : FuncId} {caps : Array Value} {ts : Array TypeId} (next : XO ⟨cx.P, cx.f, cx.n, { target := .fn (.func fid) caps, args := #[] } :: cx.ds⟩ .seq ops rest k e σ R) (hg : gcond e ops gu = some true := by rfl) (hx : opd e x = some (true, .func (.func fid) #[] caps) := by rfl) :
    XO cx .seq ops (⟨none, .defer { callee := .value x, args := #[], argTypes := ts }, ty, ps, af, gu⟩ :: rest) k e σ R := by
  refine XO.defer hg rfl ?_ next
  intro a w hf _
  simp [execOp, resolve, opd_eval hf hx rfl, Deferred.ofValue]
end
end O

/-- Four results that lie in cells. -/
theorem results_cells4 {P : Program} {fn : Func} {T : Array Value} {w : World} {t1 t2 t3 t4 y1 y2 y3 y4 : Nat} {p1 p2 p3 p4 : Addr} {v1 v2 v3 v4 : Value} (hr : fn.results = #[.cell t1 y1, .cell t2 y2, .cell t3 y3, .cell t4 y4]) (h1 : T.getD t1 undef = .pointer (some p1)) (h2 : T.getD t2 undef = .pointer (some p2)) (h3 : T.getD t3 undef = .pointer (some p3)) (h4 : T.getD t4 undef = .pointer (some p4))
    (f1 : TFlat P y1) (f2 : TFlat P y2) (f3 : TFlat P y3) (f4 : TFlat P y4) (c1 : w.cell? p1 = some v1) (c2 : w.cell? p2 = some v2) (c3 : w.cell? p3 = some v3) (c4 : w.cell? p4 = some v4) : (results fn T).run P w = .ok (.tuple #[v1, v2, v3, v4]) w := by
  rw [Array.getD_eq_getD_getElem?] at h1 h2 h3 h4
  have l1 := run_loadVar_flat (P := P) f1 c1
  have l2 := run_loadVar_flat (P := P) f2 c2
  have l3 := run_loadVar_flat (P := P) f3 c3
  have l4 := run_loadVar_flat (P := P) f4 c4
  simp [results, hr, h1, h2, h3, h4, asAddr, l1, l2, l3, l4]
/-- A return whose results are reckoned. -/
theorem X.retG {cx : Cx} {k : List Item} {e : Env} {σ : World → Prop} {R : Ending → World → Prop} {fn : Func} (v : Value) (hf : cx.P.funcs[cx.f.f]? = some fn) (hr : ∀ a w, Fits cx e a → σ w → (results fn a.tmps).run cx.P w = .ok v w) (hR : ∀ w, σ w → R (.returned v) w) (hd : cx.ds = [] := by rfl) (hnr : cx.f.rnd = none := by rfl) : X cx (.code .ret :: k) e σ R :=
  fun a w hfit hs => Run.ret hnr hf (hfit.2.1.trans hd) (hr a w hfit hs) (hR w hs)
end Go.X
