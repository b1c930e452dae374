/- The walk's frame: ranges over functions. Over any program. -/
import Derived.Test.YtgegppbjpaeljaaDoorQ
set_option linter.unusedVariables false
set_option linter.unusedSimpArgs false
namespace Go.X
open Go.RowKit

section
variable {cx : Cx} {k : List Item} {e : Env} {σ : World → Prop} {R : Ending → World → Prop} {ops rest : List Oper} {o : Oper} {d : Nat} {w0 : World} {S : Nat → Prop} {L : List HP}

theorem XO.nilI (h : X cx k e σ R) : XO cx .inn ops [] k e σ R := fun a w hf hs => h a w hf hs
/-- A region that calls yield. -/
theorem X.regionY {id : Nat} {l : List Oper} (h : XO cx .inn l l k e σ R) (hnr : cx.f.rnd = none := by rfl) : X cx (.code (.region id l.toArray false) :: k) e σ R :=
  fun a w hf hs => Run.of_wp hnr ((wpIn_wide (n := 0)).1 (wpIn_region_lit (h a w hf hs)))
theorem XO.yield {fo : Operand} {xs : List Operand} {vs : List Value} {ts : Array TypeId} {l ty : Nat} {ps : _} {af : _} {σ' : World → Prop} {v : Value}
    (hy : ∀ w, σ w → YieldAt Fence.wide 0 cx.P l vs.toArray w fun en w' => en = .returned v ∧ σ' w')
    (next : XO cx .inn ops rest k (⟨d, true, v⟩ :: e) σ' R) (hf : opd e fo = some (true, .func (.yield l) #[] #[]) := by rfl) (hx : opds e xs = some (true, vs) := by rfl) (hn : Nat.ble (d + 1) cx.n = true := by rfl) :
    XO cx .inn ops (⟨some d, .call { callee := .value fo, args := xs.toArray, argTypes := ts }, ty, ps, af, none⟩ :: rest) k e σ R := by
  intro a w hfit hs
  unfold wpListIn
  rw [if_pos (by rfl)]
  refine ⟨fun _ _ => trivial, ?_⟩
  obtain ⟨fn, tmps, assign, body, h1, h2⟩ := hy w hs
  have hr : (execOp a.eval ⟨some d, .call { callee := .value fo, args := xs.toArray, argTypes := ts }, ty, ps, af, none⟩).run cx.P w = .ok (.round l fn tmps assign body) w := by
    have h3 := opds_eval hfit hx rfl
    simp [execOp, resolve, opd_eval hfit hf rfl, Deferred.ofValue, invoke, h3, h1]
  rw [show Oper.semAt Fence.wide.round a.eval _ = execOp a.eval _ from rfl, hr, Oper.uponIn_round]
  refine ⟨fun h => (by cases h), h2.mono ?_⟩
  rintro en w' ⟨rfl, hs'⟩
  exact next _ w' (hfit.put (c := true) (Nat.le_of_ble_eq_true hn)) hs'

/-- What a round's parameters hold. -/
def penv : List Tmp → List Value → Env → Env
  | p :: ps, v :: vs, e => penv ps vs (⟨p, true, v⟩ :: e)
  | _, _, e => e
theorem Fits.params (cy : Cx) : ∀ (ps : List Tmp) (vs : List Value) (e0 : Env) (t : Array Value), (∀ p ∈ ps, p < cy.n) → Fits cy e0 { tmps := t, defers := [] } → Fits cy (penv ps vs e0) { tmps := (ps.zip vs).foldl (fun t (p, v) => t.setIfInBounds p v) t, defers := [] }
  | [], vs, _, _, _, h => by cases vs <;> exact h
  | _ :: _, [], _, _, _, h => h
  | p :: ps, v :: vs, e0, t, hb, h => by
    have h1 := h.put (c := true) (d := p) (v := v) (hb p (List.mem_cons_self ..))
    exact Fits.params cy ps vs _ _ (fun q hq => hb q (List.mem_cons_of_mem _ hq)) h1

theorem St.putObj {w : World} {l : Nat} {o o' : Obj} {L' : List HP} (h : St w0 S L w) (hr : Rem (HP.blk l o) L L') : St w0 S (HP.blk l o' :: L') (w.putObj l o') := by
  have hl := h.blk_at hr
  refine h.write hr rfl rfl rfl World.putObj_size (fun k hk => World.putObj_heap_other hk) (World.putObj_heap_same (Array.getElem?_eq_some_iff.1 hl).1)

/-- A round begins. -/
theorem X.beginRound {l : Nat} {r : Loop} (hs : r.state = .ready) (h : X cx k e (St w0 S (HP.blk l (.loop { r with state := .busy }) :: L)) R) (hl : cx.f.rnd = some l := by rfl) : X cx (.beginRound :: k) e (St w0 S (HP.blk l (.loop r) :: L)) R := by
  intro a w hf hw
  exact Run.beginRound hl (run_beginRound (hw.blk_at .here) hs) (h a _ hf (hw.putObj .here))

/-- A range over a function: the rounds, each once; the function that is ranged over, of whatever the rounds keep. -/
theorem X.rangeFunc {g : Operand} {ps : List Tmp} {assign body : Code} {gf : Nat} {caps : List Value} {N : Nat} (vals : Nat → List Value) (LL : Nat → List HP) (hT : TEnters cx.P gf) (h0 : ∀ w, σ w → St w0 S (LL 0) w) (hlen : ∀ j, j < N → (vals j).length = ps.length)
    (hround : ∀ l D r, r.state = .ready → ∀ j, j < N → X ⟨cx.P, ⟨cx.f.f, some l⟩, cx.n, []⟩ [.code assign, .beginRound, .code body] (penv ps (vals j) e) (St w0 S (HP.blk l (.loop r) :: HP.blk D (.deferred (some [])) :: LL j))
      (fun _ w => St w0 S (HP.blk l (.loop { r with state := .busy }) :: HP.blk D (.deferred (some [])) :: LL (j + 1)) w))
    (hiter : ∀ l (Inv : Nat → World → Prop), (∀ j w, Inv j w → St w0 S (LL j) w) → (∀ j, j < N → ∀ w, Inv j w → YieldAt Fence.wide 0 cx.P l (vals j).toArray w fun en w' => en = .returned (.bool true) ∧ Inv (j + 1) w') →
      ∀ w, Inv 0 w → Calls cx.P gf (.func (.yield l) #[] #[] :: caps).toArray w fun en w' => (∃ v, en = .returned v) ∧ Inv N w')
    (next : ∀ D, X ⟨cx.P, cx.f, cx.n, { target := .collected D, args := #[] } :: cx.ds⟩ k e (St w0 S (HP.blk D (.deferred (some [])) :: LL N)) R)
    (hg : opd e g = some (true, .func (.func gf) #[] caps.toArray) := by rfl) (hps : (ps.all fun p => Nat.blt p cx.n) = true := by rfl) (hnr : cx.f.rnd = none := by rfl) :
    X cx (.code (.rangeFunc g ps.toArray assign body) :: k) e σ R := by
  intro a w hf hw
  have hst := h0 w hw
  refine Run.rangeFunc hnr (opd_eval hf hg rfl) hT (fun fn => ?_)
  obtain ⟨h1, h2⟩ := hst.alloc (.deferred (some []))
  obtain ⟨h3, h4⟩ := h2.alloc (.loop { state := .ready, pending := none, fn, tmps := a.tmps, params := ps.toArray, assign, body, defers := w.heap.size })
  obtain ⟨r, hr⟩ : ∃ r : Loop, r = { state := .ready, pending := none, fn, tmps := a.tmps, params := ps.toArray, assign, body, defers := w.heap.size } := ⟨_, rfl⟩
  rw [← hr] at h4 ⊢
  rw [World.size_alloc] at h4
  have hrs : r.state = .ready := by rw [hr]
  have hfa : ∀ j, Fits ⟨cx.P, ⟨cx.f.f, some (w.heap.size + 1)⟩, cx.n, []⟩ (penv ps (vals j) e) { tmps := (ps.zip (vals j)).foldl (fun t (p, v) => t.setIfInBounds p v) a.tmps, defers := [] } := fun j =>
    Fits.params ⟨cx.P, ⟨cx.f.f, some (w.heap.size + 1)⟩, cx.n, []⟩ ps (vals j) e a.tmps (fun p hp => by have := List.all_eq_true.1 hps p hp; exact Nat.le_of_ble_eq_true this) ⟨hf.1, rfl, hf.2.2⟩
  have hcall := hiter (w.heap.size + 1) (fun j => St w0 S (HP.blk (w.heap.size + 1) (.loop r) :: HP.blk w.heap.size (.deferred (some [])) :: LL j)) (fun j w' h => h.drop1.drop1) ?_ _ h4
  · have harr : (#[.func (.yield (w.heap.size + 1)) #[] #[]] ++ caps.toArray : Array Value) = (.func (.yield (w.heap.size + 1)) #[] #[] :: caps).toArray := by simp
    rw [harr]
    refine hcall.mono ?_
    rintro en w3 ⟨hv, h5⟩
    refine ⟨hv, r, h5.blk_at .here, by rw [hrs]; decide, by rw [hr], ?_⟩
    refine next w.heap.size { a with defers := { target := .collected w.heap.size, args := #[] } :: a.defers } _ ⟨hf.1, by rw [hf.2.1], hf.2.2⟩ ?_
    exact (h5.putObj .here).drop1
  · intro j hj w' h'
    have hy := run_yield (P := cx.P) (args := (vals j).toArray) (h'.blk_at .here) (by rw [hr]; simpa using hlen j hj)
    refine ⟨_, _, _, _, hy, ?_⟩
    have hx := hround (w.heap.size + 1) w.heap.size r hrs j hj _ w' (hfa j) h'
    have ht : (r.params.zip (vals j).toArray).foldl (fun (tmps : Array Value) (t, a) => tmps.setIfInBounds t a) r.tmps = (ps.zip (vals j)).foldl (fun t (p, v) => t.setIfInBounds p v) a.tmps := by
      rw [hr]
      simp
    have ha : r.assign = assign := by rw [hr]
    have hb : r.body = body := by rw [hr]
    rw [ht, ha, hb]
    refine Run.round (l := w.heap.size + 1) rfl hx ?_
    intro w2 h2
    refine ⟨_, (run_endRound none (h2.blk_at .here)), rfl, ?_⟩
    have h7 := h2.putObj (o' := .loop r) .here
    have : ({ { r with state := .busy } with state := if (none : Option Code).isNone then .ready else .done, pending := none } : Loop) = r := by rw [hr]; rfl
    rw [this]
    exact h7

/-- A return of a function that ranged over a function. -/
theorem X.retMark {fn : Func} {t D : Nat} {v : Value} {L' : List HP} (hf : cx.P.funcs[cx.f.f]? = some fn) (hR : ∀ w, St w0 S L' w → R (.returned v) w) (hr : Rem (HP.blk D (.deferred (some []))) L L') (hd : cx.ds = [{ target := .collected D, args := #[] }] := by rfl) (hnr : cx.f.rnd = none := by rfl) (hrs : fn.results = #[.tmp t] := by rfl) (hv : Env.find e t = some (true, v) := by rfl) :
    X cx (.code .ret :: k) e (St w0 S L) R := by
  intro a w hfit hs
  refine Run.retM hnr hf (hfit.2.1.trans hd) (run_takeDeferred (hs.blk_at hr)) (by rw [results_tmp hrs, show a.tmps.getD t undef = v from hfit.2.2 t true v hv]) (hR _ (hs.putObj hr).drop1)
end
namespace O
variable {cx : Cx} {md : Md} {k : List Item} {e : Env} {σ : World → Prop} {R : Ending → World → Prop} {ops rest : List Oper} {d : Nat} {x : Operand} {c g : Bool} {v : Value}
/-- a load, by what the memory's assertion says -/
theorem loadI {t ty : TypeId} {ps : _} {af : _} {gu : _} {p : Addr} (hT : TFlat cx.P t) (hcell : ∀ w, σ w → w.cell? p = some v) (next : XO cx md ops rest k (⟨d, g, v⟩ :: e) σ R) (hg : gcond e ops gu = some g := by rfl) (hx : opd e x = some (true, .pointer (some p)) := by rfl) (hn : Nat.ble (d + 1) cx.n = true := by rfl) :
    XO cx md ops (⟨some d, .load t x, ty, ps, af, gu⟩ :: rest) k e σ R := XO.val hg rfl hn (V.load rfl hT hx (fun _ => rfl) (fun _ w hs => hcell w hs)) next
end O
end Go.X
