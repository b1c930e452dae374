/- The rules of the walk's frame, 6: results that lie in cells, regions in any order with effects, calls that may panic, facts on memory with their own footprint. Over any program. -/
import Derived.Test.YtgegppbjpaeljaaDoorF
set_option linter.unusedVariables false
set_option linter.unusedSimpArgs false
namespace Go.X
open Go.RowKit

/-! ### facts with a footprint -/
/-- φ, and it hangs on blocks of its own alone. -/
def HP.rd (φ : World → Prop) : HP where
  holds w F := (∀ k, F k → k < w.heap.size) ∧ ∀ w', (∀ k, F k → w'.heap[k]? = w.heap[k]?) → φ w'
  move := fun {w w' F} ⟨h1, h2⟩ hm => by
    refine ⟨fun k hk => ?_, fun w'' h'' => h2 w'' fun k hk => (h'' k hk).trans (hm k hk)⟩
    have h3 := hm k hk
    have h4 := h1 k hk
    rw [Array.getElem?_eq_getElem h4] at h3
    exact (Array.getElem?_eq_some_iff.1 h3).1
  live := fun {w F k} ⟨h1, _⟩ hk => h1 k hk

section
variable {w0 w : World} {S : Nat → Prop} {L L' : List HP}
theorem St.rd {φ : World → Prop} (h : St w0 S L w) (hr : Rem (HP.rd φ) L L') : φ w := by
  obtain ⟨F, hF, F1, F2, h1, h2, h3, ⟨h4, h5⟩, h6⟩ := (hr.sats1 h).sat
  exact h5 w fun _ _ => rfl
theorem St.rd_mono {φ ψ : World → Prop} (h : St w0 S (HP.rd φ :: L) w) (hi : ∀ w, φ w → ψ w) : St w0 S (HP.rd ψ :: L) w := by
  obtain ⟨F, hF, F1, F2, h1, h2, h3, ⟨h4, h5⟩, h6⟩ := h.sat
  exact ⟨h.mod, F, hF, F1, F2, h1, h2, h3, ⟨h4, fun w' hw => hi w' (h5 w' hw)⟩, h6⟩
theorem St.rd_and {φ ψ : World → Prop} (h : St w0 S (HP.rd φ :: HP.rd ψ :: L) w) : St w0 S (HP.rd (fun w => φ w ∧ ψ w) :: L) w := by
  obtain ⟨F, hF, F1, F2, h1, h2, h3, ⟨h4, h5⟩, G1, G2, g1, g2, g3, ⟨g4, g5⟩, g6⟩ := h.sat
  refine ⟨h.mod, F, hF, fun k => F1 k ∨ G1 k, G2, fun k hk => hk.elim (h1 k) (fun hk => h2 k (g1 k hk)), fun k hk => h2 k (g2 k hk), fun k hk hk' => hk.elim (fun hk => h3 k hk (g2 k hk')) (fun hk => g3 k hk hk'), ⟨fun k hk => hk.elim (h4 k) (g4 k), fun w' hw => ⟨h5 w' fun k hk => hw k (.inl hk), g5 w' fun k hk => hw k (.inr hk)⟩⟩, g6⟩
theorem St.rd_true (h : St w0 S L w) : St w0 S (HP.rd (fun _ => True) :: L) w := by
  obtain ⟨F, hF, h1⟩ := h.sat
  exact ⟨h.mod, F, hF, fun _ => False, F, fun _ h => h.elim, fun _ h => h, fun _ h => h.elim, ⟨fun _ h => h.elim, fun _ _ => trivial⟩, h1⟩
/-- An owned row, from now on only read. -/
theorem St.rd_own {el sz n : Nat} {A : Option Addr} {c : Nat} {cs : List Value} (h : St w0 S (HP.own el sz (.slice A n c) n cs :: L) w) : St w0 S (HP.rd (fun w => Reads w A cs) :: L) w := by
  obtain ⟨A', c', hv, _, _, _, _⟩ := h.own_form .here
  obtain ⟨F, hF, F1, F2, h1, h2, h3, h4, h5⟩ := h.sat
  refine ⟨h.mod, F, hF, F1, F2, h1, h2, h3, ⟨fun k hk => (HP.own el sz (.slice A n c) n cs).live h4 hk, fun w' hw => ?_⟩, h5⟩
  have h6 := (HP.own el sz (.slice A n c) n cs).move (w' := w') h4 hw
  rcases h6.1.2 with ⟨hv, hn⟩ | ⟨g, cap, cur, hv, _⟩
  · have : cs = [] := List.eq_nil_of_length_eq_zero (by rw [h6.1.1, hn, Nat.zero_mul])
    subst this
    exact Reads.nil _ _
  · simp only [Value.slice.injEq] at hv
    obtain ⟨rfl, _, _⟩ := hv
    exact fun _ => ⟨_, rfl, fun j u hu => h6.1.cells (g := g) rfl j u hu⟩
theorem St.rd_blk {b el : Nat} {fz : Nat × Nat} {cs : Array Value} (h : St w0 S (HP.blk b (.cells cs el fz) :: L) w) : St w0 S (HP.rd (fun w => Reads w (some ⟨b, 0, none⟩) cs.toList) :: L) w := by
  obtain ⟨F, hF, F1, F2, h1, h2, h3, h4, h5⟩ := h.sat
  refine ⟨h.mod, F, hF, F1, F2, h1, h2, h3, ⟨fun k hk => (HP.blk b _).live h4 hk, fun w' hw => ?_⟩, h5⟩
  have h6 := (HP.blk b (.cells cs el fz)).move (w' := w') h4 hw
  refine fun _ => ⟨_, rfl, fun j u hu => ?_⟩
  rw [add_blk, Nat.zero_add]
  simp only [World.cell?, h6.2.2]
  simpa using hu
/-- A fact on what was there before. -/
theorem St.rd_old {φ : World → Prop} (h : St w0 noS L w) (hφ : ∀ w', Below w0.heap.size w0 w' → φ w') : φ w := hφ w h.below
theorem St.rd_monoR {φ ψ : World → Prop} (h : St w0 S L w) (hr : Rem (HP.rd φ) L L') (hi : ∀ w, φ w → ψ w) : St w0 S (HP.rd ψ :: L') w := (hr.sats1 h).rd_mono hi
theorem St.swap {A B : HP} (h : St w0 S (A :: B :: L) w) : St w0 S (B :: A :: L) w := h.rems (.cons (.there .here) (.cons .here .nil))
end

section
variable {cx : Cx} {k : List Item} {e : Env} {σ : World → Prop} {R : Ending → World → Prop} {ops rest : List Oper} {o : Oper} {g : Bool} {d : Nat}
variable {w0 : World} {S : Nat → Prop} {L L' : List HP}

/-- A region whose order is open, with effects: the reads first (they lean on Lp alone), the effects in their one order. -/
theorem X.regionH {id : Nat} {l : List Oper} {L2 : List HP} (fs τ π : List Nat) (Lp : List HP) (hm : cx.P.follows .mixedOrders = true) (hB : permOk l fs τ π = true) (hr : Rems Lp L L2) (h : XO cx (.held fs (permL l τ) (St w0 S L)) l (permL l π) k e (St w0 S Lp) R) (hnd : cx.f.rnd = none ∨ noDefer l = true := by first | exact .inl rfl | exact .inr rfl) : X cx (.code (.region id l.toArray true) :: k) e (St w0 S L) R :=
  fun a w hf hs => run_of_perm fs τ π hm hnd hB ((hs.drew _).rems hr).drop (h a _ hf (hs.drew _) ((hs.drew _).rems hr).drop)

theorem run_loadVar_agg {P : Program} {t n : Nat} {p : Addr} {vs : List Value} {w : World} (hT : TAgg P t n) (hn : vs.length = n) (hc : CellsAt w p 0 vs) : (loadVar t p).run P w = .ok (.agg vs.toArray) w := by
  have := run_loadCells_at (P := P) vs 0 #[] hc
  rw [hn] at this
  simp [loadVar, hT.1 w, hT.2 w, loadCells, this]
theorem run_loadVar_flat {P : Program} {t : Nat} {p : Addr} {v : Value} {w : World} (hT : TFlat P t) (hc : w.cell? p = some v) : (loadVar t p).run P w = .ok v w := by
  simp [loadVar, hT w, run_load, hc]

/-- Two ways that meet again. -/
theorem X.join {c : Code} (e' : Env) (σ' : World → Prop) (h2 : X cx k e' σ' R → X cx (.code c :: k) e σ R) (h1 : X cx k e' σ' R) : X cx (.code c :: k) e σ R := h2 h1
/-- One result that lies in cells. -/
theorem X.retC1 {fn : Func} {t ty n : Nat} {p : Addr} {vs : List Value} (hf : cx.P.funcs[cx.f.f]? = some fn) (hT : TAgg cx.P ty n) (hn : vs.length = n) (hc : ∀ w, σ w → CellsAt w p 0 vs) (hR : ∀ w, σ w → R (.returned (.agg vs.toArray)) w) (hd : cx.ds = [] := by rfl) (hnr : cx.f.rnd = none := by rfl) (hr : fn.results = #[.cell t ty] := by rfl) (hv : Env.find e t = some (true, .pointer (some p)) := by rfl) : X cx (.code .ret :: k) e σ R :=
  fun a w hfit hs => Run.ret hnr hf (hfit.2.1.trans hd) (by
    have h1 : a.tmps[t]?.getD undef = .pointer (some p) := by rw [← Array.getD_eq_getD_getElem?]; exact hfit.2.2 t true _ hv
    have h2 := run_loadVar_agg hT hn (hc w hs)
    simp [results, hr, h1, asAddr, h2]) (hR w hs)
/-- A result in cells, and one in a slot. -/
theorem X.retCT {fn : Func} {t u ty n : Nat} {p : Addr} {vs : List Value} {v2 : Value} (hf : cx.P.funcs[cx.f.f]? = some fn) (hT : TAgg cx.P ty n) (hn : vs.length = n) (hc : ∀ w, σ w → CellsAt w p 0 vs) (hR : ∀ w, σ w → R (.returned (.tuple #[.agg vs.toArray, v2])) w) (hd : cx.ds = [] := by rfl) (hnr : cx.f.rnd = none := by rfl) (hr : fn.results = #[.cell t ty, .tmp u] := by rfl) (hv : Env.find e t = some (true, .pointer (some p)) := by rfl) (hv2 : Env.find e u = some (true, v2) := by rfl) : X cx (.code .ret :: k) e σ R :=
  fun a w hfit hs => Run.ret hnr hf (hfit.2.1.trans hd) (by
    have h1 : a.tmps[t]?.getD undef = .pointer (some p) := by rw [← Array.getD_eq_getD_getElem?]; exact hfit.2.2 t true _ hv
    have h3 : a.tmps[u]?.getD undef = v2 := by rw [← Array.getD_eq_getD_getElem?]; exact hfit.2.2 u true _ hv2
    have h2 := run_loadVar_agg hT hn (hc w hs)
    simp [results, hr, h1, h3, asAddr, h2]) (hR w hs)
theorem X.ret3 {fn : Func} {t u s : Nat} {v v2 v3 : Value} (hf : cx.P.funcs[cx.f.f]? = some fn) (hR : ∀ w, σ w → R (.returned (.tuple #[v, v2, v3])) w) (hd : cx.ds = [] := by rfl) (hnr : cx.f.rnd = none := by rfl) (hr : fn.results = #[.tmp t, .tmp u, .tmp s] := by rfl) (hv : Env.find e t = some (true, v) := by rfl) (hv2 : Env.find e u = some (true, v2) := by rfl) (hv3 : Env.find e s = some (true, v3) := by rfl) : X cx (.code .ret :: k) e σ R :=
  fun a w hfit hs => Run.ret hnr hf (hfit.2.1.trans hd) (by
    have h1 : a.tmps[t]?.getD undef = v := by rw [← Array.getD_eq_getD_getElem?]; exact hfit.2.2 t true _ hv
    have h2 : a.tmps[u]?.getD undef = v2 := by rw [← Array.getD_eq_getD_getElem?]; exact hfit.2.2 u true _ hv2
    have h3 : a.tmps[s]?.getD undef = v3 := by rw [← Array.getD_eq_getD_getElem?]; exact hfit.2.2 s true _ hv3
    simp [results, hr, h1, h2, h3]) (hR w hs)
theorem X.ret4 {fn : Func} {t u s r : Nat} {v v2 v3 v4 : Value} (hf : cx.P.funcs[cx.f.f]? = some fn) (hR : ∀ w, σ w → R (.returned (.tuple #[v, v2, v3, v4])) w) (hd : cx.ds = [] := by rfl) (hnr : cx.f.rnd = none := by rfl) (hr : fn.results = #[.tmp t, .tmp u, .tmp s, .tmp r] := by rfl) (hv : Env.find e t = some (true, v) := by rfl) (hv2 : Env.find e u = some (true, v2) := by rfl) (hv3 : Env.find e s = some (true, v3) := by rfl) (hv4 : Env.find e r = some (true, v4) := by rfl) : X cx (.code .ret :: k) e σ R :=
  fun a w hfit hs => Run.ret hnr hf (hfit.2.1.trans hd) (by
    have h1 : a.tmps[t]?.getD undef = v := by rw [← Array.getD_eq_getD_getElem?]; exact hfit.2.2 t true _ hv
    have h2 : a.tmps[u]?.getD undef = v2 := by rw [← Array.getD_eq_getD_getElem?]; exact hfit.2.2 u true _ hv2
    have h3 : a.tmps[s]?.getD undef = v3 := by rw [← Array.getD_eq_getD_getElem?]; exact hfit.2.2 s true _ hv3
    have h4 : a.tmps[r]?.getD undef = v4 := by rw [← Array.getD_eq_getD_getElem?]; exact hfit.2.2 r true _ hv4
    simp [results, hr, h1, h2, h3, h4]) (hR w hs)
end

namespace O
section
variable {cx : Cx} {md : Md} {k : List Item} {e : Env} {R : Ending → World → Prop} {ops rest : List Oper} {σ : World → Prop} {d : Nat} {g c c' c'' : Bool} {x y z : Operand} {ty : TypeId} {ps : String} {af : Array Edge} {gu : Option (Nat × Bool)} {u v : Value}
variable {w0 : World} {S : Nat → Prop} {L L' Lp : List HP}
/-- 'append' in a region in any order -/
theorem appendH {fs : List Nat} {tail : List Oper} {t tx el sz bytes n cap : Nat} {zv xv : Value} {A : Option Addr} {cs : List Value} (news : List Value) (m : Nat) (hT : TSlice cx.P t el sz) (hE : TElem cx.P el zv sz bytes)
    (hr : Rem (HP.own el sz (.slice A n cap) n cs) L L')
    (hsrc : ∀ w, St w0 S L w → Src cx.P sz tx xv m news w) (h63 : n + m ≤ maxLen) (hbytes : (n + m) * bytes ≤ 140737488355328) (hp : ∀ X, ∃ L2, Rems Lp (X :: L') L2)
    (next : ∀ A' c', XO cx (.held fs tail (St w0 S (HP.own el sz (.slice A' (n + m) c') (n + m) (cs ++ news) :: L'))) ops rest k (⟨d, true, .slice A' (n + m) c'⟩ :: e) (St w0 S Lp) R) (hg : gcond e ops gu = some true := by rfl) (hx : opd e x = some (true, .slice A n cap) := by rfl) (hy : opd e y = some (true, xv) := by rfl) (hn : Nat.ble (d + 1) cx.n = true := by rfl) :
    XO cx (.held fs tail (St w0 S L)) ops (⟨some d, .call { callee := .builtin .append, args := #[x, y], argTypes := #[t, tx] }, ty, ps, af, gu⟩ :: rest) k e (St w0 S Lp) R := by
  refine XO.effH (α := Option Addr × Nat) (φ := fun _ => True) (vo := fun p => .slice p.1 (n + m) p.2) (ρ' := fun p => St w0 S (HP.own el sz (.slice p.1 (n + m) p.2) (n + m) (cs ++ news) :: L')) hg rfl rfl hn rfl ?_ ?_ (fun p _ => next p.1 p.2)
  · intro a w hf hs
    obtain ⟨v', w', h1, h2⟩ := append_own_st (P := cx.P) (ty := ty) hT.1 hE (hr.sats1 hs) (hsrc w hs) h63 hbytes
    obtain ⟨A', c', rfl, _⟩ := h2.own_form .here
    refine ⟨(A', c'), w', trivial, ?_, h2⟩
    simp [execOp, resolve, opd_eval hf hx rfl, opd_eval hf hy rfl, invoke, builtin, h1]
  · intro p w _ hs
    obtain ⟨L2, h2⟩ := hp (HP.own el sz (.slice p.1 (n + m) p.2) (n + m) (cs ++ news))
    exact (hs.rems h2).drop
/-- the empty row to be appended to, where it is none yet -/
theorem emptyH {fs : List Nat} {tail : List Oper} (el sz : Nat) (next : XO cx (.held fs tail (St w0 S (HP.own el sz (.slice none 0 0) 0 [] :: L))) ops rest k e σ R) : XO cx (.held fs tail (St w0 S L)) ops rest k e σ R :=
  fun a w hf hρ hs => next a w hf (hρ.own_nil el sz) hs
theorem empty (el sz : Nat) (next : XO cx .seq ops rest k e (St w0 S (HP.own el sz (.slice none 0 0) 0 [] :: L)) R) : XO cx .seq ops rest k e (St w0 S L) R :=
  XO.st (fun w hs => hs.own_nil el sz) next
/-- a store into a block, in a region in any order -/
theorem storeH {fs : List Nat} {tail : List Oper} {t t' : TypeId} {b off : Nat} {cs : Array Value} {n : Nat} (cs' : Array Value) (hT : TSize cx.P t n) (hr : Rem (HP.blk b (.cells cs t' (0, 0))) L L') (hp : ∀ X, ∃ L2, Rems Lp (X :: L') L2) (next : XO cx (.held fs tail (St w0 S (HP.blk b (.cells cs' t' (0, 0)) :: L'))) ops rest k e (St w0 S Lp) R) (hx : opd e x = some (true, .pointer (some ⟨b, off, none⟩)) := by rfl) (hy : opd e y = some (true, v) := by rfl)
    (hv : v.cells.size = n := by rfl) (hone : v.cells.toList.all Value.oneCell' = true := by rfl) (hl : Nat.ble (off + n) cs.size = true := by rfl) (hcs : overL cs off v.cells.toList = cs' := by first | (simp only [overL, Value.cells, List.setIfInBounds_toArray, List.set_cons_zero, List.set_cons_succ, Nat.zero_add, Nat.reduceAdd]; exact rfl) | rfl) (hg : gcond e ops gu = some true := by rfl) :
    XO cx (.held fs tail (St w0 S L)) ops (⟨none, .store t x y, ty, ps, af, gu⟩ :: rest) k e (St w0 S Lp) R := by
  refine XO.effH0 (α := Unit) (φ := fun _ => True) (ρ' := fun _ => St w0 S (HP.blk b (.cells cs' t' (0, 0)) :: L')) hg rfl rfl rfl ?_ ?_ (fun _ _ => next)
  · intro a w hf hs
    obtain ⟨w', h1, h2⟩ := run_storeCells_st (P := cx.P) (off := off) v.cells.toList 0 cs w (hr.sats1 hs) (by have := Nat.le_of_ble_eq_true hl; simp; omega) hone
    refine ⟨(), w', trivial, ?_, by rw [← hcs]; exact h2⟩
    simp only [execOp, Instr.storeAt, opd_eval hf hx rfl, opd_eval hf hy rfl, Instr.sureAddr, storeVar]
    simp [hT w, hv, h1]
  · intro p w _ hs
    obtain ⟨L2, h2⟩ := hp (HP.blk b (.cells cs' t' (0, 0)))
    exact (hs.rems h2).drop
/-- a call that hands back new memory, in a region in any order -/
theorem callNH {fs : List Nat} {tail : List Oper} {α : Type} {φ : α → Prop} {vo : α → Value} {N : α → List HP} {L2 : List HP} {fo : Operand} {fid : FuncId} {caps : Array Value} {xs : List Operand} {vs : List Value} {ts : Array TypeId} (hT : TEnters cx.P fid) (hr : Rems Lp L L2)
    (hc : ∀ w, St w0 S L w → Calls cx.P fid (vs ++ caps.toList).toArray w (fun en w' => ∃ x, φ x ∧ en = .returned (vo x) ∧ St w noS (N x) w')) (next : ∀ x, φ x → XO cx (.held fs tail (St w0 S (L ++ N x))) ops rest k (⟨d, true, vo x⟩ :: e) (St w0 S Lp) R) (hg : gcond e ops gu = some true := by rfl) (hf : opd e fo = some (true, .func (.func fid) #[] caps) := by rfl) (hx : opds e xs = some (true, vs) := by rfl) (hn : Nat.ble (d + 1) cx.n = true := by rfl) :
    XO cx (.held fs tail (St w0 S L)) ops (⟨some d, .call { callee := .value fo, args := xs.toArray, argTypes := ts }, ty, ps, af, gu⟩ :: rest) k e (St w0 S Lp) R := by
  refine XO.callH (ρ' := fun x => St w0 S (L ++ N x)) hg rfl rfl hn rfl (fun a w hfit => run_call rfl hT hf hx rfl rfl hfit) (fun w hs => (hc w hs).mono fun en w' ⟨x, h1, h2, h3⟩ => ?_) (fun x w _ hs => ?_) next
  · obtain ⟨h4, G, h5, h6⟩ := h3.out
    refine ⟨x, h1, h2, ?_⟩
    obtain ⟨hm, F, hF, hS⟩ := hs.more h4 h5 h6
    refine ⟨hm, F, hF, ?_⟩
    obtain ⟨F1, F2, a1, a2, a3, a4, a5⟩ := hS.split
    exact Sats.join a5 a4 a2 a1 (fun k hk hk' => a3 k hk' hk)
  · exact ((hs.drop).rems hr).drop
/-- a call that is handed a part of what is owned, and may panic -/
theorem callSP {α : Type} {φ : α → Prop} {vo : α → Value} {L1 : List HP} {L1' : α → List HP} {ψ : List PanicEntry → Prop} {fn : Func} {fo : Operand} {fid : FuncId} {caps : Array Value} {xs : List Operand} {vs : List Value} {ts : Array TypeId} (hT : TEnters cx.P fid) (hfn : cx.P.funcs[cx.f.f]? = some fn)
    (hr : Rems L1 L L') (hc : ∀ w S', St w S' L1 w → St w0 S L w → (∀ k, S' k → S k ∨ w0.heap.size ≤ k) → Calls cx.P fid (vs ++ caps.toList).toArray w (fun en w' => (∃ x, φ x ∧ en = .returned (vo x) ∧ St w S' (L1' x) w') ∨ (∃ ch, en = .panicked ch ∧ ψ ch ∧ St w S' [] w')))
    (hp : ∀ ch w, ψ ch → St w0 S L' w → R (.panicked ch) w) (next : ∀ x, φ x → XO cx .seq ops rest k (⟨d, true, vo x⟩ :: e) (St w0 S (L1' x ++ L')) R) (hds : cx.ds = [] := by rfl) (hg : gcond e ops gu = some true := by rfl) (hf : opd e fo = some (true, .func (.func fid) #[] caps) := by rfl) (hx : opds e xs = some (true, vs) := by rfl) (hn : Nat.ble (d + 1) cx.n = true := by rfl) (hnr : cx.f.rnd = none := by rfl) :
    XO cx .seq ops (⟨some d, .call { callee := .value fo, args := xs.toArray, argTypes := ts }, ty, ps, af, gu⟩ :: rest) k e (St w0 S L) R := by
  refine XO.callP (ψ := fun ch w => ψ ch ∧ St w0 S L' w) hnr hg rfl rfl hn hds hfn (fun a w hfit => run_call rfl hT hf hx rfl rfl hfit) (fun w hs => ?_) (fun ch w h => hp ch w h.1 h.2) next
  obtain ⟨S1, h1, h2, h3⟩ := (hs.rems hr).frame (w' := w) (L1' := [])
  refine (hc w S1 h1 hs h2).mono fun en w' h => ?_
  rcases h with ⟨x, hx, he, hst⟩ | ⟨ch, he, hψ, hst⟩
  · exact .inl ⟨x, hx, he, h3 w' _ hst⟩
  · exact .inr ⟨ch, he, hψ, h3 w' [] hst⟩
/-- the same, in a function that has deferred -/
theorem callSPD {α : Type} {φ : α → Prop} {vo : α → Value} {L1 : List HP} {L1' : α → List HP} {ψ : List PanicEntry → Prop} {fn : Func} {fo : Operand} {fid : FuncId} {caps : Array Value} {xs : List Operand} {vs : List Value} {ts : Array TypeId} (hT : TEnters cx.P fid) (hfn : cx.P.funcs[cx.f.f]? = some fn)
    (hr : Rems L1 L L') (hc : ∀ w S', St w S' L1 w → St w0 S L w → (∀ k, S' k → S k ∨ w0.heap.size ≤ k) → Calls cx.P fid (vs ++ caps.toList).toArray w (fun en w' => (∃ x, φ x ∧ en = .returned (vo x) ∧ St w S' (L1' x) w') ∨ (∃ ch, en = .panicked ch ∧ ψ ch ∧ St w S' [] w')))
    (hp : ∀ ch a w, Fits cx e a → ψ ch → St w0 S L' w → Leaves cx.P fn a.tmps R cx.ds (.panicking ch) w) (next : ∀ x, φ x → XO cx .seq ops rest k (⟨d, true, vo x⟩ :: e) (St w0 S (L1' x ++ L')) R) (hg : gcond e ops gu = some true := by rfl) (hf : opd e fo = some (true, .func (.func fid) #[] caps) := by rfl) (hx : opds e xs = some (true, vs) := by rfl) (hn : Nat.ble (d + 1) cx.n = true := by rfl) (hnr : cx.f.rnd = none := by rfl) :
    XO cx .seq ops (⟨some d, .call { callee := .value fo, args := xs.toArray, argTypes := ts }, ty, ps, af, gu⟩ :: rest) k e (St w0 S L) R := by
  refine XO.callPD (ψ := fun ch w => ψ ch ∧ St w0 S L' w) hnr hg rfl rfl hn hfn (fun a w hfit => run_call rfl hT hf hx rfl rfl hfit) (fun w hs => ?_) (fun ch a w hfit h => hp ch a w hfit h.1 h.2) next
  obtain ⟨S1, h1, h2, h3⟩ := (hs.rems hr).frame (w' := w) (L1' := [])
  refine (hc w S1 h1 hs h2).mono fun en w' h => ?_
  rcases h with ⟨x, hx, he, hst⟩ | ⟨ch, he, hψ, hst⟩
  · exact .inl ⟨x, hx, he, h3 w' _ hst⟩
  · exact .inr ⟨ch, he, hψ, h3 w' [] hst⟩
theorem panic {t : TypeId} {fn : Func} {d? : Option Nat} (hfn : cx.P.funcs[cx.f.f]? = some fn) (hR : ∀ w, σ w → R (.panicked [{ v := .iface t u, recovered := false }]) w) (hg : gcond e ops gu = some true := by rfl) (hx : opd e x = some (true, .iface t u) := by rfl) (hds : cx.ds = [] := by rfl) (hnr : cx.f.rnd = none := by rfl) : XO cx .seq ops (⟨d?, .panic x, ty, ps, af, gu⟩ :: rest) k e σ R :=
  XO.panic hnr rfl hg rfl hx rfl hds hfn hR
end
end O
end Go.X
