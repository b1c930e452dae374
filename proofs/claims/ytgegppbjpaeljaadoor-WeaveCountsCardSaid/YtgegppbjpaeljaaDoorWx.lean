/- Proved here: weave's reader reads as the plain reading does, with fuel enough; weave.Parse's deferred function: what it does behind a panic, and without one. -/
import Derived.Test.YtgegppbjpaeljaaDoorWw
import Derived.Test.YtgegppbjpaeljaaDoorWd
import Derived.Recover
import Derived.Tactics2
import Derived.StillTailTactics
import Derived.Laws.Pointers
set_option linter.unusedVariables false
set_option linter.unusedSimpArgs false
set_option maxRecDepth 10000
namespace Go.Proofs.YtgegppbjpaeljaaDoor.Wv
open Go Go.X Go.X.Wv Go.RowKit Go.Proofs.YtgegppbjpaeljaaDoor.Ty Go.Proofs.YtgegppbjpaeljaaDoor.Pl

theorem all_steps : ∀ f, OneC f ∧ BehindC f ∧ BesideC f := by
  intro f
  induction f using Nat.strongRecOn with
  | _ f ih =>
    cases f with
    | zero => exact ⟨fun _ _ _ _ _ _ _ _ _ h => absurd h (by omega), fun _ _ _ _ _ _ _ _ _ h => absurd h (by omega), fun _ _ _ _ _ _ _ _ _ h => absurd h (by omega)⟩
    | succ f => exact ⟨one_step f (ih f (by omega)).2.2, behind_step f (fun f' h => (ih f' (by omega)).1), beside_step f (fun f' h => (ih f' (by omega)).2.1)⟩
theorem reader_calls (b : Nat) (s : ByteArray) (w : World) (S : Nat → Prop) (hs : s.size ≤ 200) (hst : St w S (RD b s 0 none 0 []) w) (hE : Stable w S ErrsAt) :
    Calls Tryd.prog 34 #[.pointer (some ⟨b, 0, none⟩)] w (Out b s [] w S (beside (3 * s.data.toList.length + 3) s.data.toList)) := by
  have h := (all_steps (3 * (rest s 0).length + 3)).2.2 b s 0 none 0 [] w S ⟨Nat.zero_le _, hs, Nat.zero_le _, hst, hE⟩ (Nat.le_refl _)
  simpa [rest] using h

theorem catch_idle (b2 b3 b4 b5 : Nat) (w : World) :
    CallsD Tryd.prog 33 #[.pointer (some ⟨b2, 0, none⟩), .pointer (some ⟨b3, 0, none⟩), .pointer (some ⟨b4, 0, none⟩), .pointer (some ⟨b5, 0, none⟩)] .returning w fun e u' w' => e = .returned (.tuple #[]) ∧ u' = .returning ∧ w' = w := by
  refine callsD_of_wpS Tryd.func33 rfl fun c₀ cs hu => ?_
  apply wpS_seq
  apply wpS_region
  simp [wpOpsS, go_sem, recoverD, hu, Tryd.ntmps33, Exit.thenS]
  refine wpS_of_wp ?_
  go_wp2
  cases c₀
  simp_all [bodyPostS, results, Tryd.results33]

theorem find_all {T : Array Value} : ∀ {e : Env}, (∀ x ∈ e, T.getD x.d undef = cval x.c x.v) → ∀ d c v, Env.find e d = some (c, v) → T.getD d undef = cval c v
  | [], _, _, _, _, h => by cases h
  | ⟨d', c', v'⟩ :: r, ha, d, c, v, h => by
    simp only [Env.find] at h
    cases hb : Nat.beq d' d with
    | true =>
      rw [hb] at h
      have := Nat.eq_of_beq_eq_true hb
      subst this
      simp only [Option.some.injEq, Prod.mk.injEq] at h
      obtain ⟨rfl, rfl⟩ := h
      exact ha _ (List.mem_cons_self ..)
    | false =>
      rw [hb] at h
      exact find_all (fun x hx => ha x (List.mem_cons_of_mem _ hx)) d c v h
theorem perm_read {cx : Cx} {e : Env} {Q0 Q1 : Exit → Act → World → Prop} {S : World → Prop} {fs : List Nat} {tail ops rest : List Oper} {o : Oper} {d : Nat} {v : Value} {a : Act} {w : World} (hf : Fits cx e a) (hg : gcond e ops o.guard = some true) (hd : o.dst = some d) (hn : Nat.ble (d + 1) cx.n = true) (hv : OpV cx e true S o v)
    (next : ∀ a', Fits cx (⟨d, true, v⟩ :: e) a' → wpPerm cx.P ops.toArray Q0 Q1 S fs tail rest a' w) : wpPerm cx.P ops.toArray Q0 Q1 S fs tail (o :: rest) a w :=
  .inl ⟨v, .inl ⟨wanted_of hf hg, fun w' hs => hv a w' hf rfl hs⟩, by rw [hd]; exact next _ (hf.put (c := true) (Nat.le_of_ble_eq_true hn))⟩
theorem perm_store {cx : Cx} {e : Env} {Q0 Q1 : Exit → Act → World → Prop} {Sg : World → Prop} {fs : List Nat} {tail ops rest : List Oper} {a : Act} {w0 w : World} {S : Nat → Prop} {L L' : List HP} {t t' b : Nat} {x y : Operand} {u v : Value} {ty : TypeId} {ps : String} {af : Array Edge} (hf : Fits cx e a) (hT : TSize cx.P t 1) (hx : opd e x = some (true, .pointer (some ⟨b, 0, none⟩))) (hy : opd e y = some (true, v)) (hs : St w0 S L w)
    (hr : Rem (HP.blk b (.cells #[u] t' (0, 0))) L L') (hv : v.cells = #[v]) (hone : v.oneCell' = true) (hS : ∀ w', St w0 S (HP.blk b (.cells #[v] t' (0, 0)) :: L') w' → Sg w') (next : ∀ w', St w0 S (HP.blk b (.cells #[v] t' (0, 0)) :: L') w' → wpPerm cx.P ops.toArray Q0 Q1 Sg fs tail rest a w') : wpPerm cx.P ops.toArray Q0 Q1 Sg fs tail (⟨none, .store t x y, ty, ps, af, none⟩ :: rest) a w := by
  obtain ⟨w', h1, h2⟩ := run_storeCells_st (P := cx.P) (off := 0) [v] 0 #[u] w (hr.sats1 hs) (by simp) (by simp [hone])
  have hrun : (execOp a.eval (⟨none, .store t x y, ty, ps, af, none⟩ : Oper)).run cx.P w = .ok .skip w' := by
    simp only [execOp, Instr.storeAt, opd_eval hf hx rfl, opd_eval hf hy rfl, Instr.sureAddr, storeVar]
    simp [hT w, hv, h1]
  unfold wpPerm
  refine .inr ⟨rfl, ?_⟩
  rw [if_pos (by rfl)]
  unfold Oper.wp
  rw [hrun, Oper.upon_skip]
  exact ⟨hS w' h2, next w' h2⟩

def wrongV : Value := .iface 80 (.agg #[.int .i64 2])
noncomputable def cxCatch : Cx := ⟨Tryd.prog, 33, 16, []⟩
set_option maxHeartbeats 2000000 in
theorem catch_panicking (b2 b3 b4 b5 : Nat) (w0 w : World) (S : Nat → Prop) (x2 x3 x4 x5 : Value) (hst : St w0 S [HP.blk b2 (.cells #[x2] 33 (0, 0)), HP.blk b3 (.cells #[x3] 3 (0, 0)), HP.blk b4 (.cells #[x4] 3 (0, 0)), HP.blk b5 (.cells #[x5] 24 (0, 0))] w) :
    CallsD Tryd.prog 33 #[.pointer (some ⟨b2, 0, none⟩), .pointer (some ⟨b3, 0, none⟩), .pointer (some ⟨b4, 0, none⟩), .pointer (some ⟨b5, 0, none⟩)] (.panicking [{ v := wrongV, recovered := false }]) w fun e u' w' => e = .returned (.tuple #[]) ∧ u' = .panicking [{ v := wrongV, recovered := true }] ∧
      St w0 S [HP.blk b2 (.cells #[.slice none 0 0] 33 (0, 0)), HP.blk b3 (.cells #[.int .i64 0] 3 (0, 0)), HP.blk b4 (.cells #[.int .i64 0] 3 (0, 0)), HP.blk b5 (.cells #[.iface 78 (.int .i64 2)] 24 (0, 0))] w' := by
  have hTA : ∀ w, (Instr.typeAssert (.iface 80 (.agg #[.int .i64 2])) 20 80 true).run Tryd.prog w = .ok (.tuple #[.agg #[.int .i64 2], .bool true]) w := fun w => by kernel_rfl
  unfold wrongV
  refine callsD_of_wpS Tryd.func33 rfl fun c₀ cs hu => ?_
  apply wpS_seq
  apply wpS_region
  simp [wpOpsS, go_sem, recoverD, hu, Tryd.ntmps33, Exit.thenS]
  refine wpS_of_wp ?_
  go_wp2
  obtain ⟨_, ha⟩ := hst.alloc (.cells #[.int .i64 2] 80 (0, 0))
  generalize hbt : w.heap.size = bt at ha ⊢
  generalize hw1 : w.alloc (.cells #[.int .i64 2] 80) = w1 at ha ⊢
  clear hst hTA
  refine wp_of_perm (Q0 := fun e a w => e = .normal ∧ False) (S := St w0 S [HP.blk bt (.cells #[.int .i64 2] 80 (0, 0))]) [] [] [0, 1, 2, 3, 4, 5, 6] mixed (by kernel_rfl) (fun _ _ _ _ _ h => h) (fun _ _ _ h => h.2.elim) ((ha.drew _).perm (by repeat (first | exact Rems.nil | (apply Rems.cons; focus (repeat (first | with_reducible exact Rem.here | with_reducible apply Rem.there)))))) ?_
  simp only [permL, List.getD_cons_zero, List.getD_cons_succ]
  refine perm_read (cx := cxCatch) (e := [⟨0, true, .pointer (some ⟨b2, 0, none⟩)⟩, ⟨1, true, .pointer (some ⟨b3, 0, none⟩)⟩, ⟨2, true, .pointer (some ⟨b4, 0, none⟩)⟩, ⟨3, true, .pointer (some ⟨b5, 0, none⟩)⟩, ⟨5, true, .pointer (some ⟨bt, 0, none⟩)⟩]) ⟨by simp [cxCatch], rfl, find_all (by simp [cval])⟩ rfl rfl rfl (V.fieldB (b := bt) (i := 0) rfl td80_0 rfl (fun _ => rfl)) (fun a1 f1 => ?_)
  refine perm_read f1 rfl rfl rfl (V.load (v := .int .i64 2) rfl tf78 rfl (fun _ => rfl) (fun _ w' hs => hs.cell .here rfl)) (fun a2 f2 => ?_)
  refine perm_read f2 rfl rfl rfl (V.makeInterface rfl (by intro v w; kernel_rfl) rfl (fun _ => rfl)) (fun a3 f3 => ?_)
  refine perm_store f3 ts33 rfl rfl (ha.drew _) (.there .here) rfl rfl (fun w2 g2 => g2.perm (by repeat (first | exact Rems.nil | (apply Rems.cons; focus (repeat (first | with_reducible exact Rem.here | with_reducible apply Rem.there)))))) (fun w2 g2 => ?_)
  refine perm_store f3 ts3 rfl rfl g2 (.there (.there .here)) rfl rfl (fun w2 g2 => g2.perm (by repeat (first | exact Rems.nil | (apply Rems.cons; focus (repeat (first | with_reducible exact Rem.here | with_reducible apply Rem.there)))))) (fun w3 g3 => ?_)
  refine perm_store f3 ts3 rfl rfl g3 (.there (.there (.there .here))) rfl rfl (fun w2 g2 => g2.perm (by repeat (first | exact Rems.nil | (apply Rems.cons; focus (repeat (first | with_reducible exact Rem.here | with_reducible apply Rem.there)))))) (fun w4 g4 => ?_)
  refine perm_store f3 ts24 rfl rfl g4 (.there (.there (.there (.there .here)))) rfl rfl (fun w2 g2 => g2.perm (by repeat (first | exact Rems.nil | (apply Rems.cons; focus (repeat (first | with_reducible exact Rem.here | with_reducible apply Rem.there)))))) (fun w5 g5 => ?_)
  have hd : a3.defers = [] := f3.2.1
  have g6 := g5.perm (L1 := [HP.blk b2 (.cells #[.slice none 0 0] 33 (0, 0)), HP.blk b3 (.cells #[.int .i64 0] 3 (0, 0)), HP.blk b4 (.cells #[.int .i64 0] 3 (0, 0)), HP.blk b5 (.cells #[.iface 78 (.int .i64 2)] 24 (0, 0))]) (by repeat (first | exact Rems.nil | (apply Rems.cons; focus (repeat (first | with_reducible exact Rem.here | with_reducible apply Rem.there)))))
  show a3.defers = [] ∧ ∃ u', _ = { c₀ with mode := u' } :: cs ∧ ∃ v, (results Tryd.f33 a3.tmps).run Tryd.prog w5 = .ok v w5 ∧ _
  exact ⟨hd, _, rfl, _, results_none (by rfl) _ _ _, rfl, rfl, g6⟩
end Go.Proofs.YtgegppbjpaeljaaDoor.Wv
