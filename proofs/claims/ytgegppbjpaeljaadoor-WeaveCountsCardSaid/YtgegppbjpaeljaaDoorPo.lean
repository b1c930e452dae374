/- Proved here: plan.AfterOf, OrderOf (of a right plan), depth.WorkOf, depth.Work do what the plain laws say. -/
import Derived.Test.YtgegppbjpaeljaaDoorPw
set_option linter.unusedVariables false
set_option linter.unusedSimpArgs false
set_option maxRecDepth 10000
namespace Go.Proofs.YtgegppbjpaeljaaDoor.Pw
open Go Go.X Go.X.Pn Go.RowKit Go.Proofs.YtgegppbjpaeljaaDoor Go.Proofs.YtgegppbjpaeljaaDoor.Ty Go.Proofs.YtgegppbjpaeljaaDoor.Pl

noncomputable def cxAft : Cx := ⟨Tryd.prog, 47, 24, []⟩
theorem AfterOf_calls (A : Option Addr) (c : Nat) (ts : List TaskM) (i : Int) (w0 : World) (hp : PlanAt w0 A ts) (hl : ts.length ≤ 1000) (hn : ∀ t ∈ ts, t.needs.length ≤ maxLen) :
    Calls Tryd.prog 47 #[.slice A ts.length c, .int .i64 i] w0 fun e w' => ∃ x : Option Addr × Nat, True ∧ e = .returned (.slice x.1 (afterF (sp ts) i).length x.2) ∧ St w0 noS [HP.own 3 1 (.slice x.1 (afterF (sp ts) i).length x.2) (afterF (sp ts) i).length (ints (ofN (afterF (sp ts) i)))] w' := by
  have hsl := sp_len ts
  let F : Nat → List Nat := fun k => (List.range k).filter fun k => decide (i ∈ needs (sp ts) k)
  have hF : ∀ k, (F k).length ≤ k := fun k => filter_range_le _ k
  have hFs : ∀ k, F (k + 1) = F k ++ (if decide (i ∈ needs (sp ts) k) then [k] else []) := fun k => filter_range_succ _ k
  have hFe : F ts.length = afterF (sp ts) i := by simp only [F, afterF, hsl]
  refine calls_of_X cxAft [.slice A ts.length c, .int .i64 i] Tryd.func47 (St.nil w0) ?_
  (refine X.seq ?_)
  refine X.region ?_
  refine O.assign ?_
  refine XO.nil ?_
  (refine X.seq ?_; refine X.seq ?_)
  refine X.region ?_
  refine O.move ?_
  refine O.lenSlice tl33 ?_
  refine O.move ?_
  refine XO.nil ?_
  (refine X.block ?_)
  refine X.loop (γ := Nat × Option Addr × Nat) (fun y => y.1 ≤ ts.length) (fun y => [⟨1, true, .int .i64 i⟩, ⟨4, true, .slice y.2.1 (F y.1).length y.2.2⟩, ⟨7, true, .slice A ts.length c⟩, ⟨8, true, .int .i64 ts.length⟩, ⟨9, true, .int .i64 y.1⟩])
    (fun y => St w0 noS [HP.own 3 1 (.slice y.2.1 (F y.1).length y.2.2) (F y.1).length (ints (ofN (F y.1)))]) (fun y => ts.length - y.1) (0, none, 0) (Nat.zero_le _) (by repeat (first | exact Sub.nil | refine Sub.cons rfl (by first | rfl | simp) ?_)) (fun w hs => hs.own_nil _ _) ?_
  rintro ⟨k, A', c'⟩ hk next
  dsimp only at hk ⊢
  (refine X.seq ?_)
  refine X.region ?_
  refine O.lss ?_
  refine XO.nil ?_
  (refine X.seq ?_)
  refine X.cond rfl (fun c2 => ?_) (fun c2 => ?_)
  · have hlt : k < ts.length := by have := of_decide_eq_true c2; omega
    obtain ⟨ad, rfl⟩ := hp.addr k hlt
    have hcells := plan_cells hp k hlt
    have hneed := hp.need k hlt
    have hnk := sp_needs hlt
    have hFk := hF k
    have hFn := hFs k
    rw [hnk] at hFn
    (refine X.skip ?_; refine X.seq ?_; refine X.block ?_; refine X.seq ?_)
    refine X.region ?_
    refine O.move ?_
    (first | refine O.indexBN tl33 ?_ | refine O.indexAddrN tl33 ?_)
    refine O.loadAgg [.int .i64 ts[k].work, .slice ts[k].hA ts[k].needs.length ts[k].hc] ta46 (fun _ w hs => CellsAt.old hs hcells) ?_
    refine O.alloc tz46 (fun b6 hb6 => ?_)
    refine O.assign ?_
    refine O.store _ ts46 ?_
    refine XO.nil ?_
    (refine X.seq ?_)
    refine X.region ?_
    (first | refine O.fieldB0 td46_1 ?_ | refine O.fieldA td46_1 ?_ | refine O.fieldB td46_1 ?_)
    (first | refine O.loadB tf44 ?_ | refine O.loadO tf44 (by first | assumption | (simp only [Nat.add_zero, Nat.zero_add]; assumption)) ?_ | refine O.loadOwn tf44 ?_)
    refine O.move ?_
    refine O.callB (.bool (decide (i ∈ ts[k].needs))) te70 ?_ (hc := by intro _ w hs; exact Contains_calls _ _ _ i w (hneed.st hs) (hn _ (List.getElem_mem hlt)))
    refine XO.nil ?_
    refine X.cond rfl (fun c4 => ?_) (fun c4 => ?_)
    · refine X.region ?_
      refine O.move ?_
      refine O.move ?_
      refine O.buildSlice 3 #[.int .i64 k] (fun g hg => ?_)
      refine O.append [.int .i64 k] 1 tl44 elemInt (hsrc := fun w hs => Src.ofBlk tl44.1 hs .here rfl rfl) (h63 := by simp only [maxLen]; omega) (hbytes := by omega) (next := fun A2 c2 => ?_)
      refine O.assign ?_
      refine XO.nil ?_
      (refine X.inBlock ?_)
      rw [if_pos c4] at hFn
      rw [show (F k).length + 1 = (F (k + 1)).length from by rw [hFn]; simp, show ints (ofN (F k)) ++ [.int .i64 (k : Int)] = ints (ofN (F (k + 1))) from by rw [hFn]; simp [ints, ofN]]
      refine X.region ?_
      refine O.add ?_
      refine O.move ?_
      refine XO.nil ?_
      refine X.st (fun w hs => ?_) (X.sub (by repeat (first | exact Sub.nil | refine Sub.cons rfl (by first | rfl | simp) ?_)) (next (k + 1, A2, c2) hlt (by dsimp only; omega)))
      exact hs.perm (by repeat (first | exact Rems.nil | (apply Rems.cons; focus (repeat (first | with_reducible exact Rem.here | with_reducible apply Rem.there)))))
    · (refine X.skip ?_; refine X.inBlock ?_)
      rw [if_neg (by rw [c4]; decide), List.append_nil] at hFn
      rw [show (F k).length = (F (k + 1)).length from by rw [hFn], show ints (ofN (F k)) = ints (ofN (F (k + 1))) from by rw [hFn]]
      refine X.region ?_
      refine O.add ?_
      refine O.move ?_
      refine XO.nil ?_
      refine X.st (fun w hs => ?_) (X.sub (by repeat (first | exact Sub.nil | refine Sub.cons rfl (by first | rfl | simp) ?_)) (next (k + 1, A', c') hlt (by dsimp only; omega)))
      exact hs.perm (by repeat (first | exact Rems.nil | (apply Rems.cons; focus (repeat (first | with_reducible exact Rem.here | with_reducible apply Rem.there)))))
  · (refine X.exit rfl ?_; refine X.seq ?_)
    refine X.region ?_
    refine O.move ?_
    refine O.assign ?_
    refine XO.nil ?_
    refine X.ret1 Tryd.func47 ?_
    obtain rfl : k = ts.length := by have := of_decide_eq_false c2; omega
    rw [hFe]
    exact fun w' hs => ⟨(A', c'), trivial, rfl, hs⟩

noncomputable def cxO1 : Cx := ⟨Tryd.prog, 67, 9, []⟩
theorem order1_calls (b : Nat) (sd : Addr) (done : List Bool) (k : Int) (w0 : World) (hc : w0.cell? ⟨b, 0, none⟩ = some (.slice (some sd) done.length done.length)) (hd : Reads w0 (some sd) (bools done)) (h0 : 0 ≤ k) (h1 : k < (done.length : Int)) :
    Calls Tryd.prog 67 #[.int .i64 k, .pointer (some ⟨b, 0, none⟩)] w0 fun e w' => e = .returned (.bool (!done.getD k.toNat false)) ∧ Below w0.heap.size w0 w' := by
  have hv := hd.at_ (bools_getD (l := done) (i := k.toNat) (by omega))
  refine calls_of_X cxO1 [.int .i64 k, .pointer (some ⟨b, 0, none⟩)] Tryd.func67 (St.nil w0) ?_
  (refine X.seq ?_)
  refine X.region ?_
  refine O.assign ?_
  refine XO.nil ?_
  (refine X.seq ?_)
  refine X.region ?_
  refine O.loadO tf55 hc ?_
  refine O.move ?_
  refine O.indexAddrN (kk := k.toNat) tl55 ?_ (hk := Nat.mul_one _)
  refine O.loadO tf4 hv ?_
  refine O.not ?_
  refine O.assign ?_
  refine XO.nil ?_
  refine X.ret1 Tryd.func67 ?_
  exact fun w' hs => ⟨rfl, hs.below⟩
theorem any_all (l : List Int) (done : List Bool) : (!l.any fun k => !done.getD k.toNat false) = l.all fun k => done.getD k.toNat false := by
  induction l with
  | nil => rfl
  | cons a r ih => simp only [List.any_cons, List.all_cons, Bool.not_or, Bool.not_not, ← ih]
noncomputable def cxOrd : Cx := ⟨Tryd.prog, 44, 42, []⟩
theorem OrderOf_calls (A : Option Addr) (c : Nat) (ts : List TaskM) (w0 : World) (hp : PlanAt w0 A ts) (hok : Ok (sp ts)) :
    Calls Tryd.prog 44 #[.slice A ts.length c] w0 fun e w' => ∃ x : Option Addr × Nat, True ∧ e = .returned (.slice x.1 (orderF (sp ts)).length x.2) ∧ St w0 noS [HP.own 3 1 (.slice x.1 (orderF (sp ts)).length x.2) (orderF (sp ts)).length (ints (ofN (orderF (sp ts))))] w' := by
  have hsl := sp_len ts
  have hl30 := hok.len
  rw [hsl] at hl30
  refine calls_of_X cxOrd [.slice A ts.length c] Tryd.func44 (St.nil w0) ?_
  (refine X.seq ?_)
  refine X.region ?_
  refine O.assign ?_
  refine XO.nil ?_
  (refine X.seq ?_)
  refine X.region ?_
  refine O.move ?_
  refine O.lenSlice tl33 ?_
  refine O.makeSlice (n := ts.length) tl55 elemBool rfl (by simp only [maxLen]; omega) (by omega) (fun sd => ?_)
  refine O.alloc tz55 (fun b3 hb3 => ?_)
  refine O.store _ ts55 ?_
  refine XO.nil ?_
  (refine X.seq ?_; refine X.block ?_)
  refine X.loop (γ := List Bool × List Nat × Option Addr × Nat) (fun y => y.1.length = ts.length ∧ y.2.1.length ≤ ts.length ∧ y.1.count true = y.2.1.length ∧ orderF (sp ts) = orderGo (sp ts) (ts.length - y.2.1.length) y.1 y.2.1)
    (fun y => [⟨0, true, .slice A ts.length c⟩, ⟨2, true, .slice y.2.2.1 y.2.1.length y.2.2.2⟩, ⟨3, true, .pointer (some ⟨b3, 0, none⟩)⟩])
    (fun y => St w0 noS [HP.blk b3 (.cells #[.slice (some sd) ts.length ts.length] 55 (0, 0)), HP.own 4 1 (.slice (some sd) ts.length ts.length) ts.length (bools y.1), HP.own 3 1 (.slice y.2.2.1 y.2.1.length y.2.2.2) y.2.1.length (ints (ofN y.2.1))]) (fun y => ts.length - y.2.1.length) (List.replicate ts.length false, [], none, 0)
    ⟨by simp, Nat.zero_le _, by simp [List.count_replicate], by unfold orderF; rw [hsl]; rfl⟩ (by repeat (first | exact Sub.nil | refine Sub.cons rfl (by first | rfl | simp) ?_)) (fun w hs => by
      simp only [List.length_nil, show ints (ofN []) = [] from rfl]
      rw [show bools (List.replicate ts.length false) = List.replicate ts.length (.bool false) from by simp [bools]]
      exact (hs.own_nil 3 1).perm (by repeat (first | exact Rems.nil | (apply Rems.cons; focus (repeat (first | with_reducible exact Rem.here | with_reducible apply Rem.there)))))) ?_
  rintro ⟨done, o, oA, oc⟩ ⟨d1, d2, d3, d4⟩ nextO
  dsimp only at d1 d2 d3 d4 ⊢
  (refine X.seq ?_; refine X.seq ?_)
  refine X.region ?_
  refine O.move ?_
  refine O.lenSlice tl44 ?_
  refine O.move ?_
  refine O.lenSlice tl33 ?_
  refine O.lss ?_
  refine XO.nil ?_
  refine X.cond rfl (fun c2 => ?_) (fun c2 => ?_)
  · have hlt2 : o.length < ts.length := by have := of_decide_eq_true c2; omega
    obtain ⟨ir, hir, hird⟩ := hok.next done (by omega) (by omega)
    (refine X.skip ?_; refine X.block ?_; refine X.seq ?_)
    refine X.region ?_
    refine O.move ?_
    refine O.lenSlice tl33 ?_
    refine O.move ?_
    refine XO.nil ?_
    (refine X.block ?_)
    refine X.loop (γ := Nat) (fun j => j ≤ ts.length ∧ ∀ i, i < j → readyB (sp ts) done i = false) (fun j => [⟨0, true, .slice A ts.length c⟩, ⟨2, true, .slice oA o.length oc⟩, ⟨3, true, .pointer (some ⟨b3, 0, none⟩)⟩, ⟨14, true, .slice A ts.length c⟩, ⟨15, true, .int .i64 ts.length⟩, ⟨16, true, .int .i64 j⟩])
      (fun j => St w0 noS [HP.blk b3 (.cells #[.slice (some sd) ts.length ts.length] 55 (0, 0)), HP.own 4 1 (.slice (some sd) ts.length ts.length) ts.length (bools done), HP.own 3 1 (.slice oA o.length oc) o.length (ints (ofN o))]) (fun j => ts.length - j) 0 ⟨Nat.zero_le _, fun i h => absurd h (by omega)⟩ (by repeat (first | exact Sub.nil | refine Sub.cons rfl (by first | rfl | simp) ?_)) (fun w hs => hs.perm (by repeat (first | exact Rems.nil | (apply Rems.cons; focus (repeat (first | with_reducible exact Rem.here | with_reducible apply Rem.there)))))) ?_
    rintro j ⟨j1, j2⟩ next
    try dsimp only at j1 j2 ⊢
    (refine X.seq ?_)
    refine X.region ?_
    refine O.lss ?_
    refine XO.nil ?_
    (refine X.seq ?_)
    refine X.cond rfl (fun c4 => ?_) (fun c4 => ?_)
    · have hlt : j < ts.length := by have := of_decide_eq_true c4; omega
      obtain ⟨ad, rfl⟩ := hp.addr j hlt
      have hcells := plan_cells hp j hlt
      have hneed := hp.need j hlt
      have hnk := sp_needs hlt
      have hnr := fun k hk => hok.need (i := j) (by omega) (k := k) hk
      have hnl := hok.needs_len (i := j) (by omega)
      rw [hnk] at hnr hnl
      rw [hsl] at hnr
      have hsv := bools_getD (l := done) (i := j) (by omega)
      have hrd : readyB (sp ts) done j = (!done.getD j false && !ts[j].needs.any fun k => !done.getD k.toNat false) := by rw [readyB, hnk, any_all]
      (refine X.skip ?_; refine X.seq ?_; refine X.block ?_; refine X.seq ?_)
      refine X.region ?_
      refine O.move ?_
      (first | refine O.indexBN tl33 ?_ | refine O.indexAddrN tl33 ?_)
      refine O.loadAgg [.int .i64 ts[j].work, .slice ts[j].hA ts[j].needs.length ts[j].hc] ta46 (fun _ w hs => CellsAt.old hs hcells) ?_
      refine O.alloc tz46 (fun b5 hb5 => ?_)
      refine O.assign ?_
      refine O.store _ ts46 ?_
      refine XO.nil ?_
      (refine X.seq ?_)
      refine X.region ?_
      (first | refine O.loadB tf55 ?_ | refine O.loadO tf55 (by first | assumption | (simp only [Nat.add_zero, Nat.zero_add]; assumption)) ?_ | refine O.loadOwn tf55 ?_)
      refine O.move ?_
      (first | refine O.indexBN tl55 ?_ | refine O.indexAddrN tl55 ?_)
      refine O.loadOwn tf4 ?_ (hv := hsv)
      refine O.not ?_
      refine O.move ?_
      (first | refine O.fieldB0 td46_1 ?_ | refine O.fieldA td46_1 ?_ | refine O.fieldB td46_1 ?_)
      (first | refine O.loadB tf44 ?_ | refine O.loadO tf44 (by first | assumption | (simp only [Nat.add_zero, Nat.zero_add]; assumption)) ?_ | refine O.loadOwn tf44 ?_)
      refine O.makeFunc ?_
      refine O.callB (.bool (ts[j].needs.any fun k => !done.getD k.toNat false)) te66 ?_ (hcx := by intro h; simpa using h) (hc := by
        intro _ w hs
        exact ContainsFunc_calls _ _ _ 67 [.pointer (some ⟨b3, 0, none⟩)] _ w (hneed.st hs) (by simp only [maxLen]; omega) te67 (fun k hk w' hb => order1_calls b3 sd done k w' (by
        rw [d1]
        exact (hb.cell (World.block_lt_of_cell? w _ (hs.cell (by repeat (first | with_reducible exact Rem.here | with_reducible apply Rem.there)) rfl))).trans (hs.cell (by repeat (first | with_reducible exact Rem.here | with_reducible apply Rem.there)) rfl)) ((hs.own_reads (A := some sd) (n := ts.length) (c := ts.length) (el := 4) (sz := 1) (cs := bools done) (by repeat (first | with_reducible exact Rem.here | with_reducible apply Rem.there))).below hb) (hnr k hk).1 (by rw [d1]; exact (hnr k hk).2)))
      refine O.not ?_
      refine O.pickAnd ?_
      refine XO.nil ?_
      refine X.cond rfl (fun c6 => ?_) (fun c6 => ?_)
      · have hjr : readyB (sp ts) done j = true := by rw [hrd]; exact c6
        have hnx := nextF_of (by omega) hjr j2
        have hdj : done.getD j false = false := by
          simp only [readyB, Bool.and_eq_true, Bool.not_eq_true'] at hjr
          exact hjr.1
        have hct := count_set done j (by omega) hdj
        (refine X.seq ?_)
        refine X.region ?_
        (first | refine O.loadB tf55 ?_ | refine O.loadO tf55 (by first | assumption | (simp only [Nat.add_zero, Nat.zero_add]; assumption)) ?_ | refine O.loadOwn tf55 ?_)
        refine O.move ?_
        (first | refine O.indexBN tl55 ?_ | refine O.indexAddrN tl55 ?_)
        refine O.storeOwn (i := j) (bools (done.set j true)) ts4 (hi := by simp [bools]; omega) (hcs := bools_set _ _ _) (next := ?_)
        refine XO.nil ?_
        (refine X.seq ?_)
        refine X.region ?_
        refine O.move ?_
        refine O.move ?_
        refine O.buildSlice 3 #[.int .i64 j] (fun g hg => ?_)
        refine O.append [.int .i64 j] 1 tl44 elemInt (hsrc := fun w hs => Src.ofBlk tl44.1 hs .here rfl rfl) (h63 := by simp only [maxLen]; omega) (hbytes := by omega) (next := fun A2 c2 => ?_)
        refine O.assign ?_
        refine XO.nil ?_
        (refine X.exit rfl ?_; refine X.inBlock ?_)
        rw [show o.length + 1 = (o ++ [j]).length from by simp, show ints (ofN o) ++ [.int .i64 (j : Int)] = ints (ofN (o ++ [j])) from by simp [ints, ofN]]
        refine X.st (fun w hs => ?_) (X.sub (by repeat (first | exact Sub.nil | refine Sub.cons rfl (by first | rfl | simp) ?_)) (nextO (done.set j true, o ++ [j], A2, c2) ⟨by simpa using d1, by simp; omega, by rw [hct, d3]; simp, ?_⟩ (by simp; omega)))
        · exact hs.perm (by repeat (first | exact Rems.nil | (apply Rems.cons; focus (repeat (first | with_reducible exact Rem.here | with_reducible apply Rem.there)))))
        · rw [d4, show ts.length - o.length = (ts.length - (o ++ [j]).length) + 1 from by simp; omega, orderGo, hnx]
      · (refine X.skip ?_; refine X.inBlock ?_)
        refine X.region ?_
        refine O.add ?_
        refine O.move ?_
        refine XO.nil ?_
        refine X.st (fun w hs => hs.perm (by repeat (first | exact Rems.nil | (apply Rems.cons; focus (repeat (first | with_reducible exact Rem.here | with_reducible apply Rem.there)))))) (X.sub (by repeat (first | exact Sub.nil | refine Sub.cons rfl (by first | rfl | simp) ?_)) (next (j + 1) (⟨hlt, fun i hi => if h5 : i < j then j2 i h5 else (by obtain rfl : i = j := (by omega); rw [hrd]; exact c6)⟩) (by omega)))
    · (refine X.exit rfl ?_; refine X.inBlock ?_)
      have := j2 ir (by have := of_decide_eq_false c4; omega)
      rw [hird] at this
      cases this
  · (refine X.exit rfl ?_; refine X.seq ?_)
    refine X.region ?_
    refine O.move ?_
    refine O.assign ?_
    refine XO.nil ?_
    refine X.ret1 Tryd.func44 ?_
    have hlen : o.length = ts.length := by have := of_decide_eq_false c2; omega
    rw [hlen, Nat.sub_self] at d4
    have d5 : orderF (sp ts) = o := d4
    rw [d5]
    exact fun w' hs => ⟨(oA, oc), trivial, rfl, hs.perm (by repeat (first | exact Rems.nil | (apply Rems.cons; focus (repeat (first | with_reducible exact Rem.here | with_reducible apply Rem.there)))))⟩
noncomputable def cxWO : Cx := ⟨Tryd.prog, 39, 18, []⟩
def workL (p : Plan) : Int := (p.map (·.1)).sum
theorem workL_take {p : Plan} {k : Nat} (h : k < p.length) : workL (p.take (k + 1)) = workL (p.take k) + (tk p k).1 := by
  unfold workL
  rw [List.take_add_one, List.map_append, List.sum_append]
  simp [tk, h]
theorem workL_bound {p : Plan} (hok : Ok p) : ∀ k, k ≤ p.length → 0 ≤ workL (p.take k) ∧ workL (p.take k) ≤ 20 * k := by
  intro k
  induction k with
  | zero => intro _; simp [workL]
  | succ k ih =>
    intro hk
    have h1 := ih (by omega)
    have h2 := hok.work (i := k) (by omega)
    rw [workL_take (by omega)]
    omega
theorem WorkOf_calls (A : Option Addr) (c : Nat) (ts : List TaskM) (w0 : World) (hp : PlanAt w0 A ts) (hok : Ok (sp ts)) :
    Calls Tryd.prog 39 #[.slice A ts.length c] w0 fun e w' => e = .returned (.int .i64 (workL (sp ts))) ∧ Below w0.heap.size w0 w' := by
  have hsl := sp_len ts
  have hl30 := hok.len
  rw [hsl] at hl30
  refine calls_of_X cxWO [.slice A ts.length c] Tryd.func39 (St.nil w0) ?_
  (refine X.seq ?_)
  refine X.region ?_
  refine O.assign ?_
  refine XO.nil ?_
  (refine X.seq ?_)
  refine X.region ?_
  refine O.assign ?_
  refine XO.nil ?_
  (refine X.seq ?_; refine X.seq ?_)
  refine X.region ?_
  refine O.move ?_
  refine O.lenSlice tl33 ?_
  refine O.move ?_
  refine XO.nil ?_
  (refine X.block ?_)
  refine X.loop (γ := Nat) (fun k => k ≤ ts.length) (fun k => [⟨3, true, .int .i64 (workL ((sp ts).take k))⟩, ⟨6, true, .slice A ts.length c⟩, ⟨7, true, .int .i64 ts.length⟩, ⟨8, true, .int .i64 k⟩]) (fun k => St w0 noS []) (fun k => ts.length - k) (0) (Nat.zero_le _) (by repeat (first | exact Sub.nil | refine Sub.cons rfl (by first | rfl | simp) ?_)) (fun _ h => h) ?_
  rintro k hk next
  try dsimp only at *
  (refine X.seq ?_)
  refine X.region ?_
  refine O.lss ?_
  refine XO.nil ?_
  (refine X.seq ?_)
  refine X.cond rfl (fun c3 => ?_) (fun c3 => ?_)
  · have hlt : k < ts.length := by have := of_decide_eq_true c3; omega
    obtain ⟨ad, rfl⟩ := hp.addr k hlt
    have hcells := plan_cells hp k hlt
    have hb := workL_bound hok k (by omega)
    have hw := hok.work (i := k) (by omega)
    have hs1 := workL_take (p := sp ts) (k := k) (by omega)
    rw [sp_tk hlt] at hw hs1
    dsimp only at hw hs1
    (refine X.skip ?_; refine X.seq ?_; refine X.block ?_; refine X.seq ?_)
    refine X.region ?_
    (first | refine O.indexBN tl33 ?_ | refine O.indexAddrN tl33 ?_)
    refine O.loadAgg [.int .i64 ts[k].work, .slice ts[k].hA ts[k].needs.length ts[k].hc] ta46 (fun _ w hs => CellsAt.old hs hcells) ?_
    refine O.alloc tz46 (fun b5 hb5 => ?_)
    refine O.store _ ts46 ?_
    refine XO.nil ?_
    refine X.region ?_
    refine O.move ?_
    (first | refine O.fieldB0 td46_0 ?_ | refine O.fieldA td46_0 ?_ | refine O.fieldB td46_0 ?_)
    (first | refine O.loadB tf3 ?_ | refine O.loadO tf3 (by first | assumption | (simp only [Nat.add_zero, Nat.zero_add]; assumption)) ?_ | refine O.loadOwn tf3 ?_)
    refine O.add ?_
    rw [← hs1]
    refine O.assign ?_
    refine XO.nil ?_
    (refine X.inBlock ?_)
    refine X.region ?_
    refine O.add ?_
    refine O.move ?_
    refine XO.nil ?_
    refine X.st (fun w hs => hs.drop1) (X.sub (by repeat (first | exact Sub.nil | refine Sub.cons rfl (by first | rfl | simp) ?_)) (next (k + 1) (hlt) (by omega)))
  · (refine X.exit rfl ?_; refine X.seq ?_)
    refine X.region ?_
    refine O.move ?_
    refine O.assign ?_
    refine XO.nil ?_
    refine X.ret1 Tryd.func39 ?_
    obtain rfl : k = ts.length := by have := of_decide_eq_false c3; omega
    exact fun w' hs => ⟨by rw [← hsl, List.take_length], hs.below⟩
noncomputable def cxWk : Cx := ⟨Tryd.prog, 16, 12, []⟩
theorem Work_calls (A : Option Addr) (c : Nat) (ts : List TaskM) (w0 : World) (hp : PlanAt w0 A ts) (hl : ts.length ≤ maxLen) (hn : ∀ t ∈ ts, t.needs.length ≤ maxLen) :
    Calls Tryd.prog 16 #[.slice A ts.length c] w0 fun e w' => e = .returned (.tuple #[.int .i64 (if rightF (sp ts) = 0 then workL (sp ts) else 0), errV (rightF (sp ts))]) ∧ Below w0.heap.size w0 w' := by
  refine calls_of_X cxWk [.slice A ts.length c] Tryd.func16 (St.nil w0) ?_
  (refine X.seq ?_)
  refine X.region ?_
  refine O.assign ?_
  refine O.assign ?_
  refine XO.nil ?_
  (refine X.seq ?_; refine X.seq ?_)
  refine X.region ?_
  refine O.move ?_
  refine O.callB (errV (rightF (sp ts))) te38 ?_ (hc := by intro _ w hs; exact Right_calls A c ts w (hp.st hs) hl hn)
  refine O.assign ?_
  refine XO.nil ?_
  (refine X.seq ?_)
  refine X.region ?_
  refine O.move ?_
  (first | refine Go.Proofs.YtgegppbjpaeljaaDoor.O.neErr ?_ | refine O.neNil ?_ | refine O.nilNe ?_)
  refine XO.nil ?_
  refine X.cond rfl (fun c2 => ?_) (fun c2 => ?_)
  · (refine X.seq ?_)
    refine X.region ?_
    refine O.move ?_
    refine O.assign ?_
    refine O.assign ?_
    refine XO.nil ?_
    refine X.ret2 Tryd.func16 ?_
    exact fun w' hs => ⟨by rw [if_neg (by simpa using c2)], hs.below⟩
  · have h0 : rightF (sp ts) = 0 := by simpa using c2
    (refine X.skip ?_; refine X.seq ?_)
    refine X.region ?_
    refine O.move ?_
    refine O.callB (.int .i64 (workL (sp ts))) te39 ?_ (hc := by intro _ w hs; exact WorkOf_calls A c ts w (hp.st hs) (ok_iff.1 h0))
    refine O.assign ?_
    refine O.assign ?_
    refine XO.nil ?_
    refine X.ret2 Tryd.func16 ?_
    exact fun w' hs => ⟨by rw [h0]; rfl, hs.below⟩
end Go.Proofs.YtgegppbjpaeljaaDoor.Pw
