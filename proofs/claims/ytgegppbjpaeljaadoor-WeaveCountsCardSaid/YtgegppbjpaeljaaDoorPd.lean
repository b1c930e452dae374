/- Proved here: slices.Backward, depth.TailsOf, SpanOf, Span do what the plain laws say. -/
import Derived.Test.YtgegppbjpaeljaaDoorPo
import Derived.Test.YtgegppbjpaeljaaDoorPq
import Derived.Test.YtgegppbjpaeljaaDoorRf
set_option linter.unusedVariables false
set_option linter.unusedSimpArgs false
set_option maxRecDepth 10000
namespace Go.Proofs.YtgegppbjpaeljaaDoor.Pw
open Go Go.X Go.X.Pn Go.RowKit Go.Proofs.YtgegppbjpaeljaaDoor Go.Proofs.YtgegppbjpaeljaaDoor.Ty Go.Proofs.YtgegppbjpaeljaaDoor.Pl

noncomputable def cxBw : Cx := ⟨Tryd.prog, 84, 4, []⟩
theorem Backward_calls (A : Option Addr) (n c : Nat) (w0 : World) :
    Calls Tryd.prog 84 #[.slice A n c] w0 fun e w' => ∃ b : Nat, True ∧ e = .returned (.func (.func 104) #[] #[.pointer (some ⟨b, 0, none⟩)]) ∧ St w0 noS [HP.blk b (.cells #[.slice A n c] 44 (0, 0))] w' := by
  refine calls_of_X cxBw [.slice A n c] Tryd.func84 (St.nil w0) ?_
  (refine X.seq ?_)
  refine X.region ?_
  refine O.box (fun bb hbb => ?_)
  refine O.assign ?_
  refine XO.nil ?_
  (refine X.seq ?_)
  refine X.region ?_
  refine O.makeFunc ?_
  refine O.assign ?_
  refine XO.nil ?_
  refine X.ret1 Tryd.func84 ?_
  exact fun w' hs => ⟨bb, trivial, rfl, hs⟩

def bwAt (o : List Nat) (j : Nat) : List Value := [.int .i64 ((o.length - 1 - j : Nat) : Int), .int .i64 ((o.getD (o.length - 1 - j) 0 : Nat) : Int)]
noncomputable def cxBw1 : Cx := ⟨Tryd.prog, 104, 19, []⟩
theorem Backward1_calls (l : Nat) (Inv : Nat → World → Prop) (b : Nat) (A : Option Addr) (c : Nat) (o : List Nat) (hl : o.length ≤ maxLen)
    (hrd : ∀ j w, Inv j w → w.cell? ⟨b, 0, none⟩ = some (.slice A o.length c) ∧ Reads w A (ints (ofN o)))
    (hround : ∀ j, j < o.length → ∀ w, Inv j w → YieldAt Fence.wide 0 Tryd.prog l (bwAt o j).toArray w fun en w' => en = .returned (.bool true) ∧ Inv (j + 1) w') :
    ∀ w, Inv 0 w → Calls Tryd.prog 104 [.func (.yield l) #[] #[], .pointer (some ⟨b, 0, none⟩)].toArray w fun en w' => (∃ v, en = .returned v) ∧ Inv o.length w' := by
  intro w0 h0
  simp only [maxLen] at hl
  refine calls_of_X cxBw1 [.func (.yield l) #[] #[], .pointer (some ⟨b, 0, none⟩)] Tryd.func104 (σ := Inv 0) h0 ?_
  (refine X.seq ?_)
  refine X.region ?_
  refine O.loadI tf44 (fun w hs => (hrd _ w hs).1) ?_
  refine O.lenSlice tl44 ?_
  refine O.sub ?_
  refine O.assign ?_
  refine XO.nil ?_
  (refine X.block ?_)
  refine X.loop (γ := Nat) (fun j => j ≤ o.length) (fun j => [⟨0, true, .func (.yield l) #[] #[]⟩, ⟨1, true, .pointer (some ⟨b, 0, none⟩)⟩, ⟨3, true, .int .i64 ((o.length : Int) - 1 - (j : Int))⟩]) (fun j => Inv j) (fun j => o.length - j) 0 (Nat.zero_le _) (by repeat (first | exact Sub.nil | refine Sub.cons rfl (by first | rfl | simp) ?_)) (fun w h => h) ?_
  rintro j hj next
  try dsimp only at hj ⊢
  (refine X.seq ?_; refine X.seq ?_)
  refine X.region ?_
  refine O.move ?_
  refine O.geq ?_
  refine XO.nil ?_
  refine X.cond rfl (fun c1 => ?_) (fun c1 => ?_)
  · have hlt : j < o.length := by have := of_decide_eq_true c1; omega
    have hidx : (o.length : Int) - 1 - (j : Int) = ((o.length - 1 - j : Nat) : Int) := by omega
    refine X.fact (fun w hs => (hrd _ w hs).2.addr (j := o.length - 1 - j) (by simp [ints]; omega)) (fun hA => ?_)
    obtain ⟨ad, rfl⟩ := hA
    have hget : (ints (ofN o))[o.length - 1 - j]? = some (.int .i64 ((o.getD (o.length - 1 - j) 0 : Nat) : Int)) := by
      have h9 : o.length - 1 - j < o.length := by omega
      simp [ints, ofN, List.getD, h9]
    rw [hidx]
    (refine X.skip ?_; refine X.seq ?_; refine X.block ?_; refine X.seq ?_)
    refine X.regionY ?_
    refine O.move ?_
    refine O.move ?_
    refine O.loadI tf44 (fun w hs => (hrd _ w hs).1) ?_
    refine O.move ?_
    refine O.indexAddrN (kk := o.length - 1 - j) tl44 ?_ (hk := by simp)
    refine O.loadI tf3 (fun w hs => (hrd _ w hs).2.at_ hget) ?_
    refine XO.yield (v := .bool true) (σ' := Inv (j + 1)) (fun w hs => hround j hlt w hs) ?_
    refine O.not ?_
    refine XO.nilI ?_
    refine X.condF rfl rfl ?_
    (refine X.skip ?_; refine X.inBlock ?_)
    refine X.region ?_
    refine O.move ?_
    refine O.sub ?_
    refine O.assign ?_
    refine XO.nil ?_
    rw [show (((o.length - 1 - j : Nat) : Int) - 1) = (o.length : Int) - 1 - ((j + 1 : Nat) : Int) from by omega]
    exact X.sub (by repeat (first | exact Sub.nil | refine Sub.cons rfl (by first | rfl | simp) ?_)) (next (j + 1) hlt (by omega))
  · (refine X.exit rfl ?_)
    refine X.fin0 Tryd.func104 ?_
    obtain rfl : j = o.length := by have := of_decide_eq_false c1; omega
    exact fun w hs => ⟨⟨_, rfl⟩, hs⟩
theorem bw_take (o : List Nat) (j : Nat) (h : j < o.length) : o.reverse[j]'(by simpa using h) = o.getD (o.length - 1 - j) 0 := by
  have h9 : o.length - 1 - j < o.length := by omega
  rw [List.getElem_reverse]
  simp [List.getD, h9]
theorem ints_getD {l : List Int} {i : Nat} (h : i < l.length) : (ints l)[i]? = some (.int .i64 (l.getD i 0)) := by simp [ints, List.getD, h]
theorem ints_set (l : List Int) (i : Nat) (b : Int) : (ints l).set i (.int .i64 b) = ints (l.set i b) := by simp [ints, List.map_set]
theorem set_getD_self (l : List Int) (i : Nat) : l.set i (l.getD i 0) = l := by
  apply List.ext_getElem?
  intro k
  rw [List.getElem?_set]
  split
  · rename_i h
    subst h
    split
    · rename_i h2
      simp [List.getD, h2]
    · rename_i h2
      simp [List.getElem?_eq_none (Nat.le_of_not_lt h2)]
  · rfl
noncomputable def cxTl : Cx := ⟨Tryd.prog, 61, 49, []⟩
set_option maxHeartbeats 400000 in
theorem TailsOf_calls (A : Option Addr) (c : Nat) (ts : List TaskM) (w0 : World) (hp : PlanAt w0 A ts) (hok : Ok (sp ts)) :
    Calls Tryd.prog 61 #[.slice A ts.length c] w0 fun e w' => ∃ x : Addr, True ∧ e = .returned (.slice (some x) ts.length ts.length) ∧ St w0 noS [HP.own 3 1 (.slice (some x) ts.length ts.length) ts.length (ints (tailsF (sp ts)))] w' := by
  have hsl := sp_len ts
  have hl30 := hok.len
  rw [hsl] at hl30
  have hneeds : ∀ t ∈ ts, t.needs.length ≤ maxLen := fun t ht => by
    obtain ⟨i, hi, rfl⟩ := List.mem_iff_getElem.1 ht
    have h1 := hok.needs_len (i := i) (by omega)
    rw [sp_needs hi] at h1
    simp only [maxLen]
    omega
  obtain ⟨o, ho⟩ : ∃ o, orderF (sp ts) = o := ⟨_, rfl⟩
  have holt : ∀ k ∈ o, k < ts.length := by rw [← ho, ← hsl]; exact orderF_lt
  have holn : o.length ≤ ts.length := by rw [← ho, ← hsl]; exact orderF_len
  obtain ⟨T, hT⟩ : ∃ T : Nat → List Int, ∀ j, T j = tailsGo (sp ts) (o.reverse.take j) (List.replicate ts.length 0) := ⟨fun j => _, fun j => rfl⟩
  have hT0 : T 0 = List.replicate ts.length 0 := by rw [hT, List.take_zero]; rfl
  have hTl : ∀ j, (T j).length = ts.length := fun j => by rw [hT, tailsGo_len]; simp
  have hTb : ∀ j, j ≤ o.length → Bnd (20 * j) (T j) := fun j hj => by
    have h1 := Bnd.go hok (o.reverse.take j) (List.replicate ts.length 0) 0 (fun k hk => by rw [hsl]; exact holt k (List.mem_reverse.1 (List.mem_of_mem_take hk))) (Bnd.zero _)
    rw [hT]
    refine h1.mono ?_
    simp only [List.length_take, List.length_reverse]
    omega
  have hTs : ∀ j, j < o.length → T (j + 1) = tailStep (sp ts) (T j) (o.getD (o.length - 1 - j) 0) := fun j hj => by
    rw [hT, hT, tailsGo_take (by simpa using hj), bw_take o j hj]
  have hTe : T o.length = tailsF (sp ts) := by
    rw [hT, tailsF, ho, hsl, List.take_of_length_le (by simp)]
  have hOrd : ∀ w, PlanAt w A ts → Calls Tryd.prog 44 #[.slice A ts.length c] w fun e w' => ∃ x : Option Addr × Nat, True ∧ e = .returned (.slice x.1 o.length x.2) ∧ St w noS [HP.own 3 1 (.slice x.1 o.length x.2) o.length (ints (ofN o))] w' := fun w hw => by
    have h := OrderOf_calls A c ts w hw hok
    rw [ho] at h
    exact h
  refine calls_of_X cxTl [.slice A ts.length c] Tryd.func61 (St.nil w0) ?_
  (refine X.seq ?_)
  refine X.region ?_
  refine O.box (fun b1 hb1 => ?_)
  refine O.assign ?_
  refine XO.nil ?_
  (refine X.seq ?_)
  refine X.region ?_
  (first | refine O.loadB tf33 ?_ | refine O.loadO tf33 (by first | assumption | (simp only [Nat.add_zero, Nat.zero_add]; assumption)) ?_ | refine O.loadOwn tf33 ?_)
  refine O.lenSlice tl33 ?_
  refine O.makeSlice (n := ts.length) tl44 elemInt rfl (by simp only [maxLen]; omega) (by omega) (fun sd => ?_)
  refine O.alloc tz44 (fun b3 hb3 => ?_)
  refine O.store _ ts44 ?_
  refine XO.nil ?_
  (refine X.seq ?_; refine X.seq ?_)
  refine X.region ?_
  (first | refine O.loadB tf33 ?_ | refine O.loadO tf33 (by first | assumption | (simp only [Nat.add_zero, Nat.zero_add]; assumption)) ?_ | refine O.loadOwn tf33 ?_)
  refine O.callN (α := Option Addr × Nat) (φ := fun _ => True) (vo := fun x => .slice x.1 o.length x.2) (N := fun x => [HP.own 3 1 (.slice x.1 o.length x.2) o.length (ints (ofN o))]) te44 (hc := by intro w hs; exact hOrd w (hp.st hs)) (next := fun x _ => ?_)
  obtain ⟨xA, xc⟩ := x
  simp only [List.cons_append, List.nil_append]
  refine O.callN (α := Nat) (φ := fun _ => True) (vo := fun b => .func (.func 104) #[] #[.pointer (some ⟨b, 0, none⟩)]) (N := fun b => [HP.blk b (.cells #[.slice xA o.length xc] 44 (0, 0))]) te84 (hc := by intro w hs; exact Backward_calls xA o.length xc w) (next := fun bb _ => ?_)
  simp only [List.cons_append, List.nil_append]
  refine XO.nil ?_
  (refine X.block ?_)
  refine X.rangeFunc (w0 := w0) (S := noS) (N := o.length) (ps := [14, 15]) (caps := [.pointer (some ⟨bb, 0, none⟩)]) (bwAt o) (fun j => [HP.blk b1 (.cells #[.slice A ts.length c] 33 (0, 0)), HP.blk b3 (.cells #[.slice (some sd) ts.length ts.length] 44 (0, 0)), HP.blk bb (.cells #[.slice xA o.length xc] 44 (0, 0)), HP.own 3 1 (.slice xA o.length xc) o.length (ints (ofN o)), HP.own 3 1 (.slice (some sd) ts.length ts.length) ts.length (ints (T j))]) te104 (fun w hs => ?_) (fun j _ => rfl) ?_ (fun l Inv hI hr => Backward1_calls l Inv bb xA xc o (by simp only [maxLen]; omega) (fun j w hi => ⟨(hI j w hi).cell (.there (.there .here)) rfl, (hI j w hi).own_reads (.there (.there (.there .here)))⟩) hr) ?_
  · rw [hT0]
    rw [show ints (List.replicate ts.length 0) = List.replicate ts.length (.int .i64 0) from by simp [ints]]
    exact hs.perm (by repeat (first | exact Rems.nil | (apply Rems.cons; focus (repeat (first | with_reducible exact Rem.here | with_reducible apply Rem.there)))))
  · intro l D r hrs j hj
    obtain ⟨iv, hiv⟩ : ∃ iv, o.getD (o.length - 1 - j) 0 = iv := ⟨_, rfl⟩
    have hTj := hTs j hj
    dsimp only [bwAt, penv]
    rw [hiv] at hTj ⊢
    have hivl : iv < ts.length := by
      have h9 : o.length - 1 - j < o.length := by omega
      rw [← hiv]
      exact holt _ (by simp [List.getD, h9])
    have hbj := hTb j (by omega)
    have hlj := hTl j
    obtain ⟨out, hout⟩ : ∃ out, T j = out := ⟨_, rfl⟩
    rw [hout] at hTj hbj hlj ⊢
    rw [hTj]
    obtain ⟨af, has⟩ : ∃ af, afterF (sp ts) (iv : Int) = af := ⟨_, rfl⟩
    have hAft : ∀ w, PlanAt w A ts → Calls Tryd.prog 47 #[.slice A ts.length c, .int .i64 (iv : Int)] w fun e w' => ∃ x : Option Addr × Nat, True ∧ e = .returned (.slice x.1 af.length x.2) ∧ St w noS [HP.own 3 1 (.slice x.1 af.length x.2) af.length (ints (ofN af))] w' := fun w hw => by
      have h := AfterOf_calls A c ts iv w hw (by omega) hneeds
      rw [has] at h
      exact h
    have hasl : ∀ k ∈ af, k < ts.length := by rw [← has, ← hsl]; exact afterF_lt
    have hasn : af.length ≤ ts.length := by rw [← has, ← hsl]; exact afterF_len
    obtain ⟨ad, rfl⟩ := hp.addr iv hivl
    have hcells := plan_cells hp iv hivl
    have hwk := hok.work (i := iv) (by omega)
    rw [sp_tk hivl] at hwk
    dsimp only at hwk
    refine X.region ?_
    refine O.assign ?_
    refine XO.nil ?_
    refine X.beginRound hrs ?_
    (refine X.block ?_; refine X.seq ?_; refine X.seq ?_)
    refine X.region ?_
    (first | refine O.loadB tf33 ?_ | refine O.loadO tf33 (by first | assumption | (simp only [Nat.add_zero, Nat.zero_add]; assumption)) ?_ | refine O.loadOwn tf33 ?_)
    refine O.move ?_
    refine O.callN (α := Option Addr × Nat) (φ := fun _ => True) (vo := fun y => .slice y.1 af.length y.2) (N := fun y => [HP.own 3 1 (.slice y.1 af.length y.2) af.length (ints (ofN af))]) te47 (hc := by intro w hs; exact hAft w (hp.st hs)) (next := fun y _ => ?_)
    obtain ⟨yA, yc⟩ := y
    simp only [List.cons_append, List.nil_append]
    refine O.lenSlice tl44 ?_
    refine O.move ?_
    refine XO.nil ?_
    (refine X.block ?_)
    refine X.loop (γ := Nat) (fun k => k ≤ af.length) (fun k => [⟨1, true, .pointer (some ⟨b1, 0, none⟩)⟩, ⟨3, true, .pointer (some ⟨b3, 0, none⟩)⟩, ⟨5, true, .int .i64 iv⟩, ⟨18, true, .slice yA af.length yc⟩, ⟨19, true, .int .i64 af.length⟩, ⟨20, true, .int .i64 k⟩])
      (fun k => St w0 noS [HP.blk l (.loop { r with state := .busy }), HP.blk D (.deferred (some [])), HP.blk b1 (.cells #[.slice (some ad) ts.length c] 33 (0, 0)), HP.blk b3 (.cells #[.slice (some sd) ts.length ts.length] 44 (0, 0)), HP.blk bb (.cells #[.slice xA o.length xc] 44 (0, 0)), HP.own 3 1 (.slice xA o.length xc) o.length (ints (ofN o)), HP.own 3 1 (.slice yA af.length yc) af.length (ints (ofN af)), HP.own 3 1 (.slice (some sd) ts.length ts.length) ts.length (ints (out.set iv (tailIn out iv (af.take k))))]) (fun k => af.length - k) 0 (Nat.zero_le _) (by repeat (first | exact Sub.nil | refine Sub.cons rfl (by first | rfl | simp) ?_)) (fun w hs => by
        rw [List.take_zero, show tailIn out iv [] = out.getD iv 0 from rfl, set_getD_self]
        exact hs.perm (by repeat (first | exact Rems.nil | (apply Rems.cons; focus (repeat (first | with_reducible exact Rem.here | with_reducible apply Rem.there)))))) ?_
    rintro k hk next
    try dsimp only at hk ⊢
    (refine X.seq ?_)
    refine X.region ?_
    refine O.lss ?_
    refine XO.nil ?_
    (refine X.seq ?_)
    refine X.cond rfl (fun c5 => ?_) (fun c5 => ?_)
    · have hlt : k < af.length := by have := of_decide_eq_true c5; omega
      refine X.fact (fun w hs => (hs.own_reads (A := yA) (by repeat (first | with_reducible exact Rem.here | with_reducible apply Rem.there))).addr (j := k) (by simp [ints]; omega)) (fun hA => ?_)
      obtain ⟨ya, rfl⟩ := hA
      have hak : af[k] < ts.length := hasl _ (List.getElem_mem hlt)
      have hgk : (ints (ofN af))[k]? = some (.int .i64 (af[k] : Nat)) := by simp [ints, ofN, hlt]
      have htk := tailIn_take (out := out) (i := iv) hlt
      obtain ⟨m, hm⟩ : ∃ m, tailIn out iv (af.take k) = m := ⟨_, rfl⟩
      rw [hm] at htk ⊢
      have hcl : (out.set iv m).length = ts.length := by simp [hlj]
      have hc1 := ints_getD (l := out.set iv m) (i := iv) (by omega)
      have hc2 := ints_getD (l := out.set iv m) (i := af[k]) (by omega)
      rw [getD_set_int out iv iv m, if_pos ⟨rfl, by omega⟩] at hc1
      (refine X.skip ?_; refine X.seq ?_; refine X.block ?_; refine X.seq ?_)
      refine X.region ?_
      (first | refine O.indexBN tl44 ?_ | refine O.indexAddrN tl44 ?_)
      refine O.loadOwn (ad := ya) (hv := hgk) tf3 ?_
      refine O.assign ?_
      refine XO.nil ?_
      refine X.regionH [] [12] [0, 1, 2, 3, 4, 5, 6, 7, 8, 9, 10, 11] [HP.blk b3 (.cells #[.slice (some sd) ts.length ts.length] 44 (0, 0)), HP.own 3 1 (.slice (some sd) ts.length ts.length) ts.length (ints (out.set iv m))] mixed (by kernel_rfl) (by repeat (first | exact Rems.nil | (apply Rems.cons; focus (repeat (first | with_reducible exact Rem.here | with_reducible apply Rem.there))))) ?_
      simp only [permL, List.getD_cons_zero, List.getD_cons_succ]
      (first | refine O.loadB tf44 ?_ | refine O.loadO tf44 (by first | assumption | (simp only [Nat.add_zero, Nat.zero_add]; assumption)) ?_ | refine O.loadOwn tf44 ?_)
      refine O.move ?_
      (first | refine O.loadB tf44 ?_ | refine O.loadO tf44 (by first | assumption | (simp only [Nat.add_zero, Nat.zero_add]; assumption)) ?_ | refine O.loadOwn tf44 ?_)
      refine O.move ?_
      (first | refine O.indexBN tl44 ?_ | refine O.indexAddrN tl44 ?_)
      refine O.loadOwn (ad := sd) (hv := hc1) tf3 ?_
      (first | refine O.loadB tf44 ?_ | refine O.loadO tf44 (by first | assumption | (simp only [Nat.add_zero, Nat.zero_add]; assumption)) ?_ | refine O.loadOwn tf44 ?_)
      refine O.move ?_
      (first | refine O.indexBN tl44 ?_ | refine O.indexAddrN tl44 ?_)
      refine O.loadOwn (ad := sd) (hv := hc2) tf3 ?_
      refine O.maxI ?_
      (first | refine O.indexBN tl44 ?_ | refine O.indexAddrN tl44 ?_)
      refine XO.nilH ?_
      refine O.storeOwn (i := iv) (ad := sd) (ints (out.set iv (tailIn out iv (af.take (k + 1))))) ts3 (hr := (by repeat (first | with_reducible exact Rem.here | with_reducible apply Rem.there))) (hi := by simp [ints]; omega) (hcs := by rw [ints_set, List.set_set, htk]) (next := ?_)
      refine XO.nil ?_
      (refine X.inBlock ?_)
      refine X.region ?_
      refine O.add ?_
      refine O.move ?_
      refine XO.nil ?_
      refine X.st (fun w hs => hs.perm (by repeat (first | exact Rems.nil | (apply Rems.cons; focus (repeat (first | with_reducible exact Rem.here | with_reducible apply Rem.there)))))) (X.sub (by repeat (first | exact Sub.nil | refine Sub.cons rfl (by first | rfl | simp) ?_)) (next (k + 1) (hlt) (by omega)))
    · (refine X.exit rfl ?_)
      have hke : k = af.length := by have := of_decide_eq_false c5; omega
      rw [hke, List.take_length]
      obtain ⟨m, hm⟩ : ∃ m, tailIn out iv af = m := ⟨_, rfl⟩
      have hmb := hbj.tailIn (i := iv) af
      rw [hm] at hmb ⊢
      have hc1 := ints_getD (l := out.set iv m) (i := iv) (by simp [hlj]; omega)
      rw [getD_set_int out iv iv m, if_pos ⟨rfl, by omega⟩] at hc1
      refine X.regionH [] [11] [0, 1, 2, 3, 4, 5, 6, 7, 8, 9, 10] [HP.blk b1 (.cells #[.slice (some ad) ts.length c] 33 (0, 0)), HP.blk b3 (.cells #[.slice (some sd) ts.length ts.length] 44 (0, 0)), HP.own 3 1 (.slice (some sd) ts.length ts.length) ts.length (ints (out.set iv m))] mixed (by kernel_rfl) (by repeat (first | exact Rems.nil | (apply Rems.cons; focus (repeat (first | with_reducible exact Rem.here | with_reducible apply Rem.there))))) ?_
      simp only [permL, List.getD_cons_zero, List.getD_cons_succ]
      (first | refine O.loadB tf44 ?_ | refine O.loadO tf44 (by first | assumption | (simp only [Nat.add_zero, Nat.zero_add]; assumption)) ?_ | refine O.loadOwn tf44 ?_)
      refine O.move ?_
      (first | refine O.indexBN tl44 ?_ | refine O.indexAddrN tl44 ?_)
      refine O.loadOwn (ad := sd) (hv := hc1) tf3 ?_
      (first | refine O.loadB tf33 ?_ | refine O.loadO tf33 (by first | assumption | (simp only [Nat.add_zero, Nat.zero_add]; assumption)) ?_ | refine O.loadOwn tf33 ?_)
      refine O.move ?_
      (first | refine O.indexBN tl33 ?_ | refine O.indexAddrN tl33 ?_)
      (first | refine O.fieldB0 td46_0 ?_ | refine O.fieldA td46_0 ?_ | refine O.fieldB td46_0 ?_)
      refine O.loadO tf3 hcells.1 ?_
      refine O.add ?_
      (first | refine O.indexBN tl44 ?_ | refine O.indexAddrN tl44 ?_)
      refine XO.nilH ?_
      refine O.storeOwn (i := iv) (ad := sd) (ints (tailStep (sp ts) out iv)) ts3 (hr := (by repeat (first | with_reducible exact Rem.here | with_reducible apply Rem.there))) (hi := by simp [ints]; omega) (hcs := by rw [ints_set, List.set_set, tailStep, has, hm, sp_tk hivl]) (next := ?_)
      refine XO.nil ?_
      (refine X.inBlock ?_)
      exact X.finR (fun w hs => by
        exact hs.perm (by repeat (first | exact Rems.nil | (apply Rems.cons; focus (repeat (first | with_reducible exact Rem.here | with_reducible apply Rem.there))))))
  · intro D
    try dsimp only
    (refine X.inBlock ?_; refine X.seq ?_)
    refine X.region ?_
    (first | refine O.loadB tf44 ?_ | refine O.loadO tf44 (by first | assumption | (simp only [Nat.add_zero, Nat.zero_add]; assumption)) ?_ | refine O.loadOwn tf44 ?_)
    refine O.assign ?_
    refine XO.nil ?_
    refine X.retMark (D := D) Tryd.func61 (L' := [HP.blk b1 (.cells #[.slice A ts.length c] 33 (0, 0)), HP.blk b3 (.cells #[.slice (some sd) ts.length ts.length] 44 (0, 0)), HP.blk bb (.cells #[.slice xA o.length xc] 44 (0, 0)), HP.own 3 1 (.slice xA o.length xc) o.length (ints (ofN o)), HP.own 3 1 (.slice (some sd) ts.length ts.length) ts.length (ints (T o.length))]) (fun w' hs => ?_) .here
    rw [hTe] at hs
    exact ⟨sd, trivial, rfl, hs.perm (by repeat (first | exact Rems.nil | (apply Rems.cons; focus (repeat (first | with_reducible exact Rem.here | with_reducible apply Rem.there)))))⟩
noncomputable def cxSO : Cx := ⟨Tryd.prog, 40, 18, []⟩
theorem SpanOf_calls (A : Option Addr) (c : Nat) (ts : List TaskM) (w0 : World) (hp : PlanAt w0 A ts) (hok : Ok (sp ts)) :
    Calls Tryd.prog 40 #[.slice A ts.length c] w0 fun e w' => e = .returned (.int .i64 (spanF (sp ts))) ∧ Below w0.heap.size w0 w' := by
  have hsl := sp_len ts
  have hl30 := hok.len
  rw [hsl] at hl30
  obtain ⟨T, hT⟩ : ∃ T, tailsF (sp ts) = T := ⟨_, rfl⟩
  have hTl : T.length = ts.length := by rw [← hT, tailsF, tailsGo_len]; simp [hsl]
  have hTs : spanF (sp ts) = T.foldl max 0 := by rw [spanF, hT]
  have hst : ∀ k, k < T.length → (T.take (k + 1)).foldl max 0 = max ((T.take k).foldl max 0) (T.getD k 0) := fun k hk => by
    rw [List.take_add_one, List.getElem?_eq_getElem hk, Option.toList_some, List.foldl_append]
    simp [List.getD, hk]
  have hTa : ∀ w, PlanAt w A ts → Calls Tryd.prog 61 #[.slice A ts.length c] w fun e w' => ∃ x : Addr, True ∧ e = .returned (.slice (some x) ts.length ts.length) ∧ St w noS [HP.own 3 1 (.slice (some x) ts.length ts.length) ts.length (ints T)] w' := fun w hw => by
    have h := TailsOf_calls A c ts w hw hok
    rw [hT] at h
    exact h
  refine calls_of_X cxSO [.slice A ts.length c] Tryd.func40 (St.nil w0) ?_
  (refine X.seq ?_)
  refine X.region ?_
  refine O.assign ?_
  refine XO.nil ?_
  (refine X.seq ?_)
  refine X.region ?_
  refine O.assign ?_
  refine XO.nil ?_
  (refine X.seq ?_; refine X.seq ?_)
  refine X.region ?_
  refine O.move ?_
  refine O.callN (α := Addr) (φ := fun _ => True) (vo := fun x => .slice (some x) ts.length ts.length) (N := fun x => [HP.own 3 1 (.slice (some x) ts.length ts.length) ts.length (ints T)]) te61 (hc := by intro w hs; exact hTa w (hp.st hs)) (next := fun x _ => ?_)
  simp only [List.cons_append, List.nil_append]
  refine O.lenSlice tl44 ?_
  refine O.move ?_
  refine XO.nil ?_
  (refine X.block ?_)
  refine X.loop (γ := Nat) (fun k => k ≤ ts.length) (fun k => [⟨3, true, .int .i64 ((T.take k).foldl max 0)⟩, ⟨7, true, .slice (some x) ts.length ts.length⟩, ⟨8, true, .int .i64 ts.length⟩, ⟨9, true, .int .i64 k⟩])
    (fun k => St w0 noS [HP.own 3 1 (.slice (some x) ts.length ts.length) ts.length (ints T)]) (fun k => ts.length - k) 0 (Nat.zero_le _) (by repeat (first | exact Sub.nil | refine Sub.cons rfl (by first | rfl | simp) ?_)) (fun w hs => hs) ?_
  rintro k hk next
  try dsimp only at hk ⊢
  (refine X.seq ?_)
  refine X.region ?_
  refine O.lss ?_
  refine XO.nil ?_
  (refine X.seq ?_)
  refine X.cond rfl (fun c3 => ?_) (fun c3 => ?_)
  · have hlt : k < ts.length := by have := of_decide_eq_true c3; omega
    have hc1 := ints_getD (l := T) (i := k) (by omega)
    have hs1 := hst k (by omega)
    (refine X.skip ?_; refine X.seq ?_; refine X.block ?_; refine X.seq ?_)
    refine X.region ?_
    (first | refine O.indexBN tl44 ?_ | refine O.indexAddrN tl44 ?_)
    refine O.loadOwn (ad := x) (hv := hc1) tf3 ?_
    refine O.assign ?_
    refine XO.nil ?_
    refine X.region ?_
    refine O.move ?_
    refine O.move ?_
    refine O.maxI ?_
    refine O.assign ?_
    rw [← hs1]
    refine XO.nil ?_
    (refine X.inBlock ?_)
    refine X.region ?_
    refine O.add ?_
    refine O.move ?_
    refine XO.nil ?_
    exact X.sub (by repeat (first | exact Sub.nil | refine Sub.cons rfl (by first | rfl | simp) ?_)) (next (k + 1) (hlt) (by omega))
  · (refine X.exit rfl ?_; refine X.seq ?_)
    refine X.region ?_
    refine O.move ?_
    refine O.assign ?_
    refine XO.nil ?_
    refine X.ret1 Tryd.func40 ?_
    obtain rfl : k = ts.length := by have := of_decide_eq_false c3; omega
    exact fun w' hs => ⟨by rw [hTs, ← hTl, List.take_length], hs.below⟩
noncomputable def cxSp : Cx := ⟨Tryd.prog, 17, 12, []⟩
theorem Span_calls (A : Option Addr) (c : Nat) (ts : List TaskM) (w0 : World) (hp : PlanAt w0 A ts) (hl : ts.length ≤ maxLen) (hn : ∀ t ∈ ts, t.needs.length ≤ maxLen) :
    Calls Tryd.prog 17 #[.slice A ts.length c] w0 fun e w' => e = .returned (.tuple #[.int .i64 (if rightF (sp ts) = 0 then spanF (sp ts) else 0), errV (rightF (sp ts))]) ∧ Below w0.heap.size w0 w' := by
  refine calls_of_X cxSp [.slice A ts.length c] Tryd.func17 (St.nil w0) ?_
  (refine X.seq ?_)
  refine X.region ?_
  refine O.assign ?_
  refine O.assign ?_
  refine XO.nil ?_
  (refine X.seq ?_; refine X.seq ?_)
  refine X.region ?_
  refine O.move ?_
  refine O.callB (errV (rightF (sp ts))) te38 ?_ (hc := by intro _ w hs; exact Right_calls A c ts w (hp.st hs) hl hn)
  refine O.assign ?_
  refine XO.nil ?_
  (refine X.seq ?_)
  refine X.region ?_
  refine O.move ?_
  (first | refine Go.Proofs.YtgegppbjpaeljaaDoor.O.neErr ?_ | refine O.neNil ?_ | refine O.nilNe ?_)
  refine XO.nil ?_
  refine X.cond rfl (fun c2 => ?_) (fun c2 => ?_)
  · (refine X.seq ?_)
    refine X.region ?_
    refine O.move ?_
    refine O.assign ?_
    refine O.assign ?_
    refine XO.nil ?_
    refine X.ret2 Tryd.func17 ?_
    exact fun w' hs => ⟨by rw [if_neg (by simpa using c2)], hs.below⟩
  · have h0 : rightF (sp ts) = 0 := by simpa using c2
    (refine X.skip ?_; refine X.seq ?_)
    refine X.region ?_
    refine O.move ?_
    refine O.callB (.int .i64 (spanF (sp ts))) te40 ?_ (hc := by intro _ w hs; exact SpanOf_calls A c ts w (hp.st hs) (ok_iff.1 h0))
    refine O.assign ?_
    refine O.assign ?_
    refine XO.nil ?_
    refine X.ret2 Tryd.func17 ?_
    exact fun w' hs => ⟨by rw [h0]; rfl, hs.below⟩
end Go.Proofs.YtgegppbjpaeljaaDoor.Pw
