/- Proved here: the reference's reader of weaves (behind, beside) reads as the plain reading does; where that fails it bears its fault. -/
import Derived.Test.YtgegppbjpaeljaaDoorWs
set_option linter.unusedVariables false
set_option linter.unusedSimpArgs false
set_option maxRecDepth 10000
namespace Go.Proofs.YtgegppbjpaeljaaDoor.Ws
open Go Go.X Go.X.Wv Go.RowKit Go.Proofs.YtgegppbjpaeljaaDoor Go.Proofs.YtgegppbjpaeljaaDoor.Ty Go.Proofs.YtgegppbjpaeljaaDoor.Pl Go.Proofs.YtgegppbjpaeljaaDoor.Wv

theorem capR_bound {t : T} (h : digits t) : 0 ≤ work capR t ∧ work capR t ≤ 9999 * size t ∧ 0 ≤ span capR t ∧ span capR t ≤ work capR t := by
  induction t with
  | num ds =>
    have h1 := foldR_bound ds 0 h (by decide) (by decide)
    rw [← foldR] at h1
    simp only [work, span, size]
    omega
  | seq a b iha ihb =>
    have h1 := iha h.1
    have h2 := ihb h.2
    simp only [work, span, size, Int.natCast_add, Int.mul_add]
    omega
  | par a b iha ihb =>
    have h1 := iha h.1
    have h2 := ihb h.2
    simp only [work, span, size, Int.natCast_add, Int.mul_add]
    omega
theorem linkR_next {cap : L → Int} {m j : Nat} {t2 : T} {ls : List Nat} {zs : List TaskM} {n2 : List (Int × List Int)} (h2 : n2 = tasks cap t2 m) (hz : zs.map TaskM.spec = link m ((firsts t2 m).take j) ls n2) (hw : Wf zs) (hj : j < (firsts t2 m).length) :
    ∃ wk, ∃ h : (firsts t2 m)[j] - m < zs.length, zs[(firsts t2 m)[j] - m] = ⟨wk, [], none, 0⟩ ∧ m ≤ (firsts t2 m)[j] ∧
      ∀ A c, (zs.set ((firsts t2 m)[j] - m) ⟨wk, nats ls, A, c⟩).map TaskM.spec = link m ((firsts t2 m).take (j + 1)) ls n2 := by
  obtain ⟨wk, hwk⟩ := firsts_nil cap t2 m (firsts t2 m)[j] (List.getElem_mem hj)
  have hr := firsts_range t2 m (firsts t2 m)[j] (List.getElem_mem hj)
  rw [← h2] at hwk
  obtain ⟨a1, a2⟩ := link_step m (firsts t2 m) ls n2 j hj hwk hr.1 (firsts_sorted t2 m)
  have hlen : (firsts t2 m)[j] - m < zs.length := by
    have := congrArg List.length hz
    rw [List.length_map, link_length, h2, tasks_length] at this
    omega
  refine ⟨wk, hlen, ?_, hr.1, ?_⟩
  · rw [← hz, List.getElem?_map, List.getElem?_eq_getElem hlen] at a1
    simp only [Option.map_some, Option.some.injEq, TaskM.spec, Prod.mk.injEq] at a1
    obtain ⟨b1, b2⟩ := a1
    obtain ⟨b3, b4⟩ := hw _ (List.getElem_mem hlen) b2
    cases hzz : zs[(firsts t2 m)[j] - m] with
    | mk p q r s =>
      rw [hzz] at b1 b2 b3 b4
      simp only at b1 b2 b3 b4
      simp [b1, b2, b3, b4]
  · intro A c
    rw [a2, List.map_set, hz]
    rfl

noncomputable def cxBehindR : Cx := ⟨Tryd.prog, 59, 77, []⟩
set_option maxHeartbeats 2000000 in
theorem behindR_step (f : Nat) (ih : ∀ f', f' ≤ f → OneR f') : BehindR (f + 1) := by
  intro b s i A c ts w S hat hf
  obtain ⟨hi, hz, hts, hst⟩ := hat
  have hfn := Tryd.func59
  have hrl := rest_length s i
  have hbeh : behind (f + 1) (rest s i) = (match one f (rest s i) with | some (c, r) => behindL f c r | none => none) := by rw [behind]; rfl
  rw [hbeh]
  refine calls_of_X cxBehindR [.pointer (some ⟨b, 0, none⟩)] hfn hst ?_
  (refine X.seq ?_)
  refine X.region ?_
  refine O.alloc tz93 (fun b2 hb2 => ?_)
  refine XO.nil ?_
  (refine X.seq ?_)
  refine X.region ?_
  refine O.move ?_
  refine O.callS (L1 := [HP.blk b (rC s (i) (A) (c) (ts).length 0), HP.own 46 2 (.slice (A) (ts).length (c)) (ts).length (planRow (ts)), HP.rd (NeedsOK (ts))]) (α := Sm) (φ := smP s (rest s i).length (ts).length (one f (rest s i))) (vo := smV (ts).length) (L1' := smL b s (ts)) te83 (hr := (by repeat (first | exact Rems.nil | (apply Rems.cons; focus (repeat (first | with_reducible exact Rem.here | with_reducible apply Rem.there)))))) (hc := by intro w' S' h1 h2 h3; exact ih f (Nat.le_refl _) b s i A c ts w' S' ⟨hi, hz, hts, h1⟩ (by omega)) (next := ?_)
  rintro (⟨t0, r0, x0⟩ | y) hp
  skip
  · obtain ⟨hp0, hg0⟩ := hp
    dsimp only [smV, smL] at hp0 hg0 ⊢
    simp only [List.cons_append, List.nil_append]
    obtain ⟨hsuf0, hlen0⟩ := one_fact f hp0
    have hd0 := one_digits f hp0
    rw [hp0]
    dsimp only
    refine O.alloc tz93 (fun b3 hb3 => ?_)
    refine O.store _ ts93 ?_
    refine XO.nil ?_
    (refine X.seq ?_; refine X.block ?_)
    refine X.loop (γ := Nat × T × L × Res) (fun y => y.1 ≤ f ∧ behindL f t0 r0 = behindL y.1 y.2.1 y.2.2.1 ∧ y.2.2.1 <:+ rest s i ∧ size y.2.1 + y.2.2.1.length ≤ (rest s i).length ∧ 3 * y.2.2.1.length + 1 ≤ y.1 ∧ GoodR y.2.1 ts.length y.2.2.2 ∧ digits y.2.1)
      (fun y => [⟨0, true, .pointer (some ⟨b, 0, none⟩)⟩, ⟨2, true, .pointer (some ⟨b2, 0, none⟩)⟩, ⟨3, true, .pointer (some ⟨b3, 0, none⟩)⟩])
      (fun y => St w S [HP.blk b3 (.cells #[.slice (y.2.2.2).fA (firsts (y.2.1) (ts.length)).length (y.2.2.2).fc, .slice (y.2.2.2).lA (lasts (y.2.1) (ts.length)).length (y.2.2.2).lc, .int .i64 (work capR (y.2.1)), .int .i64 (span capR (y.2.1))] 93 (0, 0)), HP.blk b2 (.cells #[.slice none 0 0, .slice none 0 0, .int .i64 0, .int .i64 0] 93 (0, 0)), HP.blk b (rC s (s.size - y.2.2.1.length) (y.2.2.2.A) (y.2.2.2.c) (ts ++ y.2.2.2.new).length 0), HP.own 46 2 (.slice (y.2.2.2.A) (ts ++ y.2.2.2.new).length (y.2.2.2.c)) (ts ++ y.2.2.2.new).length (planRow (ts ++ y.2.2.2.new)), HP.rd (NeedsOK (ts ++ y.2.2.2.new)), HP.rd (ClothOK y.2.1 ts.length y.2.2.2)])
      (fun y => y.2.2.1.length) (f, t0, r0, x0) ⟨Nat.le_refl _, rfl, hsuf0, hlen0, by have := size_pos t0; dsimp only; omega, hg0, hd0⟩ (by repeat (first | exact Sub.nil | refine Sub.cons rfl (by first | rfl | simp) ?_)) (fun w' hs => by dsimp only; exact hs.perm (by repeat (first | exact Rems.nil | (apply Rems.cons; focus (repeat (first | with_reducible exact Rem.here | with_reducible apply Rem.there)))))) ?_
    rintro ⟨q, t1, r1, ⟨n1, A1, cc1, fA1, fc1, lA1, lc1⟩⟩ ⟨k1, k2, k3, k4, k5, k6, k7⟩ next
    dsimp only at k1 k2 k3 k4 k5 k6 k7 ⊢
    have hr1 := rest_suffix k3 hi
    have hsz1 := size_pos t1
    have hnl : (ts ++ n1).length = ts.length + size t1 := by rw [List.length_append]; have h9 := k6.len; dsimp only at h9; omega
    have hw1 := capR_bound k7
    have hl1 := lasts_length t1 ts.length
    have hf1 := firsts_length t1 ts.length
    have hn1 := lasts_ne t1 ts.length
    have hn3 := firsts_ne t1 ts.length
    (refine X.seq ?_; refine X.seq ?_)
    refine X.region ?_
    refine O.move ?_
    refine O.callB (.bool (decide ((0 : Int) = 0) && decide (r1.head? = some 59))) te60 ?_ (hc := by intro _ w hs; exact (by have h9 := next_calls b s (s.size - r1.length) A1 cc1 (ts ++ n1).length 0 59 (by omega) hz w (hs.blk_at (.there (.there .here))); rw [← hr1] at h9; exact h9))
    refine XO.nil ?_
    refine X.cond rfl (fun c2 => ?_) (fun c2 => ?_)
    · have h59 : r1.head? = some 59 := by simpa using c2
      have htl2 := tail_len h59
      obtain ⟨q, rfl⟩ : ∃ q', q = q' + 1 := ⟨q - 1, by omega⟩
      have hi1 : r1.tail = rest s (s.size - r1.length + 1) := by
        have h9 := (rest_head s (s.size - r1.length) (by omega)).2
        rw [← hr1] at h9
        exact h9
      rw [behindL, if_pos h59, hi1] at k2
      (refine X.skip ?_; refine X.block ?_; refine X.seq ?_)
      refine X.region ?_
      refine O.move ?_
      refine O.nilCheck ?_
      (first | refine O.fieldB0 td91_1 ?_ | refine O.fieldA td91_1 ?_ | refine O.fieldB td91_1 ?_)
      (first | refine O.loadB tf3 ?_ | refine O.loadO tf3 (by first | assumption | (simp only [Nat.add_zero, Nat.zero_add]; assumption)) ?_ | refine O.loadOwn tf3 ?_)
      refine O.add (r := ((s.size - r1.length + 1 : Nat) : Int)) ?_ (hr := by intro _; rw [wrap_i64 (by omega) (by omega)]; rfl)
      refine O.nilCheck ?_
      (first | refine O.fieldB0 td91_1 ?_ | refine O.fieldA td91_1 ?_ | refine O.fieldB td91_1 ?_)
      refine O.store _ ts3 ?_
      refine XO.nil ?_
      (refine X.seq ?_)
      refine X.region ?_
      refine O.move ?_
      refine O.callS (L1 := [HP.blk b (rC s (s.size - r1.length + 1) (A1) (cc1) (ts ++ n1).length 0), HP.own 46 2 (.slice (A1) (ts ++ n1).length (cc1)) (ts ++ n1).length (planRow (ts ++ n1)), HP.rd (NeedsOK (ts ++ n1))]) (α := Sm) (φ := smP s (rest s (s.size - r1.length + 1)).length (ts ++ n1).length (one q (rest s (s.size - r1.length + 1)))) (vo := smV (ts ++ n1).length) (L1' := smL b s (ts ++ n1)) te83 (hr := (by repeat (first | exact Rems.nil | (apply Rems.cons; focus (repeat (first | with_reducible exact Rem.here | with_reducible apply Rem.there)))))) (hc := by intro w' S' h1 h2 h3; exact ih q (by omega) b s (s.size - r1.length + 1) A1 cc1 (ts ++ n1) w' S' ⟨by omega, hz, by omega, h1⟩ (by rw [← hi1]; omega)) (next := ?_)
      rintro (⟨t2, r2, ⟨n2, A2, cc2, fA2, fc2, lA2, lc2⟩⟩ | y) hp
      skip
      · obtain ⟨hp2, hg2⟩ := hp
        dsimp only [smV, smL] at hp2 hg2 ⊢
        simp only [List.cons_append, List.nil_append]
        obtain ⟨hsuf2, hlen2⟩ := one_fact q hp2
        have hd2 := one_digits q hp2
        have hsuf2' : r2 <:+ rest s i := (hi1 ▸ hsuf2).trans ((List.tail_suffix r1).trans k3)
        have hr2 := rest_suffix hsuf2' hi
        rw [← hi1] at hlen2
        have hsz2 := size_pos t2
        rw [hp2] at k2
        have hw2 := capR_bound hd2
        have hl2 := lasts_length t2 (ts ++ n1).length
        have hf2 := firsts_length t2 (ts ++ n1).length
        have hn2 := lasts_ne t2 (ts ++ n1).length
        have hn4 := firsts_ne t2 (ts ++ n1).length
        refine O.alloc tz93 (fun b4 hb4 => ?_)
        refine O.store _ ts93 ?_
        refine XO.nil ?_
        (refine X.seq ?_; refine X.seq ?_)
        refine X.region ?_
        refine O.move ?_
        refine O.nilCheck ?_
        (first | refine O.fieldB0 td91_3 ?_ | refine O.fieldA td91_3 ?_ | refine O.fieldB td91_3 ?_)
        (first | refine O.loadB tf3 ?_ | refine O.loadO tf3 (by first | assumption | (simp only [Nat.add_zero, Nat.zero_add]; assumption)) ?_ | refine O.loadOwn tf3 ?_)
        refine O.neq ?_
        refine XO.nil ?_
        refine X.condF rfl (by rfl) ?_
        (refine X.skip ?_; refine X.seq ?_; refine X.seq ?_)
        refine X.region ?_
        refine O.assign ?_
        refine XO.nil ?_
        (refine X.block ?_)
        refine X.loop (γ := Nat × List TaskM) (fun y => y.1 ≤ (firsts t2 (ts ++ n1).length).length ∧ y.2.map TaskM.spec = link (ts ++ n1).length ((firsts t2 (ts ++ n1).length).take y.1) (lasts t1 ts.length) (n2.map TaskM.spec) ∧ Wf y.2)
          (fun y => [⟨0, true, .pointer (some ⟨b, 0, none⟩)⟩, ⟨2, true, .pointer (some ⟨b2, 0, none⟩)⟩, ⟨3, true, .pointer (some ⟨b3, 0, none⟩)⟩, ⟨4, true, .pointer (some ⟨b4, 0, none⟩)⟩, ⟨5, true, .int .i64 y.1⟩])
          (fun y => St w S [HP.blk b4 (.cells #[.slice ((⟨n2, A2, cc2, fA2, fc2, lA2, lc2⟩ : Res)).fA (firsts (t2) ((ts ++ n1).length)).length ((⟨n2, A2, cc2, fA2, fc2, lA2, lc2⟩ : Res)).fc, .slice ((⟨n2, A2, cc2, fA2, fc2, lA2, lc2⟩ : Res)).lA (lasts (t2) ((ts ++ n1).length)).length ((⟨n2, A2, cc2, fA2, fc2, lA2, lc2⟩ : Res)).lc, .int .i64 (work capR (t2)), .int .i64 (span capR (t2))] 93 (0, 0)), HP.blk b3 (.cells #[.slice ((⟨n1, A1, cc1, fA1, fc1, lA1, lc1⟩ : Res)).fA (firsts (t1) (ts.length)).length ((⟨n1, A1, cc1, fA1, fc1, lA1, lc1⟩ : Res)).fc, .slice ((⟨n1, A1, cc1, fA1, fc1, lA1, lc1⟩ : Res)).lA (lasts (t1) (ts.length)).length ((⟨n1, A1, cc1, fA1, fc1, lA1, lc1⟩ : Res)).lc, .int .i64 (work capR (t1)), .int .i64 (span capR (t1))] 93 (0, 0)), HP.blk b2 (.cells #[.slice none 0 0, .slice none 0 0, .int .i64 0, .int .i64 0] 93 (0, 0)), HP.blk b (rC s (s.size - r2.length) (A2) (cc2) (ts ++ n1 ++ y.2).length 0), HP.own 46 2 (.slice (A2) (ts ++ n1 ++ y.2).length (cc2)) (ts ++ n1 ++ y.2).length (planRow (ts ++ n1 ++ y.2)), HP.rd (NeedsOK (ts ++ n1 ++ y.2)), HP.rd (ClothOK t2 (ts ++ n1).length ⟨n2, A2, cc2, fA2, fc2, lA2, lc2⟩), HP.rd (ClothOK t1 ts.length ⟨n1, A1, cc1, fA1, fc1, lA1, lc1⟩)])
          (fun y => (firsts t2 (ts ++ n1).length).length - y.1) (0, n2) ⟨Nat.zero_le _, by simp only [List.take_zero, link_none], hg2.2⟩ (by repeat (first | exact Sub.nil | refine Sub.cons rfl (by first | rfl | simp) ?_)) (fun w' hs => hs.perm (by repeat (first | exact Rems.nil | (apply Rems.cons; focus (repeat (first | with_reducible exact Rem.here | with_reducible apply Rem.there)))))) ?_
        rintro ⟨j, zs⟩ ⟨j1, j2, j3⟩ next2
        dsimp only at j1 j2 j3 ⊢
        (refine X.seq ?_; refine X.seq ?_)
        refine X.region ?_
        refine O.move ?_
        (first | refine O.fieldB0 td93_0 ?_ | refine O.fieldA td93_0 ?_ | refine O.fieldB td93_0 ?_)
        (first | refine O.loadB tf44 ?_ | refine O.loadO tf44 (by first | assumption | (simp only [Nat.add_zero, Nat.zero_add]; assumption)) ?_ | refine O.loadOwn tf44 ?_)
        refine O.lenSlice tl44 ?_
        refine O.lss ?_
        refine XO.nil ?_
        refine X.cond rfl (fun c7 => ?_) (fun c7 => ?_)
        · have hj : j < (firsts t2 (ts ++ n1).length).length := by have := of_decide_eq_true c7; omega
          obtain ⟨wk, hzl, hze, hmle, hset⟩ := linkR_next hg2.1 j2 j3 hj
          have hfa := nats_at hj
          refine X.fact (fun w' hs => (hs.rd (.there (.there (.there (.there (.there (.there .here))))))).1.addr (j := j) (by simpa [nats] using hj)) ?_
          rintro ⟨fad, rfl⟩
          refine X.fact (fun w' hs => (hs.own_reads (.there (.there (.there (.there .here))))).addr (j := 0) (by rw [planRow_length]; simp only [List.length_append]; omega)) ?_
          rintro ⟨pad, rfl⟩
          generalize (firsts t2 (ts ++ n1).length)[j] = fj at hzl hze hmle hset hfa
          have hfl : fj < (ts ++ n1 ++ zs).length := by rw [List.length_append]; omega
          have hat : (ts ++ n1 ++ zs)[fj] = ⟨wk, [], none, 0⟩ := by rw [List.getElem_append_right hmle]; exact hze
          have hcell : (planRow (ts ++ n1 ++ zs))[fj * 2 + 1]? = some (.slice none 0 0) := by rw [planRow_at1 _ _ hfl, hat]; rfl
          have hprow : (planRow (ts ++ n1 ++ zs)).length = (ts ++ n1 ++ zs).length * 2 := planRow_length _
          (refine X.skip ?_; refine X.seq ?_; refine X.block ?_; refine X.seq ?_)
          refine X.region ?_
          refine O.assign ?_
          refine XO.nil ?_
          (refine X.seq ?_)
          refine X.regionH [] [] [0, 1, 2, 3, 4, 5, 6, 7, 8, 9, 10, 11, 12, 13, 14] [HP.blk b4 (.cells #[.slice ((⟨n2, some pad, cc2, some fad, fc2, lA2, lc2⟩ : Res)).fA (firsts (t2) ((ts ++ n1).length)).length ((⟨n2, some pad, cc2, some fad, fc2, lA2, lc2⟩ : Res)).fc, .slice ((⟨n2, some pad, cc2, some fad, fc2, lA2, lc2⟩ : Res)).lA (lasts (t2) ((ts ++ n1).length)).length ((⟨n2, some pad, cc2, some fad, fc2, lA2, lc2⟩ : Res)).lc, .int .i64 (work capR (t2)), .int .i64 (span capR (t2))] 93 (0, 0)), HP.blk b (rC s (s.size - r2.length) (some pad) cc2 (ts ++ n1 ++ zs).length 0), HP.own 46 2 (.slice (some pad) (ts ++ n1 ++ zs).length cc2) (ts ++ n1 ++ zs).length (planRow (ts ++ n1 ++ zs)), HP.rd (ClothOK t2 (ts ++ n1).length ⟨n2, some pad, cc2, some fad, fc2, lA2, lc2⟩)] mixed (by kernel_rfl) (by repeat (first | exact Rems.nil | (apply Rems.cons; focus (repeat (first | with_reducible exact Rem.here | with_reducible apply Rem.there))))) ?_
          simp only [permL, List.getD_cons_zero, List.getD_cons_succ]
          refine O.move ?_
          refine O.move ?_
          refine O.nilCheck ?_
          (first | refine O.fieldB0 td91_2 ?_ | refine O.fieldA td91_2 ?_ | refine O.fieldB td91_2 ?_)
          (first | refine O.loadB tf33 ?_ | refine O.loadO tf33 (by first | assumption | (simp only [Nat.add_zero, Nat.zero_add]; assumption)) ?_ | refine O.loadOwn tf33 ?_)
          (first | refine O.fieldB0 td93_0 ?_ | refine O.fieldA td93_0 ?_ | refine O.fieldB td93_0 ?_)
          (first | refine O.loadB tf44 ?_ | refine O.loadO tf44 (by first | assumption | (simp only [Nat.add_zero, Nat.zero_add]; assumption)) ?_ | refine O.loadOwn tf44 ?_)
          refine O.move ?_
          (first | refine O.indexBN tl44 ?_ | refine O.indexAddrN tl44 ?_)
          refine O.loadF tf3 (φ := ClothOK t2 (ts ++ n1).length ⟨n2, some pad, cc2, some fad, fc2, lA2, lc2⟩) (by repeat (first | with_reducible exact Rem.here | with_reducible apply Rem.there)) (fun w' h => h.1.at_ hfa) ?_
          (first | refine O.indexBN tl33 ?_ | refine O.indexAddrN tl33 ?_)
          (first | refine O.fieldB0 td46_1 ?_ | refine O.fieldA td46_1 ?_ | refine O.fieldB td46_1 ?_)
          refine O.loadOwn tf44 ?_ (hv := hcell)
          refine O.emptyH 3 1 ?_
          refine O.appendH [] 0 tl44 elemInt .here (fun w' hs => Src.ofReads tl44.1 (Reads.nil _ _) rfl (fun _ => rfl) rfl) (by decide) (by decide) (fun X => ⟨_, (by repeat (first | exact Rems.nil | (apply Rems.cons; focus (repeat (first | with_reducible exact Rem.here | with_reducible apply Rem.there)))))⟩) (fun A0 c0 => ?_)
          simp only [Nat.zero_add, List.nil_append]
          refine O.assign ?_
          refine XO.nilH ?_
          refine XO.nil ?_
          refine X.regionH [] [] [0, 1, 2, 3, 4, 5, 6, 7, 8, 9, 10, 11, 12, 13, 14, 15] [HP.blk b4 (.cells #[.slice ((⟨n2, some pad, cc2, some fad, fc2, lA2, lc2⟩ : Res)).fA (firsts (t2) ((ts ++ n1).length)).length ((⟨n2, some pad, cc2, some fad, fc2, lA2, lc2⟩ : Res)).fc, .slice ((⟨n2, some pad, cc2, some fad, fc2, lA2, lc2⟩ : Res)).lA (lasts (t2) ((ts ++ n1).length)).length ((⟨n2, some pad, cc2, some fad, fc2, lA2, lc2⟩ : Res)).lc, .int .i64 (work capR (t2)), .int .i64 (span capR (t2))] 93 (0, 0)), HP.blk b3 (.cells #[.slice ((⟨n1, A1, cc1, fA1, fc1, lA1, lc1⟩ : Res)).fA (firsts (t1) (ts.length)).length ((⟨n1, A1, cc1, fA1, fc1, lA1, lc1⟩ : Res)).fc, .slice ((⟨n1, A1, cc1, fA1, fc1, lA1, lc1⟩ : Res)).lA (lasts (t1) (ts.length)).length ((⟨n1, A1, cc1, fA1, fc1, lA1, lc1⟩ : Res)).lc, .int .i64 (work capR (t1)), .int .i64 (span capR (t1))] 93 (0, 0)), HP.blk b (rC s (s.size - r2.length) (some pad) cc2 (ts ++ n1 ++ zs).length 0), HP.rd (ClothOK t2 (ts ++ n1).length ⟨n2, some pad, cc2, some fad, fc2, lA2, lc2⟩)] mixed (by kernel_rfl) (by repeat (first | exact Rems.nil | (apply Rems.cons; focus (repeat (first | with_reducible exact Rem.here | with_reducible apply Rem.there))))) ?_
          simp only [permL, List.getD_cons_zero, List.getD_cons_succ]
          refine O.move ?_
          refine O.nilCheck ?_
          (first | refine O.fieldB0 td91_2 ?_ | refine O.fieldA td91_2 ?_ | refine O.fieldB td91_2 ?_)
          (first | refine O.loadB tf33 ?_ | refine O.loadO tf33 (by first | assumption | (simp only [Nat.add_zero, Nat.zero_add]; assumption)) ?_ | refine O.loadOwn tf33 ?_)
          (first | refine O.fieldB0 td93_0 ?_ | refine O.fieldA td93_0 ?_ | refine O.fieldB td93_0 ?_)
          (first | refine O.loadB tf44 ?_ | refine O.loadO tf44 (by first | assumption | (simp only [Nat.add_zero, Nat.zero_add]; assumption)) ?_ | refine O.loadOwn tf44 ?_)
          refine O.move ?_
          (first | refine O.indexBN tl44 ?_ | refine O.indexAddrN tl44 ?_)
          refine O.loadF tf3 (φ := ClothOK t2 (ts ++ n1).length ⟨n2, some pad, cc2, some fad, fc2, lA2, lc2⟩) (by repeat (first | with_reducible exact Rem.here | with_reducible apply Rem.there)) (fun w' h => h.1.at_ hfa) ?_
          refine O.move ?_
          (first | refine O.fieldB0 td93_1 ?_ | refine O.fieldA td93_1 ?_ | refine O.fieldB td93_1 ?_)
          (first | refine O.loadB tf44 ?_ | refine O.loadO tf44 (by first | assumption | (simp only [Nat.add_zero, Nat.zero_add]; assumption)) ?_ | refine O.loadOwn tf44 ?_)
          refine O.appendH (cs := []) (n := 0) (ints (nats (lasts t1 ts.length))) (lasts t1 ts.length).length tl44 elemInt (by repeat (first | with_reducible exact Rem.here | with_reducible apply Rem.there)) (fun w' hs => Src.ofReads tl44.1 (hs.rd (φ := ClothOK t1 ts.length ⟨n1, A1, cc1, fA1, fc1, lA1, lc1⟩) (by repeat (first | with_reducible exact Rem.here | with_reducible apply Rem.there))).2 (by simp [nats]) (fun e => absurd e (addr_of_ne (hs.rd (φ := ClothOK t1 ts.length ⟨n1, A1, cc1, fA1, fc1, lA1, lc1⟩) (by repeat (first | with_reducible exact Rem.here | with_reducible apply Rem.there))).2 hn1)) (ints_one _)) (by simp only [maxLen]; omega) (by omega) (fun X => ⟨_, (by repeat (first | exact Rems.nil | (apply Rems.cons; focus (repeat (first | with_reducible exact Rem.here | with_reducible apply Rem.there)))))⟩) (fun A' c' => ?_)
          simp only [Nat.zero_add, List.nil_append]
          (first | refine O.indexBN tl33 ?_ | refine O.indexAddrN tl33 ?_)
          (first | refine O.fieldB0 td46_1 ?_ | refine O.fieldA td46_1 ?_ | refine O.fieldB td46_1 ?_)
          refine O.storeOwnH (i := fj * 2 + 1) (planRow ((ts ++ n1 ++ zs).set fj ⟨wk, nats (lasts t1 ts.length), A', c'⟩)) ts44 (by rw [hprow]; omega) (by
            have h9 := planRow_set (ts ++ n1 ++ zs) fj hfl (nats (lasts t1 ts.length)) A' c'
            rw [nats_length, hat] at h9
            exact h9) ?_
          refine XO.nilH ?_
          refine XO.nil ?_
          (refine X.inBlock ?_)
          refine X.region ?_
          refine O.move ?_
          refine O.add ?_
          refine O.assign ?_
          refine XO.nil ?_
          rw [set_append_right _ _ hmle] at *
          refine X.st (fun w' hs => ?_) (X.sub (by repeat (first | exact Sub.nil | refine Sub.cons rfl (by first | rfl | simp) ?_)) (next2 (j + 1, zs.set (fj - (ts ++ n1).length) ⟨wk, nats (lasts t1 ts.length), A', c'⟩) ⟨hj, hset A' c', wf_set j3 (nats_ne hn1)⟩ (by dsimp only; omega)))
          have a1 := hs.rems (L1 := [HP.own 3 1 (.slice A' (lasts t1 ts.length).length c') (lasts t1 ts.length).length (ints (nats (lasts t1 ts.length))), HP.rd (NeedsOK (ts ++ n1 ++ zs))]) (by repeat (first | exact Rems.nil | (apply Rems.cons; focus (repeat (first | with_reducible exact Rem.here | with_reducible apply Rem.there)))))
          simp only [List.cons_append, List.nil_append] at a1
          have a2 := a1.rd_own.rd_and.rd_mono (ψ := NeedsOK (ts ++ n1 ++ zs.set (fj - (ts ++ n1).length) ⟨wk, nats (lasts t1 ts.length), A', c'⟩)) (fun w h t ht => by
            rcases List.mem_append.1 ht with ht | ht
            · exact h.2 t (List.mem_append_left _ ht)
            · rcases List.mem_or_eq_of_mem_set ht with ht | ht
              · exact h.2 t (List.mem_append_right _ ht)
              · subst ht
                exact h.1)
          have hlz : (ts ++ n1 ++ zs.set (fj - (ts ++ n1).length) ⟨wk, nats (lasts t1 ts.length), A', c'⟩).length = (ts ++ n1 ++ zs).length := by simp
          dsimp only
          rw [hlz]
          exact a2.perm (by repeat (first | exact Rems.nil | (apply Rems.cons; focus (repeat (first | with_reducible exact Rem.here | with_reducible apply Rem.there)))))
        · (refine X.exit rfl ?_)
          refine X.region ?_
          (first | refine O.fieldB0 td93_0 ?_ | refine O.fieldA td93_0 ?_ | refine O.fieldB td93_0 ?_)
          (first | refine O.loadB tf44 ?_ | refine O.loadO tf44 (by first | assumption | (simp only [Nat.add_zero, Nat.zero_add]; assumption)) ?_ | refine O.loadOwn tf44 ?_)
          (first | refine O.fieldB0 td93_1 ?_ | refine O.fieldA td93_1 ?_ | refine O.fieldB td93_1 ?_)
          (first | refine O.loadB tf44 ?_ | refine O.loadO tf44 (by first | assumption | (simp only [Nat.add_zero, Nat.zero_add]; assumption)) ?_ | refine O.loadOwn tf44 ?_)
          (first | refine O.fieldB0 td93_2 ?_ | refine O.fieldA td93_2 ?_ | refine O.fieldB td93_2 ?_)
          (first | refine O.loadB tf3 ?_ | refine O.loadO tf3 (by first | assumption | (simp only [Nat.add_zero, Nat.zero_add]; assumption)) ?_ | refine O.loadOwn tf3 ?_)
          (first | refine O.fieldB0 td93_2 ?_ | refine O.fieldA td93_2 ?_ | refine O.fieldB td93_2 ?_)
          (first | refine O.loadB tf3 ?_ | refine O.loadO tf3 (by first | assumption | (simp only [Nat.add_zero, Nat.zero_add]; assumption)) ?_ | refine O.loadOwn tf3 ?_)
          refine O.add ?_
          (first | refine O.fieldB0 td93_3 ?_ | refine O.fieldA td93_3 ?_ | refine O.fieldB td93_3 ?_)
          (first | refine O.loadB tf3 ?_ | refine O.loadO tf3 (by first | assumption | (simp only [Nat.add_zero, Nat.zero_add]; assumption)) ?_ | refine O.loadOwn tf3 ?_)
          (first | refine O.fieldB0 td93_3 ?_ | refine O.fieldA td93_3 ?_ | refine O.fieldB td93_3 ?_)
          (first | refine O.loadB tf3 ?_ | refine O.loadO tf3 (by first | assumption | (simp only [Nat.add_zero, Nat.zero_add]; assumption)) ?_ | refine O.loadOwn tf3 ?_)
          refine O.add ?_
          refine O.build (.agg #[.slice fA1 (firsts t1 ts.length).length fc1, .slice lA2 (lasts t2 (ts ++ n1).length).length lc2, .int .i64 (work capR t1 + work capR t2), .int .i64 (span capR t1 + span capR t2)]) ?_
          refine O.store _ ts93 ?_
          refine XO.nil ?_
          (refine X.inBlock ?_)
          have hje : j = (firsts t2 (ts ++ n1).length).length := by have := of_decide_eq_false c7; omega
          rw [hje, List.take_length, hg2.1, hnl] at j2
          refine X.st (fun w' hs => ?_) (X.sub (by repeat (first | exact Sub.nil | refine Sub.cons rfl (by first | rfl | simp) ?_)) (next (q, .seq t1 t2, r2, ⟨n1 ++ zs, A2, cc2, fA1, fc1, lA2, lc2⟩) ⟨by dsimp only; omega, k2, hsuf2', by dsimp only [size]; omega, by dsimp only; omega, ⟨by rw [List.map_append, j2, k6.1]; rfl, wf_append k6.2 j3⟩, ⟨k7, hd2⟩⟩ (by dsimp only; omega)))
          have a1 := hs.rems (L1 := [HP.rd (ClothOK t2 (ts ++ n1).length ⟨n2, A2, cc2, fA2, fc2, lA2, lc2⟩), HP.rd (ClothOK t1 ts.length ⟨n1, A1, cc1, fA1, fc1, lA1, lc1⟩)]) (by repeat (first | exact Rems.nil | (apply Rems.cons; focus (repeat (first | with_reducible exact Rem.here | with_reducible apply Rem.there)))))
          simp only [List.cons_append, List.nil_append] at a1
          have a2 := a1.rd_and.rd_mono (ψ := ClothOK (.seq t1 t2) ts.length ⟨n1 ++ zs, A2, cc2, fA1, fc1, lA2, lc2⟩) (fun w h => ⟨h.2.1, by have h9 := h.1.2; rw [hnl] at h9; exact h9⟩)
          dsimp only [firsts, lasts, work, span]
          rw [← List.append_assoc, ← hnl]
          exact a2.perm (by repeat (first | exact Rems.nil | (apply Rems.cons; focus (repeat (first | with_reducible exact Rem.here | with_reducible apply Rem.there)))))
      · obtain ⟨hp2, hg2⟩ := hp
        dsimp only [smV, smL] at hp2 hg2 ⊢
        simp only [List.cons_append, List.nil_append]
        rw [hp2] at k2
        have hgi := hg2.i
        rw [← hi1] at hg2
        obtain ⟨bi, bf, bl, bw0, bw, bs0, bs⟩ := id hg2
        refine O.alloc tz93 (fun b4 hb4 => ?_)
        refine O.store _ ts93 ?_
        refine XO.nil ?_
        (refine X.seq ?_; refine X.seq ?_)
        refine X.region ?_
        refine O.move ?_
        refine O.nilCheck ?_
        (first | refine O.fieldB0 td91_3 ?_ | refine O.fieldA td91_3 ?_ | refine O.fieldB td91_3 ?_)
        (first | refine O.loadB tf3 ?_ | refine O.loadO tf3 (by first | assumption | (simp only [Nat.add_zero, Nat.zero_add]; assumption)) ?_ | refine O.loadOwn tf3 ?_)
        refine O.neq ?_
        refine XO.nil ?_
        refine X.condT rfl (by rfl) ?_
        (refine X.exit rfl ?_; refine X.seq ?_)
        refine X.region ?_
        refine O.loadAggB ta93 ?_
        refine O.store _ ts93 ?_
        refine XO.nil ?_
        refine X.retC1 hfn ta93 rfl (fun w hs => CellsAt.of_blk (n := 4) hs .here rfl) (fun w' hs => ?_)
        rw [k2]
        refine ⟨.inr ⟨y.i, y.A, y.c, y.n, nats (firsts t1 ts.length), nats (lasts t1 ts.length), fA1, fc1, lA1, lc1, work capR t1, span capR t1⟩, ⟨rfl, ⟨hgi, by rw [nats_length]; omega, by rw [nats_length]; omega, hw1.1, by dsimp only; omega, hw1.2.2.1, by dsimp only; omega⟩⟩, by simp only [smV, nats_length]; rfl, ?_⟩
        have a1 := hs.rems (L1 := [HP.rd (ClothOK t1 ts.length ⟨n1, A1, cc1, fA1, fc1, lA1, lc1⟩)]) (by repeat (first | exact Rems.nil | (apply Rems.cons; focus (repeat (first | with_reducible exact Rem.here | with_reducible apply Rem.there)))))
        simp only [List.cons_append, List.nil_append] at a1
        dsimp only [smL]
        exact (a1.rd_mono (ψ := ReadsB ⟨y.i, y.A, y.c, y.n, nats (firsts t1 ts.length), nats (lasts t1 ts.length), fA1, fc1, lA1, lc1, work capR t1, span capR t1⟩) (fun w h => h)).perm (by repeat (first | exact Rems.nil | (apply Rems.cons; focus (repeat (first | with_reducible exact Rem.here | with_reducible apply Rem.there)))))
    · have h59 : r1.head? ≠ some 59 := by simpa using c2
      obtain ⟨q, rfl⟩ : ∃ q', q = q' + 1 := ⟨q - 1, by omega⟩
      rw [behindL, if_neg h59] at k2
      (refine X.exit rfl ?_; refine X.seq ?_)
      refine X.region ?_
      refine O.loadAggB ta93 ?_
      refine O.store _ ts93 ?_
      refine XO.nil ?_
      refine X.retC1 hfn ta93 rfl (fun w hs => CellsAt.of_blk (n := 4) hs .here rfl) (fun w' hs => ?_)
      rw [k2]
      exact ⟨.inl (t1, r1, ⟨n1, A1, cc1, fA1, fc1, lA1, lc1⟩), ⟨rfl, k6⟩, rfl, hs.perm (by repeat (first | exact Rems.nil | (apply Rems.cons; focus (repeat (first | with_reducible exact Rem.here | with_reducible apply Rem.there)))))⟩
  · obtain ⟨hp0, hg0⟩ := hp
    dsimp only [smV, smL] at hp0 hg0 ⊢
    simp only [List.cons_append, List.nil_append]
    have hgi := hg0.i
    rw [hp0]
    dsimp only
    refine O.alloc tz93 (fun b3 hb3 => ?_)
    refine O.store _ ts93 ?_
    refine XO.nil ?_
    (refine X.seq ?_; refine X.block ?_)
    refine X.loop (γ := Unit) (fun _ => True) (fun _ => [⟨0, true, .pointer (some ⟨b, 0, none⟩)⟩, ⟨2, true, .pointer (some ⟨b2, 0, none⟩)⟩, ⟨3, true, .pointer (some ⟨b3, 0, none⟩)⟩]) (fun _ => St w S [HP.blk b3 (.cells #[.slice (y).fA (y).f.length (y).fc, .slice (y).lA (y).l.length (y).lc, .int .i64 (y).wk, .int .i64 (y).sp] 93 (0, 0)), HP.blk b2 (.cells #[.slice none 0 0, .slice none 0 0, .int .i64 0, .int .i64 0] 93 (0, 0)), HP.blk b (rC s y.i y.A y.c y.n 2), HP.rd (ReadsB y)]) (fun _ => 0) () trivial (by repeat (first | exact Sub.nil | refine Sub.cons rfl (by first | rfl | simp) ?_)) (fun w hs => hs.perm (by repeat (first | exact Rems.nil | (apply Rems.cons; focus (repeat (first | with_reducible exact Rem.here | with_reducible apply Rem.there)))))) ?_
    rintro _ _ next
    (refine X.seq ?_; refine X.seq ?_)
    refine X.region ?_
    refine O.move ?_
    refine O.callB (.bool (decide ((2 : Int) = 0) && decide ((rest s y.i).head? = some 59))) te60 ?_ (hc := by intro _ w hs; exact next_calls b s y.i y.A y.c y.n 2 59 hgi hz w (hs.blk_at (.there (.there .here))))
    refine XO.nil ?_
    refine X.condF rfl (by simp) ?_
    (refine X.exit rfl ?_; refine X.seq ?_)
    refine X.region ?_
    refine O.loadAggB ta93 ?_
    refine O.store _ ts93 ?_
    refine XO.nil ?_
    refine X.retC1 hfn ta93 rfl (fun w hs => CellsAt.of_blk (n := 4) hs .here rfl) (fun w' hs => ?_)
    exact ⟨.inr y, ⟨rfl, hg0⟩, rfl, hs.perm (by repeat (first | exact Rems.nil | (apply Rems.cons; focus (repeat (first | with_reducible exact Rem.here | with_reducible apply Rem.there)))))⟩

theorem len_of_none {w : World} {A : Option Addr} {l : List Int} (h : Reads w A (ints l)) (e : A = none) : l.length = 0 := by
  cases l with
  | nil => rfl
  | cons a r =>
    obtain ⟨ad, h1⟩ := h.addr (j := 0) (by simp)
    rw [e] at h1
    cases h1

noncomputable def cxBesideR : Cx := ⟨Tryd.prog, 37, 55, []⟩
set_option maxHeartbeats 2000000 in
theorem besideR_step (f : Nat) (ih : ∀ f', f' ≤ f → BehindR f') : BesideR (f + 1) := by
  intro b s i A c ts w S hat hf
  obtain ⟨hi, hz, hts, hst⟩ := hat
  have hfn := Tryd.func37
  have hrl := rest_length s i
  have hbeh : beside (f + 1) (rest s i) = (match behind f (rest s i) with | some (c, r) => besideL f c r | none => none) := by rw [beside]; rfl
  rw [hbeh]
  refine calls_of_X cxBesideR [.pointer (some ⟨b, 0, none⟩)] hfn hst ?_
  (refine X.seq ?_)
  refine X.region ?_
  refine O.alloc tz93 (fun b2 hb2 => ?_)
  refine XO.nil ?_
  (refine X.seq ?_)
  refine X.region ?_
  refine O.move ?_
  refine O.callS (L1 := [HP.blk b (rC s (i) (A) (c) (ts).length 0), HP.own 46 2 (.slice (A) (ts).length (c)) (ts).length (planRow (ts)), HP.rd (NeedsOK (ts))]) (α := Sm) (φ := smP s (rest s i).length (ts).length (behind f (rest s i))) (vo := smV (ts).length) (L1' := smL b s (ts)) te59 (hr := (by repeat (first | exact Rems.nil | (apply Rems.cons; focus (repeat (first | with_reducible exact Rem.here | with_reducible apply Rem.there)))))) (hc := by intro w' S' h1 h2 h3; exact ih f (Nat.le_refl _) b s i A c ts w' S' ⟨hi, hz, hts, h1⟩ (by omega)) (next := ?_)
  rintro (⟨t0, r0, x0⟩ | y) hp
  skip
  · obtain ⟨hp0, hg0⟩ := hp
    dsimp only [smV, smL] at hp0 hg0 ⊢
    simp only [List.cons_append, List.nil_append]
    obtain ⟨hsuf0, hlen0⟩ := behind_fact f hp0
    have hd0 := behind_digits f hp0
    rw [hp0]
    dsimp only
    refine O.alloc tz93 (fun b3 hb3 => ?_)
    refine O.store _ ts93 ?_
    refine XO.nil ?_
    (refine X.seq ?_; refine X.block ?_)
    refine X.loop (γ := (Nat × T × L × Res) ⊕ Bad) (fun x => match x with
        | .inl y => y.1 ≤ f ∧ besideL f t0 r0 = besideL y.1 y.2.1 y.2.2.1 ∧ y.2.2.1 <:+ rest s i ∧ size y.2.1 + y.2.2.1.length ≤ (rest s i).length ∧ 3 * y.2.2.1.length + 2 ≤ y.1 ∧ GoodR y.2.1 ts.length y.2.2.2 ∧ digits y.2.1
        | .inr y => besideL f t0 r0 = none ∧ BadOK s (rest s i).length y)
      (fun y => [⟨0, true, .pointer (some ⟨b, 0, none⟩)⟩, ⟨2, true, .pointer (some ⟨b2, 0, none⟩)⟩, ⟨3, true, .pointer (some ⟨b3, 0, none⟩)⟩])
      (fun x => match x with
        | .inl y => St w S [HP.blk b3 (.cells #[.slice (y.2.2.2).fA (firsts (y.2.1) (ts.length)).length (y.2.2.2).fc, .slice (y.2.2.2).lA (lasts (y.2.1) (ts.length)).length (y.2.2.2).lc, .int .i64 (work capR (y.2.1)), .int .i64 (span capR (y.2.1))] 93 (0, 0)), HP.blk b2 (.cells #[.slice none 0 0, .slice none 0 0, .int .i64 0, .int .i64 0] 93 (0, 0)), HP.blk b (rC s (s.size - y.2.2.1.length) (y.2.2.2.A) (y.2.2.2.c) (ts ++ y.2.2.2.new).length 0), HP.own 46 2 (.slice (y.2.2.2.A) (ts ++ y.2.2.2.new).length (y.2.2.2.c)) (ts ++ y.2.2.2.new).length (planRow (ts ++ y.2.2.2.new)), HP.rd (NeedsOK (ts ++ y.2.2.2.new)), HP.rd (ClothOK y.2.1 ts.length y.2.2.2)]
        | .inr y => St w S [HP.blk b3 (.cells #[.slice (y).fA (y).f.length (y).fc, .slice (y).lA (y).l.length (y).lc, .int .i64 (y).wk, .int .i64 (y).sp] 93 (0, 0)), HP.blk b2 (.cells #[.slice none 0 0, .slice none 0 0, .int .i64 0, .int .i64 0] 93 (0, 0)), HP.blk b (rC s y.i y.A y.c y.n 2), HP.rd (ReadsB y)])
      (fun x => match x with
        | .inl y => y.2.2.1.length + 1
        | .inr y => 0) (.inl (f, t0, r0, x0)) ⟨Nat.le_refl _, rfl, hsuf0, hlen0, by have := size_pos t0; dsimp only; omega, hg0, hd0⟩ (by repeat (first | exact Sub.nil | refine Sub.cons rfl (by first | rfl | simp) ?_)) (fun w' hs => by dsimp only; exact hs.perm (by repeat (first | exact Rems.nil | (apply Rems.cons; focus (repeat (first | with_reducible exact Rem.here | with_reducible apply Rem.there)))))) ?_
    rintro x hk next
    (refine X.seq ?_; refine X.seq ?_)
    refine X.region ?_
    rcases x with ⟨q, t1, r1, ⟨n1, A1, cc1, fA1, fc1, lA1, lc1⟩⟩ | y
    · obtain ⟨k1, k2, k3, k4, k5, k6, k7⟩ := hk
      dsimp only at k1 k2 k3 k4 k5 k6 k7 ⊢
      have hr1 := rest_suffix k3 hi
      have hsz1 := size_pos t1
      have hnl : (ts ++ n1).length = ts.length + size t1 := by rw [List.length_append]; have h9 := k6.len; dsimp only at h9; omega
      have hw1 := capR_bound k7
      have hl1 := lasts_length t1 ts.length
      have hf1 := firsts_length t1 ts.length
      have hn1 := lasts_ne t1 ts.length
      have hn3 := firsts_ne t1 ts.length
      refine O.move ?_
      refine O.callB (.bool (decide ((0 : Int) = 0) && decide (r1.head? = some 124))) te60 ?_ (hc := by intro _ w hs; exact (by have h9 := next_calls b s (s.size - r1.length) A1 cc1 (ts ++ n1).length 0 124 (by omega) hz w (hs.blk_at (.there (.there .here))); rw [← hr1] at h9; exact h9))
      refine XO.nil ?_
      refine X.cond rfl (fun c2 => ?_) (fun c2 => ?_)
      · have h59 : r1.head? = some 124 := by simpa using c2
        have htl2 := tail_len h59
        obtain ⟨q, rfl⟩ : ∃ q', q = q' + 1 := ⟨q - 1, by omega⟩
        have hi1 : r1.tail = rest s (s.size - r1.length + 1) := by
          have h9 := (rest_head s (s.size - r1.length) (by omega)).2
          rw [← hr1] at h9
          exact h9
        rw [besideL, if_pos h59, hi1] at k2
        (refine X.skip ?_; refine X.block ?_; refine X.seq ?_)
        refine X.region ?_
        refine O.move ?_
        refine O.nilCheck ?_
        (first | refine O.fieldB0 td91_1 ?_ | refine O.fieldA td91_1 ?_ | refine O.fieldB td91_1 ?_)
        (first | refine O.loadB tf3 ?_ | refine O.loadO tf3 (by first | assumption | (simp only [Nat.add_zero, Nat.zero_add]; assumption)) ?_ | refine O.loadOwn tf3 ?_)
        refine O.add (r := ((s.size - r1.length + 1 : Nat) : Int)) ?_ (hr := by intro _; rw [wrap_i64 (by omega) (by omega)]; rfl)
        refine O.nilCheck ?_
        (first | refine O.fieldB0 td91_1 ?_ | refine O.fieldA td91_1 ?_ | refine O.fieldB td91_1 ?_)
        refine O.store _ ts3 ?_
        refine XO.nil ?_
        (refine X.seq ?_)
        refine X.region ?_
        refine O.move ?_
        refine O.callS (L1 := [HP.blk b (rC s (s.size - r1.length + 1) (A1) (cc1) (ts ++ n1).length 0), HP.own 46 2 (.slice (A1) (ts ++ n1).length (cc1)) (ts ++ n1).length (planRow (ts ++ n1)), HP.rd (NeedsOK (ts ++ n1))]) (α := Sm) (φ := smP s (rest s (s.size - r1.length + 1)).length (ts ++ n1).length (behind q (rest s (s.size - r1.length + 1)))) (vo := smV (ts ++ n1).length) (L1' := smL b s (ts ++ n1)) te59 (hr := (by repeat (first | exact Rems.nil | (apply Rems.cons; focus (repeat (first | with_reducible exact Rem.here | with_reducible apply Rem.there)))))) (hc := by intro w' S' h1 h2 h3; exact ih q (by omega) b s (s.size - r1.length + 1) A1 cc1 (ts ++ n1) w' S' ⟨by omega, hz, by omega, h1⟩ (by rw [← hi1]; omega)) (next := ?_)
        rintro (⟨t2, r2, ⟨n2, A2, cc2, fA2, fc2, lA2, lc2⟩⟩ | y) hp
        skip
        · obtain ⟨hp2, hg2⟩ := hp
          dsimp only [smV, smL] at hp2 hg2 ⊢
          simp only [List.cons_append, List.nil_append]
          obtain ⟨hsuf2, hlen2⟩ := behind_fact q hp2
          have hd2 := behind_digits q hp2
          have hsuf2' : r2 <:+ rest s i := (hi1 ▸ hsuf2).trans ((List.tail_suffix r1).trans k3)
          have hr2 := rest_suffix hsuf2' hi
          rw [← hi1] at hlen2
          have hsz2 := size_pos t2
          rw [hp2] at k2
          have hw2 := capR_bound hd2
          have hl2 := lasts_length t2 (ts ++ n1).length
          have hf2 := firsts_length t2 (ts ++ n1).length
          have hn2 := lasts_ne t2 (ts ++ n1).length
          have hn4 := firsts_ne t2 (ts ++ n1).length
          refine O.alloc tz93 (fun b4 hb4 => ?_)
          refine O.store _ ts93 ?_
          refine XO.nil ?_
          (refine X.seq ?_)
          refine X.region ?_
          refine O.assign ?_
          refine O.assign ?_
          refine XO.nil ?_
          (refine X.seq ?_)
          refine X.region ?_
          refine O.move ?_
          (first | refine O.fieldB0 td93_0 ?_ | refine O.fieldA td93_0 ?_ | refine O.fieldB td93_0 ?_)
          (first | refine O.loadB tf44 ?_ | refine O.loadO tf44 (by first | assumption | (simp only [Nat.add_zero, Nat.zero_add]; assumption)) ?_ | refine O.loadOwn tf44 ?_)
          refine O.empty 3 1 ?_
          refine O.append (ints (nats (firsts t1 ts.length))) (firsts t1 ts.length).length tl44 elemInt (hsrc := fun w' hs => Src.ofReads tl44.1 (hs.rd (φ := ClothOK t1 ts.length ⟨n1, A1, cc1, fA1, fc1, lA1, lc1⟩) (by repeat (first | with_reducible exact Rem.here | with_reducible apply Rem.there))).1 (by simp [nats]) (fun e => absurd e (addr_of_ne (hs.rd (φ := ClothOK t1 ts.length ⟨n1, A1, cc1, fA1, fc1, lA1, lc1⟩) (by repeat (first | with_reducible exact Rem.here | with_reducible apply Rem.there))).1 hn3)) (ints_one _)) (h63 := by simp only [maxLen]; omega) (hbytes := by omega) (next := fun Aa ca => ?_)
          simp only [Nat.zero_add, List.nil_append, ← ints_append, ← nats_append, ← List.length_append]
          refine O.assign ?_
          refine XO.nil ?_
          (refine X.seq ?_)
          refine X.region ?_
          refine O.move ?_
          (first | refine O.fieldB0 td93_0 ?_ | refine O.fieldA td93_0 ?_ | refine O.fieldB td93_0 ?_)
          (first | refine O.loadB tf44 ?_ | refine O.loadO tf44 (by first | assumption | (simp only [Nat.add_zero, Nat.zero_add]; assumption)) ?_ | refine O.loadOwn tf44 ?_)
          refine O.append (ints (nats (firsts t2 (ts ++ n1).length))) (firsts t2 (ts ++ n1).length).length tl44 elemInt (hsrc := fun w' hs => Src.ofReads tl44.1 (hs.rd (φ := ClothOK t2 (ts ++ n1).length ⟨n2, A2, cc2, fA2, fc2, lA2, lc2⟩) (by repeat (first | with_reducible exact Rem.here | with_reducible apply Rem.there))).1 (by simp [nats]) (fun e => absurd e (addr_of_ne (hs.rd (φ := ClothOK t2 (ts ++ n1).length ⟨n2, A2, cc2, fA2, fc2, lA2, lc2⟩) (by repeat (first | with_reducible exact Rem.here | with_reducible apply Rem.there))).1 hn4)) (ints_one _)) (h63 := by simp only [maxLen]; omega) (hbytes := by omega) (next := fun Ab cb => ?_)
          simp only [Nat.zero_add, List.nil_append, ← ints_append, ← nats_append, ← List.length_append]
          refine O.assign ?_
          refine XO.nil ?_
          (refine X.seq ?_)
          refine X.region ?_
          refine O.move ?_
          (first | refine O.fieldB0 td93_1 ?_ | refine O.fieldA td93_1 ?_ | refine O.fieldB td93_1 ?_)
          (first | refine O.loadB tf44 ?_ | refine O.loadO tf44 (by first | assumption | (simp only [Nat.add_zero, Nat.zero_add]; assumption)) ?_ | refine O.loadOwn tf44 ?_)
          refine O.empty 3 1 ?_
          refine O.append (ints (nats (lasts t1 ts.length))) (lasts t1 ts.length).length tl44 elemInt (hsrc := fun w' hs => Src.ofReads tl44.1 (hs.rd (φ := ClothOK t1 ts.length ⟨n1, A1, cc1, fA1, fc1, lA1, lc1⟩) (by repeat (first | with_reducible exact Rem.here | with_reducible apply Rem.there))).2 (by simp [nats]) (fun e => absurd e (addr_of_ne (hs.rd (φ := ClothOK t1 ts.length ⟨n1, A1, cc1, fA1, fc1, lA1, lc1⟩) (by repeat (first | with_reducible exact Rem.here | with_reducible apply Rem.there))).2 hn1)) (ints_one _)) (h63 := by simp only [maxLen]; omega) (hbytes := by omega) (next := fun Ac cc => ?_)
          simp only [Nat.zero_add, List.nil_append, ← ints_append, ← nats_append, ← List.length_append]
          refine O.assign ?_
          refine XO.nil ?_
          (refine X.seq ?_)
          refine X.region ?_
          refine O.move ?_
          (first | refine O.fieldB0 td93_1 ?_ | refine O.fieldA td93_1 ?_ | refine O.fieldB td93_1 ?_)
          (first | refine O.loadB tf44 ?_ | refine O.loadO tf44 (by first | assumption | (simp only [Nat.add_zero, Nat.zero_add]; assumption)) ?_ | refine O.loadOwn tf44 ?_)
          refine O.append (ints (nats (lasts t2 (ts ++ n1).length))) (lasts t2 (ts ++ n1).length).length tl44 elemInt (hsrc := fun w' hs => Src.ofReads tl44.1 (hs.rd (φ := ClothOK t2 (ts ++ n1).length ⟨n2, A2, cc2, fA2, fc2, lA2, lc2⟩) (by repeat (first | with_reducible exact Rem.here | with_reducible apply Rem.there))).2 (by simp [nats]) (fun e => absurd e (addr_of_ne (hs.rd (φ := ClothOK t2 (ts ++ n1).length ⟨n2, A2, cc2, fA2, fc2, lA2, lc2⟩) (by repeat (first | with_reducible exact Rem.here | with_reducible apply Rem.there))).2 hn2)) (ints_one _)) (h63 := by simp only [maxLen]; omega) (hbytes := by omega) (next := fun Ad cd => ?_)
          simp only [Nat.zero_add, List.nil_append, ← ints_append, ← nats_append, ← List.length_append]
          refine O.assign ?_
          refine XO.nil ?_
          (refine X.seq ?_)
          refine X.region ?_
          (first | refine O.fieldB0 td93_3 ?_ | refine O.fieldA td93_3 ?_ | refine O.fieldB td93_3 ?_)
          (first | refine O.loadB tf3 ?_ | refine O.loadO tf3 (by first | assumption | (simp only [Nat.add_zero, Nat.zero_add]; assumption)) ?_ | refine O.loadOwn tf3 ?_)
          refine O.assign ?_
          refine XO.nil ?_
          (refine X.seq ?_; refine X.seq ?_)
          refine X.region ?_
          (first | refine O.fieldB0 td93_3 ?_ | refine O.fieldA td93_3 ?_ | refine O.fieldB td93_3 ?_)
          (first | refine O.loadB tf3 ?_ | refine O.loadO tf3 (by first | assumption | (simp only [Nat.add_zero, Nat.zero_add]; assumption)) ?_ | refine O.loadOwn tf3 ?_)
          refine O.move ?_
          refine O.gtr ?_
          refine XO.nil ?_
          refine X.cond rfl (fun c11 => ?_) (fun c11 => ?_)
          · have c11' := of_decide_eq_true c11
            refine X.region ?_
            (first | refine O.fieldB0 td93_3 ?_ | refine O.fieldA td93_3 ?_ | refine O.fieldB td93_3 ?_)
            (first | refine O.loadB tf3 ?_ | refine O.loadO tf3 (by first | assumption | (simp only [Nat.add_zero, Nat.zero_add]; assumption)) ?_ | refine O.loadOwn tf3 ?_)
            refine O.assign ?_
            refine XO.nil ?_
            refine X.region ?_
            refine O.move ?_
            refine O.move ?_
            (first | refine O.fieldB0 td93_2 ?_ | refine O.fieldA td93_2 ?_ | refine O.fieldB td93_2 ?_)
            (first | refine O.loadB tf3 ?_ | refine O.loadO tf3 (by first | assumption | (simp only [Nat.add_zero, Nat.zero_add]; assumption)) ?_ | refine O.loadOwn tf3 ?_)
            (first | refine O.fieldB0 td93_2 ?_ | refine O.fieldA td93_2 ?_ | refine O.fieldB td93_2 ?_)
            (first | refine O.loadB tf3 ?_ | refine O.loadO tf3 (by first | assumption | (simp only [Nat.add_zero, Nat.zero_add]; assumption)) ?_ | refine O.loadOwn tf3 ?_)
            refine O.add ?_
            refine O.move ?_
            refine O.build (.agg #[.slice Ab (firsts t1 ts.length ++ firsts t2 (ts ++ n1).length).length cb, .slice Ad (lasts t1 ts.length ++ lasts t2 (ts ++ n1).length).length cd, .int .i64 (work capR t1 + work capR t2), .int .i64 (max (span capR t1) (span capR t2))]) ?_ (hrun := by first | (intro w; rw [Int.max_eq_right (by omega)]; kernel_rfl) | (intro w; rw [Int.max_eq_left (by omega)]; kernel_rfl))
            refine O.store _ ts93 ?_
            refine XO.nil ?_
            (refine X.inBlock ?_)
            refine X.st (fun w' hs => ?_) (X.sub (by repeat (first | exact Sub.nil | refine Sub.cons rfl (by first | rfl | simp) ?_)) (next (.inl (q, .par t1 t2, r2, ⟨n1 ++ n2, A2, cc2, Ab, cb, Ad, cd⟩)) ⟨by dsimp only; omega, k2, hsuf2', by dsimp only [size]; omega, by dsimp only; omega, ⟨by rw [List.map_append, hg2.1, k6.1, hnl]; rfl, wf_append k6.2 hg2.2⟩, ⟨k7, hd2⟩⟩ (by dsimp only; omega)))
            have a1 := hs.rems (L1 := [HP.own 3 1 (.slice Ab (firsts t1 ts.length ++ firsts t2 (ts ++ n1).length).length cb) (firsts t1 ts.length ++ firsts t2 (ts ++ n1).length).length (ints (nats (firsts t1 ts.length ++ firsts t2 (ts ++ n1).length)))]) (by repeat (first | exact Rems.nil | (apply Rems.cons; focus (repeat (first | with_reducible exact Rem.here | with_reducible apply Rem.there)))))
            simp only [List.cons_append, List.nil_append] at a1
            have a2 := a1.rd_own.rems (L1 := [HP.own 3 1 (.slice Ad (lasts t1 ts.length ++ lasts t2 (ts ++ n1).length).length cd) (lasts t1 ts.length ++ lasts t2 (ts ++ n1).length).length (ints (nats (lasts t1 ts.length ++ lasts t2 (ts ++ n1).length))), HP.rd (fun w => Reads w Ab (ints (nats (firsts t1 ts.length ++ firsts t2 (ts ++ n1).length))))]) (by repeat (first | exact Rems.nil | (apply Rems.cons; focus (repeat (first | with_reducible exact Rem.here | with_reducible apply Rem.there)))))
            simp only [List.cons_append, List.nil_append] at a2
            have a3 := a2.rd_own.rd_and.rd_mono (ψ := ClothOK (.par t1 t2) ts.length ⟨n1 ++ n2, A2, cc2, Ab, cb, Ad, cd⟩) (fun w h => ⟨by have h9 := h.2; rw [hnl] at h9; exact h9, by have h9 := h.1; rw [hnl] at h9; exact h9⟩)
            dsimp only [firsts, lasts, work, span]
            rw [← List.append_assoc, ← hnl]
            exact a3.perm (by repeat (first | exact Rems.nil | (apply Rems.cons; focus (repeat (first | with_reducible exact Rem.here | with_reducible apply Rem.there)))))
          · have c11' := of_decide_eq_false c11
            (refine X.skip ?_)
            refine X.region ?_
            refine O.move ?_
            refine O.move ?_
            (first | refine O.fieldB0 td93_2 ?_ | refine O.fieldA td93_2 ?_ | refine O.fieldB td93_2 ?_)
            (first | refine O.loadB tf3 ?_ | refine O.loadO tf3 (by first | assumption | (simp only [Nat.add_zero, Nat.zero_add]; assumption)) ?_ | refine O.loadOwn tf3 ?_)
            (first | refine O.fieldB0 td93_2 ?_ | refine O.fieldA td93_2 ?_ | refine O.fieldB td93_2 ?_)
            (first | refine O.loadB tf3 ?_ | refine O.loadO tf3 (by first | assumption | (simp only [Nat.add_zero, Nat.zero_add]; assumption)) ?_ | refine O.loadOwn tf3 ?_)
            refine O.add ?_
            refine O.move ?_
            refine O.build (.agg #[.slice Ab (firsts t1 ts.length ++ firsts t2 (ts ++ n1).length).length cb, .slice Ad (lasts t1 ts.length ++ lasts t2 (ts ++ n1).length).length cd, .int .i64 (work capR t1 + work capR t2), .int .i64 (max (span capR t1) (span capR t2))]) ?_ (hrun := by first | (intro w; rw [Int.max_eq_right (by omega)]; kernel_rfl) | (intro w; rw [Int.max_eq_left (by omega)]; kernel_rfl))
            refine O.store _ ts93 ?_
            refine XO.nil ?_
            (refine X.inBlock ?_)
            refine X.st (fun w' hs => ?_) (X.sub (by repeat (first | exact Sub.nil | refine Sub.cons rfl (by first | rfl | simp) ?_)) (next (.inl (q, .par t1 t2, r2, ⟨n1 ++ n2, A2, cc2, Ab, cb, Ad, cd⟩)) ⟨by dsimp only; omega, k2, hsuf2', by dsimp only [size]; omega, by dsimp only; omega, ⟨by rw [List.map_append, hg2.1, k6.1, hnl]; rfl, wf_append k6.2 hg2.2⟩, ⟨k7, hd2⟩⟩ (by dsimp only; omega)))
            have a1 := hs.rems (L1 := [HP.own 3 1 (.slice Ab (firsts t1 ts.length ++ firsts t2 (ts ++ n1).length).length cb) (firsts t1 ts.length ++ firsts t2 (ts ++ n1).length).length (ints (nats (firsts t1 ts.length ++ firsts t2 (ts ++ n1).length)))]) (by repeat (first | exact Rems.nil | (apply Rems.cons; focus (repeat (first | with_reducible exact Rem.here | with_reducible apply Rem.there)))))
            simp only [List.cons_append, List.nil_append] at a1
            have a2 := a1.rd_own.rems (L1 := [HP.own 3 1 (.slice Ad (lasts t1 ts.length ++ lasts t2 (ts ++ n1).length).length cd) (lasts t1 ts.length ++ lasts t2 (ts ++ n1).length).length (ints (nats (lasts t1 ts.length ++ lasts t2 (ts ++ n1).length))), HP.rd (fun w => Reads w Ab (ints (nats (firsts t1 ts.length ++ firsts t2 (ts ++ n1).length))))]) (by repeat (first | exact Rems.nil | (apply Rems.cons; focus (repeat (first | with_reducible exact Rem.here | with_reducible apply Rem.there)))))
            simp only [List.cons_append, List.nil_append] at a2
            have a3 := a2.rd_own.rd_and.rd_mono (ψ := ClothOK (.par t1 t2) ts.length ⟨n1 ++ n2, A2, cc2, Ab, cb, Ad, cd⟩) (fun w h => ⟨by have h9 := h.2; rw [hnl] at h9; exact h9, by have h9 := h.1; rw [hnl] at h9; exact h9⟩)
            dsimp only [firsts, lasts, work, span]
            rw [← List.append_assoc, ← hnl]
            exact a3.perm (by repeat (first | exact Rems.nil | (apply Rems.cons; focus (repeat (first | with_reducible exact Rem.here | with_reducible apply Rem.there)))))
        · obtain ⟨hp2, hg2⟩ := hp
          dsimp only [smV, smL] at hp2 hg2 ⊢
          simp only [List.cons_append, List.nil_append]
          rw [hp2] at k2
          have hgi := hg2.i
          rw [← hi1] at hg2
          have hlf : (firsts t1 ts.length).length + y.f.length = (nats (firsts t1 ts.length) ++ y.f).length := by simp [nats]
          have hll : (lasts t1 ts.length).length + y.l.length = (nats (lasts t1 ts.length) ++ y.l).length := by simp [nats]
          obtain ⟨bi, bf, bl, bw0, bw, bs0, bs⟩ := id hg2
          refine O.alloc tz93 (fun b4 hb4 => ?_)
          refine O.store _ ts93 ?_
          refine XO.nil ?_
          (refine X.seq ?_)
          refine X.region ?_
          refine O.assign ?_
          refine O.assign ?_
          refine XO.nil ?_
          (refine X.seq ?_)
          refine X.region ?_
          refine O.move ?_
          (first | refine O.fieldB0 td93_0 ?_ | refine O.fieldA td93_0 ?_ | refine O.fieldB td93_0 ?_)
          (first | refine O.loadB tf44 ?_ | refine O.loadO tf44 (by first | assumption | (simp only [Nat.add_zero, Nat.zero_add]; assumption)) ?_ | refine O.loadOwn tf44 ?_)
          refine O.empty 3 1 ?_
          refine O.append (ints (nats (firsts t1 ts.length))) (firsts t1 ts.length).length tl44 elemInt (hsrc := fun w' hs => Src.ofReads tl44.1 (hs.rd (φ := ClothOK t1 ts.length ⟨n1, A1, cc1, fA1, fc1, lA1, lc1⟩) (by repeat (first | with_reducible exact Rem.here | with_reducible apply Rem.there))).1 (by simp [nats]) (fun e => absurd e (addr_of_ne (hs.rd (φ := ClothOK t1 ts.length ⟨n1, A1, cc1, fA1, fc1, lA1, lc1⟩) (by repeat (first | with_reducible exact Rem.here | with_reducible apply Rem.there))).1 hn3)) (ints_one _)) (h63 := by simp only [maxLen]; omega) (hbytes := by omega) (next := fun Aa ca => ?_)
          simp only [Nat.zero_add, List.nil_append, ← ints_append, ← nats_append, ← List.length_append]
          refine O.assign ?_
          refine XO.nil ?_
          (refine X.seq ?_)
          refine X.region ?_
          refine O.move ?_
          (first | refine O.fieldB0 td93_0 ?_ | refine O.fieldA td93_0 ?_ | refine O.fieldB td93_0 ?_)
          (first | refine O.loadB tf44 ?_ | refine O.loadO tf44 (by first | assumption | (simp only [Nat.add_zero, Nat.zero_add]; assumption)) ?_ | refine O.loadOwn tf44 ?_)
          refine O.append (ints y.f) y.f.length tl44 elemInt (hsrc := fun w' hs => Src.ofReads tl44.1 (hs.rd (φ := ReadsB y) (by repeat (first | with_reducible exact Rem.here | with_reducible apply Rem.there))).1 (by simp) (fun e => len_of_none ((hs.rd (φ := ReadsB y) (by repeat (first | with_reducible exact Rem.here | with_reducible apply Rem.there))).1) e) (ints_one _)) (h63 := by simp only [maxLen]; omega) (hbytes := by omega) (next := fun Ab cb => ?_)
          simp only [Nat.zero_add, List.nil_append, ← ints_append, hlf]
          refine O.assign ?_
          refine XO.nil ?_
          (refine X.seq ?_)
          refine X.region ?_
          refine O.move ?_
          (first | refine O.fieldB0 td93_1 ?_ | refine O.fieldA td93_1 ?_ | refine O.fieldB td93_1 ?_)
          (first | refine O.loadB tf44 ?_ | refine O.loadO tf44 (by first | assumption | (simp only [Nat.add_zero, Nat.zero_add]; assumption)) ?_ | refine O.loadOwn tf44 ?_)
          refine O.empty 3 1 ?_
          refine O.append (ints (nats (lasts t1 ts.length))) (lasts t1 ts.length).length tl44 elemInt (hsrc := fun w' hs => Src.ofReads tl44.1 (hs.rd (φ := ClothOK t1 ts.length ⟨n1, A1, cc1, fA1, fc1, lA1, lc1⟩) (by repeat (first | with_reducible exact Rem.here | with_reducible apply Rem.there))).2 (by simp [nats]) (fun e => absurd e (addr_of_ne (hs.rd (φ := ClothOK t1 ts.length ⟨n1, A1, cc1, fA1, fc1, lA1, lc1⟩) (by repeat (first | with_reducible exact Rem.here | with_reducible apply Rem.there))).2 hn1)) (ints_one _)) (h63 := by simp only [maxLen]; omega) (hbytes := by omega) (next := fun Ac cc => ?_)
          simp only [Nat.zero_add, List.nil_append, ← ints_append, ← nats_append, ← List.length_append]
          refine O.assign ?_
          refine XO.nil ?_
          (refine X.seq ?_)
          refine X.region ?_
          refine O.move ?_
          (first | refine O.fieldB0 td93_1 ?_ | refine O.fieldA td93_1 ?_ | refine O.fieldB td93_1 ?_)
          (first | refine O.loadB tf44 ?_ | refine O.loadO tf44 (by first | assumption | (simp only [Nat.add_zero, Nat.zero_add]; assumption)) ?_ | refine O.loadOwn tf44 ?_)
          refine O.append (ints y.l) y.l.length tl44 elemInt (hsrc := fun w' hs => Src.ofReads tl44.1 (hs.rd (φ := ReadsB y) (by repeat (first | with_reducible exact Rem.here | with_reducible apply Rem.there))).2 (by simp) (fun e => len_of_none ((hs.rd (φ := ReadsB y) (by repeat (first | with_reducible exact Rem.here | with_reducible apply Rem.there))).2) e) (ints_one _)) (h63 := by simp only [maxLen]; omega) (hbytes := by omega) (next := fun Ad cd => ?_)
          simp only [Nat.zero_add, List.nil_append, ← ints_append, hll]
          refine O.assign ?_
          refine XO.nil ?_
          (refine X.seq ?_)
          refine X.region ?_
          (first | refine O.fieldB0 td93_3 ?_ | refine O.fieldA td93_3 ?_ | refine O.fieldB td93_3 ?_)
          (first | refine O.loadB tf3 ?_ | refine O.loadO tf3 (by first | assumption | (simp only [Nat.add_zero, Nat.zero_add]; assumption)) ?_ | refine O.loadOwn tf3 ?_)
          refine O.assign ?_
          refine XO.nil ?_
          (refine X.seq ?_; refine X.seq ?_)
          refine X.region ?_
          (first | refine O.fieldB0 td93_3 ?_ | refine O.fieldA td93_3 ?_ | refine O.fieldB td93_3 ?_)
          (first | refine O.loadB tf3 ?_ | refine O.loadO tf3 (by first | assumption | (simp only [Nat.add_zero, Nat.zero_add]; assumption)) ?_ | refine O.loadOwn tf3 ?_)
          refine O.move ?_
          refine O.gtr ?_
          refine XO.nil ?_
          refine X.cond rfl (fun c11 => ?_) (fun c11 => ?_)
          · have c11' := of_decide_eq_true c11
            refine X.region ?_
            (first | refine O.fieldB0 td93_3 ?_ | refine O.fieldA td93_3 ?_ | refine O.fieldB td93_3 ?_)
            (first | refine O.loadB tf3 ?_ | refine O.loadO tf3 (by first | assumption | (simp only [Nat.add_zero, Nat.zero_add]; assumption)) ?_ | refine O.loadOwn tf3 ?_)
            refine O.assign ?_
            refine XO.nil ?_
            refine X.region ?_
            refine O.move ?_
            refine O.move ?_
            (first | refine O.fieldB0 td93_2 ?_ | refine O.fieldA td93_2 ?_ | refine O.fieldB td93_2 ?_)
            (first | refine O.loadB tf3 ?_ | refine O.loadO tf3 (by first | assumption | (simp only [Nat.add_zero, Nat.zero_add]; assumption)) ?_ | refine O.loadOwn tf3 ?_)
            (first | refine O.fieldB0 td93_2 ?_ | refine O.fieldA td93_2 ?_ | refine O.fieldB td93_2 ?_)
            (first | refine O.loadB tf3 ?_ | refine O.loadO tf3 (by first | assumption | (simp only [Nat.add_zero, Nat.zero_add]; assumption)) ?_ | refine O.loadOwn tf3 ?_)
            refine O.add ?_
            refine O.move ?_
            refine O.build (.agg #[.slice Ab (nats (firsts t1 ts.length) ++ y.f).length cb, .slice Ad (nats (lasts t1 ts.length) ++ y.l).length cd, .int .i64 (work capR t1 + y.wk), .int .i64 (max (span capR t1) y.sp)]) ?_ (hrun := by first | (intro w; rw [Int.max_eq_right (by omega)]; kernel_rfl) | (intro w; rw [Int.max_eq_left (by omega)]; kernel_rfl))
            refine O.store _ ts93 ?_
            refine XO.nil ?_
            (refine X.inBlock ?_)
            refine X.st (fun w' hs => ?_) (X.sub (by repeat (first | exact Sub.nil | refine Sub.cons rfl (by first | rfl | simp) ?_)) (next (.inr ⟨y.i, y.A, y.c, y.n, nats (firsts t1 ts.length) ++ y.f, nats (lasts t1 ts.length) ++ y.l, Ab, cb, Ad, cd, work capR t1 + y.wk, max (span capR t1) y.sp⟩) ⟨k2, ⟨hgi, by dsimp only; rw [List.length_append, nats_length]; omega, by dsimp only; rw [List.length_append, nats_length]; omega, by dsimp only; omega, by dsimp only; omega, by dsimp only; omega, by dsimp only; omega⟩⟩ (by dsimp only; omega)))
            have a1 := hs.rems (L1 := [HP.own 3 1 (.slice Ab (nats (firsts t1 ts.length) ++ y.f).length cb) (nats (firsts t1 ts.length) ++ y.f).length (ints (nats (firsts t1 ts.length) ++ y.f))]) (by repeat (first | exact Rems.nil | (apply Rems.cons; focus (repeat (first | with_reducible exact Rem.here | with_reducible apply Rem.there)))))
            simp only [List.cons_append, List.nil_append] at a1
            have a2 := a1.rd_own.rems (L1 := [HP.own 3 1 (.slice Ad (nats (lasts t1 ts.length) ++ y.l).length cd) (nats (lasts t1 ts.length) ++ y.l).length (ints (nats (lasts t1 ts.length) ++ y.l)), HP.rd (fun w => Reads w Ab (ints (nats (firsts t1 ts.length) ++ y.f)))]) (by repeat (first | exact Rems.nil | (apply Rems.cons; focus (repeat (first | with_reducible exact Rem.here | with_reducible apply Rem.there)))))
            simp only [List.cons_append, List.nil_append] at a2
            have a3 := a2.rd_own.rd_and.rd_mono (ψ := ReadsB ⟨y.i, y.A, y.c, y.n, nats (firsts t1 ts.length) ++ y.f, nats (lasts t1 ts.length) ++ y.l, Ab, cb, Ad, cd, work capR t1 + y.wk, max (span capR t1) y.sp⟩) (fun w h => ⟨h.2, h.1⟩)
            dsimp only
            exact a3.perm (by repeat (first | exact Rems.nil | (apply Rems.cons; focus (repeat (first | with_reducible exact Rem.here | with_reducible apply Rem.there)))))
          · have c11' := of_decide_eq_false c11
            (refine X.skip ?_)
            refine X.region ?_
            refine O.move ?_
            refine O.move ?_
            (first | refine O.fieldB0 td93_2 ?_ | refine O.fieldA td93_2 ?_ | refine O.fieldB td93_2 ?_)
            (first | refine O.loadB tf3 ?_ | refine O.loadO tf3 (by first | assumption | (simp only [Nat.add_zero, Nat.zero_add]; assumption)) ?_ | refine O.loadOwn tf3 ?_)
            (first | refine O.fieldB0 td93_2 ?_ | refine O.fieldA td93_2 ?_ | refine O.fieldB td93_2 ?_)
            (first | refine O.loadB tf3 ?_ | refine O.loadO tf3 (by first | assumption | (simp only [Nat.add_zero, Nat.zero_add]; assumption)) ?_ | refine O.loadOwn tf3 ?_)
            refine O.add ?_
            refine O.move ?_
            refine O.build (.agg #[.slice Ab (nats (firsts t1 ts.length) ++ y.f).length cb, .slice Ad (nats (lasts t1 ts.length) ++ y.l).length cd, .int .i64 (work capR t1 + y.wk), .int .i64 (max (span capR t1) y.sp)]) ?_ (hrun := by first | (intro w; rw [Int.max_eq_right (by omega)]; kernel_rfl) | (intro w; rw [Int.max_eq_left (by omega)]; kernel_rfl))
            refine O.store _ ts93 ?_
            refine XO.nil ?_
            (refine X.inBlock ?_)
            refine X.st (fun w' hs => ?_) (X.sub (by repeat (first | exact Sub.nil | refine Sub.cons rfl (by first | rfl | simp) ?_)) (next (.inr ⟨y.i, y.A, y.c, y.n, nats (firsts t1 ts.length) ++ y.f, nats (lasts t1 ts.length) ++ y.l, Ab, cb, Ad, cd, work capR t1 + y.wk, max (span capR t1) y.sp⟩) ⟨k2, ⟨hgi, by dsimp only; rw [List.length_append, nats_length]; omega, by dsimp only; rw [List.length_append, nats_length]; omega, by dsimp only; omega, by dsimp only; omega, by dsimp only; omega, by dsimp only; omega⟩⟩ (by dsimp only; omega)))
            have a1 := hs.rems (L1 := [HP.own 3 1 (.slice Ab (nats (firsts t1 ts.length) ++ y.f).length cb) (nats (firsts t1 ts.length) ++ y.f).length (ints (nats (firsts t1 ts.length) ++ y.f))]) (by repeat (first | exact Rems.nil | (apply Rems.cons; focus (repeat (first | with_reducible exact Rem.here | with_reducible apply Rem.there)))))
            simp only [List.cons_append, List.nil_append] at a1
            have a2 := a1.rd_own.rems (L1 := [HP.own 3 1 (.slice Ad (nats (lasts t1 ts.length) ++ y.l).length cd) (nats (lasts t1 ts.length) ++ y.l).length (ints (nats (lasts t1 ts.length) ++ y.l)), HP.rd (fun w => Reads w Ab (ints (nats (firsts t1 ts.length) ++ y.f)))]) (by repeat (first | exact Rems.nil | (apply Rems.cons; focus (repeat (first | with_reducible exact Rem.here | with_reducible apply Rem.there)))))
            simp only [List.cons_append, List.nil_append] at a2
            have a3 := a2.rd_own.rd_and.rd_mono (ψ := ReadsB ⟨y.i, y.A, y.c, y.n, nats (firsts t1 ts.length) ++ y.f, nats (lasts t1 ts.length) ++ y.l, Ab, cb, Ad, cd, work capR t1 + y.wk, max (span capR t1) y.sp⟩) (fun w h => ⟨h.2, h.1⟩)
            dsimp only
            exact a3.perm (by repeat (first | exact Rems.nil | (apply Rems.cons; focus (repeat (first | with_reducible exact Rem.here | with_reducible apply Rem.there)))))
      · have h59 : r1.head? ≠ some 124 := by simpa using c2
        obtain ⟨q, rfl⟩ : ∃ q', q = q' + 1 := ⟨q - 1, by omega⟩
        rw [besideL, if_neg h59] at k2
        (refine X.exit rfl ?_; refine X.seq ?_)
        refine X.region ?_
        refine O.loadAggB ta93 ?_
        refine O.store _ ts93 ?_
        refine XO.nil ?_
        refine X.retC1 hfn ta93 rfl (fun w hs => CellsAt.of_blk (n := 4) hs .here rfl) (fun w' hs => ?_)
        rw [k2]
        exact ⟨.inl (t1, r1, ⟨n1, A1, cc1, fA1, fc1, lA1, lc1⟩), ⟨rfl, k6⟩, rfl, hs.perm (by repeat (first | exact Rems.nil | (apply Rems.cons; focus (repeat (first | with_reducible exact Rem.here | with_reducible apply Rem.there)))))⟩
    · obtain ⟨k2, hk⟩ := hk
      dsimp only at k2 hk ⊢
      have hgi := hk.i
      refine O.move ?_
      refine O.callB (.bool (decide ((2 : Int) = 0) && decide ((rest s y.i).head? = some 124))) te60 ?_ (hc := by intro _ w hs; exact next_calls b s y.i y.A y.c y.n 2 124 hgi hz w (hs.blk_at (.there (.there .here))))
      refine XO.nil ?_
      refine X.condF rfl (by simp) ?_
      (refine X.exit rfl ?_; refine X.seq ?_)
      refine X.region ?_
      refine O.loadAggB ta93 ?_
      refine O.store _ ts93 ?_
      refine XO.nil ?_
      refine X.retC1 hfn ta93 rfl (fun w hs => CellsAt.of_blk (n := 4) hs .here rfl) (fun w' hs => ?_)
      rw [k2]
      exact ⟨.inr y, ⟨rfl, hk⟩, rfl, hs.perm (by repeat (first | exact Rems.nil | (apply Rems.cons; focus (repeat (first | with_reducible exact Rem.here | with_reducible apply Rem.there)))))⟩
  · obtain ⟨hp0, hg0⟩ := hp
    dsimp only [smV, smL] at hp0 hg0 ⊢
    simp only [List.cons_append, List.nil_append]
    have hgi := hg0.i
    rw [hp0]
    dsimp only
    refine O.alloc tz93 (fun b3 hb3 => ?_)
    refine O.store _ ts93 ?_
    refine XO.nil ?_
    (refine X.seq ?_; refine X.block ?_)
    refine X.loop (γ := Unit) (fun _ => True) (fun _ => [⟨0, true, .pointer (some ⟨b, 0, none⟩)⟩, ⟨2, true, .pointer (some ⟨b2, 0, none⟩)⟩, ⟨3, true, .pointer (some ⟨b3, 0, none⟩)⟩]) (fun _ => St w S [HP.blk b3 (.cells #[.slice (y).fA (y).f.length (y).fc, .slice (y).lA (y).l.length (y).lc, .int .i64 (y).wk, .int .i64 (y).sp] 93 (0, 0)), HP.blk b2 (.cells #[.slice none 0 0, .slice none 0 0, .int .i64 0, .int .i64 0] 93 (0, 0)), HP.blk b (rC s y.i y.A y.c y.n 2), HP.rd (ReadsB y)]) (fun _ => 0) () trivial (by repeat (first | exact Sub.nil | refine Sub.cons rfl (by first | rfl | simp) ?_)) (fun w hs => hs.perm (by repeat (first | exact Rems.nil | (apply Rems.cons; focus (repeat (first | with_reducible exact Rem.here | with_reducible apply Rem.there)))))) ?_
    rintro _ _ next
    (refine X.seq ?_; refine X.seq ?_)
    refine X.region ?_
    refine O.move ?_
    refine O.callB (.bool (decide ((2 : Int) = 0) && decide ((rest s y.i).head? = some 124))) te60 ?_ (hc := by intro _ w hs; exact next_calls b s y.i y.A y.c y.n 2 124 hgi hz w (hs.blk_at (.there (.there .here))))
    refine XO.nil ?_
    refine X.condF rfl (by simp) ?_
    (refine X.exit rfl ?_; refine X.seq ?_)
    refine X.region ?_
    refine O.loadAggB ta93 ?_
    refine O.store _ ts93 ?_
    refine XO.nil ?_
    refine X.retC1 hfn ta93 rfl (fun w hs => CellsAt.of_blk (n := 4) hs .here rfl) (fun w' hs => ?_)
    exact ⟨.inr y, ⟨rfl, hg0⟩, rfl, hs.perm (by repeat (first | exact Rems.nil | (apply Rems.cons; focus (repeat (first | with_reducible exact Rem.here | with_reducible apply Rem.there)))))⟩
end Go.Proofs.YtgegppbjpaeljaaDoor.Ws
