/- The rules of the walk's frame, 8: rows from a place on (what is cut at its front and appended to), rows that are made. Over any program. -/
import Derived.Test.YtgegppbjpaeljaaDoorH
import Derived.Laws.MakeOwn
set_option linter.unusedVariables false
set_option linter.unusedSimpArgs false
namespace Go.X
open Go.RowKit

theorem CellsAt.old {w0 w : World} {L : List HP} (h : St w0 noS L w) {p : Addr} : ∀ {vs : List Value} {i : Nat}, CellsAt w0 p i vs → CellsAt w p i vs
  | [], _, _ => trivial
  | _ :: _, _, ⟨h1, h2⟩ => ⟨h.old0 h1, CellsAt.old h h2⟩
/-- v is a slice of n elements (type el, sz cells each), somewhere within a block of its own, or nil. -/
def HP.q (el sz : Nat) (v : Value) (n : Nat) (cs : List Value) : HP where
  holds w F := (v = .slice none 0 0 ∧ n = 0 ∧ cs = [] ∧ ∀ k, ¬ F k) ∨ ∃ g off cap cur, v = .slice (some ⟨g, off, none⟩) n cap ∧ w.heap[g]? = some (.cells cur el (0, 0)) ∧ cs.length = n * sz ∧ n ≤ cap ∧ cap ≤ maxLen ∧ off + cap * sz ≤ cur.size ∧ (cur.toList.drop off).take (n * sz) = cs ∧ ∀ k, F k ↔ k = g
  move := fun {w w' F} h hm => by
    rcases h with h | ⟨g, off, cap, cur, h1, h2, h3⟩
    · exact .inl h
    · refine .inr ⟨g, off, cap, cur, h1, ?_, h3⟩
      rw [hm g ((h3.2.2.2.2.2 g).2 rfl), h2]
  live := fun {w F k} h hk => by
    rcases h with ⟨_, _, _, h⟩ | ⟨g, off, cap, cur, h1, h2, _, _, _, _, _, h3⟩
    · exact absurd hk (h k)
    · rw [(h3 k).1 hk]
      exact (Array.getElem?_eq_some_iff.1 h2).1
section
variable {w0 w : World} {S : Nat → Prop} {L L' : List HP} {el sz n : Nat} {v : Value} {cs : List Value}
theorem St.q_of_own (h : St w0 S (HP.own el sz v n cs :: L) w) : St w0 S (HP.q el sz v n cs :: L) w := by
  obtain ⟨F, hF, F1, F2, h1, h2, h3, h4, h5⟩ := h.sat
  refine ⟨h.mod, F, hF, F1, F2, h1, h2, h3, ?_, h5⟩
  obtain ⟨⟨hl, hh⟩, hfp⟩ := h4
  rcases hh with ⟨rfl, rfl⟩ | ⟨g, cap, cur, rfl, _, hg, hn, hm, hc, ht⟩
  · exact .inl ⟨rfl, rfl, List.eq_nil_of_length_eq_zero (by simpa using hl), fun k hk => by have := (hfp k).1 hk; cases this⟩
  · refine .inr ⟨g, 0, cap, cur, rfl, hg, hl, hn, hm, by rw [Nat.zero_add, hc]; exact Nat.le_refl _, by simpa using ht, fun k => ?_⟩
    rw [hfp k]
    simp only [Value.ownBlock, Option.some.injEq]
    exact ⟨fun h => h.symm, fun h => h.symm⟩
theorem St.q_form (h : St w0 S L w) (hr : Rem (HP.q el sz v n cs) L L') : ∃ A c, v = .slice A n c ∧ cs.length = n * sz ∧ n ≤ c ∧ n ≤ maxLen ∧ Reads w A cs := by
  obtain ⟨F, hF, F1, F2, _, _, _, h4, _⟩ := (hr.sats1 h).sat
  rcases h4 with ⟨rfl, rfl, rfl, _⟩ | ⟨g, off, cap, cur, rfl, hg, hl, hn, hm, hs, ht, _⟩
  · exact ⟨none, 0, rfl, by simp, Nat.le_refl _, by simp [maxLen], Reads.nil _ _⟩
  · refine ⟨_, cap, rfl, hl, hn, Nat.le_trans hn hm, fun _ => ⟨_, rfl, fun j u hu => ?_⟩⟩
    rw [add_blk]
    have hj : j < n * sz := by rw [← hl]; exact (List.getElem?_eq_some_iff.1 hu).1
    rw [← ht, List.getElem?_take, if_pos hj, List.getElem?_drop] at hu
    simp only [World.cell?, hg]
    simpa using hu
theorem St.q_reads {A : Option Addr} {c : Nat} (h : St w0 S L w) (hr : Rem (HP.q el sz (.slice A n c) n cs) L L') : Reads w A cs := by
  obtain ⟨A', c', he, _, _, _, hrd⟩ := h.q_form hr
  simp only [Value.slice.injEq] at he
  obtain ⟨rfl, _, _⟩ := he
  exact hrd
/-- What is cut at the front. -/
theorem St.q_drop {A : Option Addr} {c lo : Nat} (h : St w0 S (HP.q el sz (.slice A n c) n cs :: L) w) (hlo : lo ≤ n) : St w0 S (HP.q el sz (.slice (if c = lo then A else A.map (·.add (lo * sz))) (n - lo) (c - lo)) (n - lo) (cs.drop (lo * sz)) :: L) w := by
  obtain ⟨F, hF, F1, F2, h1, h2, h3, h4, h5⟩ := h.sat
  refine ⟨h.mod, F, hF, F1, F2, h1, h2, h3, ?_, h5⟩
  rcases h4 with ⟨hv, rfl, rfl, hk⟩ | ⟨g, off, cap, cur, hv, hg, hl, hn, hm, hs, ht, hk⟩
  · simp only [Value.slice.injEq] at hv
    obtain ⟨rfl, _, rfl⟩ := hv
    obtain rfl : lo = 0 := by omega
    exact .inl ⟨by simp, rfl, by simp, hk⟩
  · simp only [Value.slice.injEq] at hv
    obtain ⟨rfl, _, rfl⟩ := hv
    have hlen : (cs.drop (lo * sz)).length = (n - lo) * sz := by rw [List.length_drop, hl, Nat.sub_mul]
    have hsz : lo * sz + (n - lo) * sz = n * sz := by rw [← Nat.add_mul]; congr 1; omega
    have hsc : lo * sz + (c - lo) * sz = c * sz := by rw [← Nat.add_mul]; congr 1; omega
    by_cases hcl : c = lo
    · rw [if_pos hcl]
      have hnl : n = lo := by omega
      subst hnl
      subst hcl
      refine .inr ⟨g, off, 0, cur, by simp, hg, hlen, by omega, by simp [maxLen], by omega, ?_, hk⟩
      rw [Nat.sub_self, Nat.zero_mul, List.take_zero, List.drop_eq_nil_of_le (by omega)]
    · rw [if_neg hcl]
      refine .inr ⟨g, off + lo * sz, c - lo, cur, ?_, hg, hlen, by omega, by omega, by omega, ?_, hk⟩
      · simp only [Option.map_some, add_blk]
      · rw [← ht, List.drop_take, List.drop_drop]
        congr 1
        omega
end
theorem append_q_st {P : Program} {w0 w : World} {S : Nat → Prop} {L : List HP} {t tx ty el sz bytes n m : Nat} {z v x : Value} {cs news : List Value} (ht : ∀ w, (underlying t).run P w = .ok (.slice el) w) (hE : TElem P el z sz bytes) (h : St w0 S (HP.q el sz v n cs :: L) w)
    (hsrc : Src P sz tx x m news w) (h63 : n + m ≤ maxLen) (hbytes : (n + m) * bytes ≤ 140737488355328) :
    ∃ v' w', (Builtin.append_ #[t, tx] ty #[v, x]).run P w = .ok v' w' ∧ St w0 S (HP.q el sz v' (n + m) (cs ++ news) :: L) w' := by
  obtain ⟨i, hi, hz, rfl, rfl, hzs⟩ := hE
  have ht' := under_of ht
  have hsmall : n + m ≤ 9223372036854775807 := by simp only [maxLen] at h63; omega
  obtain ⟨A, c, hv, hcl, hnc, _, hrd⟩ := h.q_form .here
  obtain ⟨F, hF, F1, F2, h1, h2, h3, hq, h5⟩ := h.sat
  have hlen : (cs ++ news).length = (n + m) * i.size := by rw [List.length_append, hcl, hsrc.newsLen, Nat.add_mul]
  have hrun0 : (Builtin.firstCells i.size n (.slice A n c)).run P w.drew = .ok cs.toArray w.drew := by
    rcases Nat.eq_zero_or_pos cs.length with h0 | h0
    · have hc0 : cs = [] := List.eq_nil_of_length_eq_zero h0
      subst hc0
      have hn0 : n * i.size = 0 := by simpa using hcl.symm
      cases A with
      | none => simp [Builtin.firstCells]
      | some a => simp [Builtin.firstCells, hn0, loadCells, loadCellsFrom]
    · obtain ⟨ad, rfl⟩ := hrd.addr h0
      have hx := run_loadCells_at (P := P) (w := w.drew) (p := ad) cs 0 #[] (CellsAt.of_get fun j u hu => by simpa using hrd.at_ hu)
      rw [hcl] at hx
      simp [Builtin.firstCells, loadCells, hx]
  by_cases hroom : n + m ≤ c
  · subst hv
    rcases hq with ⟨hv, hn0, hcs0, hk⟩ | ⟨g, off, cap, cur, hv, hg, hl, hnc', hcm, hcs, htake, hk⟩
    · simp only [Value.slice.injEq] at hv
      obtain ⟨rfl, _, rfl⟩ := hv
      have hm : m = 0 := by omega
      subst hm
      subst hn0
      have hnews : news = [] := List.eq_nil_of_length_eq_zero (by simpa using hsrc.newsLen)
      subst hnews
      subst hcs0
      refine ⟨.slice none 0 0, w, ?_, h⟩
      rcases hsrc.kind with ⟨e', hk⟩ | hk <;> simp [Builtin.append_, run_underlying ht', run_underlying hk, sizeOf, typeInfo, hi, hsrc.len, hsrc.cells]
    · simp only [Value.slice.injEq] at hv
      obtain ⟨rfl, _, rfl⟩ := hv
      have hst : St w0 S (HP.blk g (.cells cur el (0, 0)) :: L) w := ⟨h.mod, F, hF, F1, F2, h1, h2, h3, ⟨fun k hk' => (hk k).1 hk', (hk g).2 rfl, hg⟩, h5⟩
      have hmul : n * i.size + m * i.size ≤ c * i.size := by rw [← Nat.add_mul]; exact Nat.mul_le_mul_right _ hroom
      have hfit : off + n * i.size + news.length ≤ cur.size := by rw [hsrc.newsLen]; omega
      obtain ⟨w', hs1, hs2⟩ := run_storeCells_st (P := P) (off := off + n * i.size) news 0 cur w hst (by simpa using hfit) (by simpa using hsrc.one)
      refine ⟨.slice (some ⟨g, off, none⟩) (n + m) c, w', ?_, ?_⟩
      · have hadd : (⟨g, off, none⟩ : Addr).add (n * i.size) = ⟨g, off + n * i.size, none⟩ := add_blk _ _ _
        rcases hsrc.kind with ⟨e', hk⟩ | hk <;> simp [Builtin.append_, run_underlying ht', run_underlying hk, sizeOf, typeInfo, hi, hsrc.len, hroom, hsrc.cells, hadd, hs1]
      · obtain ⟨G, hG, G1, G2, g1, g2, g3, g4, g5⟩ := hs2.sat
        have hov : ∀ (vs : List Value) (cur : Array Value) (o : Nat), o + vs.length ≤ cur.size → ∀ p, p ≤ o → ((overL cur o vs).toList.drop p).take (o - p + vs.length) = (cur.toList.drop p).take (o - p) ++ vs := by
          intro vs
          induction vs with
          | nil => intro cur o _ p _; simp [overL]
          | cons u r ih =>
            intro cur o ho p hp
            simp only [List.length_cons] at ho
            have := ih (cur.setIfInBounds o u) (o + 1) (by simp; omega) p (by omega)
            simp only [overL, List.length_cons]
            rw [show o - p + (r.length + 1) = o + 1 - p + r.length from by omega, this]
            have hlt : o < cur.toList.length := by simp; omega
            rw [Array.toList_setIfInBounds, show o + 1 - p = (o - p) + 1 from by omega, List.take_add_one]
            rw [List.drop_set, if_neg (by omega), List.take_set_of_le (Nat.le_refl _), List.getElem?_set_self (by rw [List.length_drop]; omega)]
            simp
        refine ⟨hs2.mod, G, hG, G1, G2, g1, g2, g3, .inr ⟨g, off, c, _, rfl, g4.2.2, hlen, hroom, hcm, by rw [size_overL]; exact hcs, ?_, fun k => ⟨g4.1 k, fun e => e ▸ g4.2.1⟩⟩, g5⟩
        have := hov news cur (off + n * i.size) hfit off (by omega)
        rw [show off + n * i.size - off = n * i.size from by omega, htake] at this
        rw [Nat.add_mul, ← hsrc.newsLen]
        simpa using this
  · subst hv
    have hr := run_append_grow_src (P := P) w t tx ty el i z ht' hi hz A n c cs hrun0 x m news hsrc (by omega) (by omega) (growslice_fits (by omega) hbytes)
    refine ⟨_, _, hr, ?_⟩
    have hge := grownCap_ge w (n + m) c el
    have hcm : grownCap w (n + m) c el ≤ maxLen := grownCap_le_maxLen w (n + m) c el h63
    have hd : St w0 S L w.drew := (h.drop1).drew _
    obtain ⟨_, ha⟩ := hd.alloc (.cells ((cs ++ news).toArray ++ Builtin.zeroCells z.cells (grownCap w (n + m) c el - (n + m))) el)
    obtain ⟨G, hG, G1, G2, g1, g2, g3, g4, g5⟩ := ha.sat
    refine ⟨ha.mod, G, hG, G1, G2, g1, g2, g3, .inr ⟨w.heap.size, 0, _, _, rfl, g4.2.2, hlen, hge, hcm, ?_, ?_, fun k => ⟨g4.1 k, fun e => e ▸ g4.2.1⟩⟩, g5⟩
    · simp only [Array.size_append, List.size_toArray, size_zeroCells, hzs, hlen, ← Nat.add_mul, Nat.zero_add]
      exact Nat.mul_le_mul_right _ (by omega)
    · simp only [Array.toList_append, List.drop_zero]
      rw [← hlen]
      exact List.take_left

theorem made_one (z : Value) (n : Nat) : (madeCells #[z] n).toList = List.replicate n z := by
  apply List.ext_getElem
  · simp [madeCells]
  · intro i h1 h2
    simp [madeCells, Nat.mod_one]

namespace O
section
variable {cx : Cx} {md : Md} {k : List Item} {e : Env} {R : Ending → World → Prop} {ops rest : List Oper} {σ : World → Prop} {d : Nat} {g c c' c'' : Bool} {x y z : Operand} {ty : TypeId} {ps : String} {af : Array Edge} {gu : Option (Nat × Bool)} {u v : Value}
variable {w0 : World} {S : Nat → Prop} {L L' Lp : List HP}
theorem appendQ {t tx el sz bytes n cap : Nat} {zv xv : Value} {A : Option Addr} {cs : List Value} (news : List Value) (m : Nat) (hT : TSlice cx.P t el sz) (hE : TElem cx.P el zv sz bytes) (hg : gcond e ops gu = some true := by rfl) (hx : opd e x = some (true, .slice A n cap) := by rfl) (hy : opd e y = some (true, xv) := by rfl) (hn : Nat.ble (d + 1) cx.n = true := by rfl)
    (hr : Rem (HP.q el sz (.slice A n cap) n cs) L L' := by repeat (first | with_reducible exact Rem.here | with_reducible apply Rem.there))
    (hsrc : ∀ w, St w0 S L w → Src cx.P sz tx xv m news w) (h63 : n + m ≤ maxLen) (hbytes : (n + m) * bytes ≤ 140737488355328)
    (next : ∀ A' c', XO cx .seq ops rest k (⟨d, true, .slice A' (n + m) c'⟩ :: e) (St w0 S (HP.q el sz (.slice A' (n + m) c') (n + m) (cs ++ news) :: L')) R) :
    XO cx .seq ops (⟨some d, .call { callee := .builtin .append, args := #[x, y], argTypes := #[t, tx] }, ty, ps, af, gu⟩ :: rest) k e (St w0 S L) R := by
  refine XO.eff (α := Option Addr × Nat) (φ := fun _ => True) (vo := fun p => .slice p.1 (n + m) p.2) (σ' := fun p => St w0 S (HP.q el sz (.slice p.1 (n + m) p.2) (n + m) (cs ++ news) :: L')) hg rfl rfl hn ?_ (fun p _ => next p.1 p.2)
  intro a w hf hs
  obtain ⟨v', w', h1, h2⟩ := append_q_st (P := cx.P) (ty := ty) hT.1 hE (hr.sats1 hs) (hsrc w hs) h63 hbytes
  obtain ⟨A', c', rfl, _⟩ := h2.q_form .here
  refine ⟨(A', c'), w', trivial, ?_, h2⟩
  simp [execOp, resolve, opd_eval hf hx rfl, opd_eval hf hy rfl, invoke, builtin, h1]
/-- 'x[lo:]' of such a row -/
theorem sliceQ {t el sz n cap : Nat} {K : IntKind} {lo : Int} {A : Option Addr} {cs : List Value} (hT : TSlice cx.P t el sz) (h0 : 0 ≤ lo) (h1 : lo ≤ n) (next : ∀ A' c', XO cx .seq ops rest k (⟨d, true, .slice A' (n - lo.toNat) c'⟩ :: e) (St w0 S (HP.q el sz (.slice A' (n - lo.toNat) c') (n - lo.toNat) (cs.drop (lo.toNat * sz)) :: L')) R)
    (hg : gcond e ops gu = some true := by rfl) (hx : opd e x = some (true, .slice A n cap) := by rfl) (hy : opd e y = some (true, .int K lo) := by rfl) (hr : Rem (HP.q el sz (.slice A n cap) n cs) L L' := by repeat (first | with_reducible exact Rem.here | with_reducible apply Rem.there)) (hn : Nat.ble (d + 1) cx.n = true := by rfl) :
    XO cx .seq ops (⟨some d, .slice t x (some y) none none, ty, ps, af, gu⟩ :: rest) k e (St w0 S L) R := by
  refine XO.eff (α := Option Addr × Nat) (φ := fun _ => True) (vo := fun p => .slice p.1 (n - lo.toNat) p.2) (σ' := fun p => St w0 S (HP.q el sz (.slice p.1 (n - lo.toNat) p.2) (n - lo.toNat) (cs.drop (lo.toNat * sz)) :: L')) hg rfl rfl hn ?_ (fun p _ => next p.1 p.2)
  intro a w hf hs
  have h2 := (hr.sats1 hs).q_drop (lo := lo.toNat) (by omega)
  refine ⟨(if cap = lo.toNat then A else A.map (·.add (lo.toNat * sz)), cap - lo.toNat), w, trivial, ?_, h2⟩
  have b2 : 0 ≤ lo ∧ lo ≤ ((n : Nat) : Int) := ⟨h0, h1⟩
  simp [execOp, opd_eval hf hx rfl, opd_eval hf hy rfl, Instr.sliceAt, Instr.slice, Instr.sliceBounds, Instr.sliceBound, asIntOf, hT.1 w, hT.2 w, b2]
/-- 'x[1:]' of a row that has a first one -/
theorem sliceQ1 {t el n cap : Nat} {K : IntKind} {A : Option Addr} {h : Value} {cs : List Value} (hT : TSlice cx.P t el 1) (next : ∀ A' c', XO cx .seq ops rest k (⟨d, true, .slice A' n c'⟩ :: e) (St w0 S (HP.q el 1 (.slice A' n c') n cs :: L')) R)
    (hg : gcond e ops gu = some true := by rfl) (hx : opd e x = some (true, .slice A (n + 1) cap) := by rfl) (hr : Rem (HP.q el 1 (.slice A (n + 1) cap) (n + 1) (h :: cs)) L L' := by repeat (first | with_reducible exact Rem.here | with_reducible apply Rem.there)) (hn : Nat.ble (d + 1) cx.n = true := by rfl) :
    XO cx .seq ops (⟨some d, .slice t x (some (.const (.int K 1))) none none, ty, ps, af, gu⟩ :: rest) k e (St w0 S L) R :=
  sliceQ (K := K) (lo := 1) hT (by decide) (by omega) (fun A' c' => by simpa using next A' c') hg hx rfl hr hn
theorem makeSlice {t el bytes n : Nat} {zv : Value} {K K' : IntKind} (hT : TSlice cx.P t el 1) (hE : TElem cx.P el zv 1 bytes) (hz : zv.cells = #[zv]) (h63 : n ≤ maxLen) (hbytes : n * bytes ≤ 140737488355328) (next : ∀ ad, XO cx .seq ops rest k (⟨d, true, .slice (some ad) n n⟩ :: e) (St w0 S (HP.own el 1 (.slice (some ad) n n) n (List.replicate n zv) :: L)) R)
    (hg : gcond e ops gu = some true := by rfl) (hx : opd e x = some (true, .int K n) := by rfl) (hy : opd e y = some (true, .int K' n) := by rfl) (hn : Nat.ble (d + 1) cx.n = true := by rfl) :
    XO cx .seq ops (⟨some d, .makeSlice t x y, ty, ps, af, gu⟩ :: rest) k e (St w0 S L) R := by
  refine XO.eff (α := Addr) (φ := fun _ => True) (vo := fun ad => .slice (some ad) n n) (σ' := fun ad => St w0 S (HP.own el 1 (.slice (some ad) n n) n (List.replicate n zv) :: L)) hg rfl rfl hn ?_ (fun ad _ => next ad)
  intro a w hf hs
  obtain ⟨i, hi, hzi, hsz, rfl, _⟩ := hE
  have hb : (i.bytes : Int) * (n : Int) ≤ 281474976710656 := by
    have h : ((i.bytes * n : Nat) : Int) ≤ 281474976710656 := by rw [Nat.mul_comm]; omega
    rwa [Int.natCast_mul] at h
  have hr := run_make (P := cx.P) w t el i zv (under_of hT.1) hi hzi K K' n n (by omega) (Int.le_refl _) hb (by simp only [maxLen] at h63; omega)
  simp only [Int.toNat_natCast, hsz, Nat.mul_one, hz] at hr
  obtain ⟨_, ha⟩ := hs.alloc (.cells (madeCells #[zv] n) el)
  have ho := ha.own_of_blk (n := n) (sz := 1) (by simp [madeCells]) h63
  rw [made_one] at ho
  refine ⟨⟨w.heap.size, 0, none⟩, _, trivial, ?_, ho⟩
  simp [execOp, opd_eval hf hx rfl, opd_eval hf hy rfl, hr]
end
end O
end Go.X
