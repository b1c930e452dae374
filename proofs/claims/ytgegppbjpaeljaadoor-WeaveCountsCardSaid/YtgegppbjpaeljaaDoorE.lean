/- The rules of the walk's frame, 4: rows: what is read, what is owned and appended to. Over any program. -/
import Derived.Test.YtgegppbjpaeljaaDoorD
set_option linter.unusedVariables false
set_option linter.unusedSimpArgs false
namespace Go.X
open Go.RowKit

/-! ### rows that are read -/
/-- The cells cs lie in a row at A. -/
def Reads (w : World) (A : Option Addr) (cs : List Value) : Prop := cs ≠ [] → ∃ ad, A = some ad ∧ ∀ j u, cs[j]? = some u → w.cell? (ad.add j) = some u
theorem Reads.nil (w : World) (A : Option Addr) : Reads w A [] := fun h => absurd rfl h
theorem Reads.addr {w : World} {A : Option Addr} {cs : List Value} (h : Reads w A cs) {j : Nat} (hj : j < cs.length) : ∃ ad, A = some ad := by
  obtain ⟨ad, h1, _⟩ := h (by rintro rfl; simp at hj)
  exact ⟨ad, h1⟩
theorem Reads.at_ {w : World} {ad : Addr} {cs : List Value} (h : Reads w (some ad) cs) {j : Nat} {u : Value} (hj : cs[j]? = some u) : w.cell? (ad.add j) = some u := by
  obtain ⟨ad', h1, h2⟩ := h (by rintro rfl; simp at hj)
  cases h1
  exact h2 j u hj
theorem Reads.below {w w' : World} {A : Option Addr} {cs : List Value} (h : Reads w A cs) (hb : Below w.heap.size w w') : Reads w' A cs := by
  intro hne
  obtain ⟨ad, h1, h2⟩ := h hne
  exact ⟨ad, h1, fun j u hu => (hb.cell (World.block_lt_of_cell? w _ (h2 j u hu))).trans (h2 j u hu)⟩
theorem Reads.st {w0 w : World} {L : List HP} {A : Option Addr} {cs : List Value} (h : Reads w0 A cs) (hs : St w0 noS L w) : Reads w A cs := h.below hs.below
theorem Reads.cells {w : World} {ad : Addr} {cs : List Value} (h : Reads w (some ad) cs) (i n : Nat) {vs : List Value} (hv : (cs.drop i).take n = vs) : CellsAt w (ad.add i) 0 vs := by
  refine CellsAt.of_get fun j u hu => ?_
  rw [addr_add, show i + (0 + j) = i + j from by omega]
  refine h.at_ ?_
  rw [← hv] at hu
  have hj : j < n := by
    rcases Nat.lt_or_ge j n with h | h
    · exact h
    · rw [List.getElem?_eq_none (by simp; omega)] at hu; cases hu
  rw [List.getElem?_take, if_pos hj, List.getElem?_drop] at hu
  exact hu
def ints (xs : List Int) : List Value := xs.map (Value.int .i64)
def bools (xs : List Bool) : List Value := xs.map Value.bool
def strs (xs : List ByteArray) : List Value := xs.map Value.string
@[simp] theorem ints_length (xs : List Int) : (ints xs).length = xs.length := by simp [ints]
@[simp] theorem bools_length (xs : List Bool) : (bools xs).length = xs.length := by simp [bools]
@[simp] theorem strs_length (xs : List ByteArray) : (strs xs).length = xs.length := by simp [strs]
theorem ints_at {xs : List Int} {i : Nat} (h : i < xs.length) : (ints xs)[i]? = some (.int .i64 xs[i]) := by simp [ints, h]
theorem bools_at {xs : List Bool} {i : Nat} (h : i < xs.length) : (bools xs)[i]? = some (.bool xs[i]) := by simp [bools, h]
theorem strs_at {xs : List ByteArray} {i : Nat} (h : i < xs.length) : (strs xs)[i]? = some (.string xs[i]) := by simp [strs, h]
theorem ints_append (xs ys : List Int) : ints (xs ++ ys) = ints xs ++ ints ys := by simp [ints]
theorem ints_one (xs : List Int) : (ints xs).all Value.oneCell' = true := by simp [ints, Value.oneCell']

theorem rows_drop {α : Type} {f : α → List Value} {k : Nat} (hk : ∀ x, (f x).length = k) : ∀ (l : List α) (i : Nat) (h : i < l.length), ((l.flatMap f).drop (i * k)).take k = f l[i]
  | x :: r, 0, _ => by
    simp only [List.flatMap_cons, Nat.zero_mul, List.drop_zero, List.getElem_cons_zero]
    rw [← hk x, List.take_left]
  | x :: r, i + 1, h => by
    simp only [List.flatMap_cons, List.getElem_cons_succ]
    rw [show (i + 1) * k = (f x).length + i * k from by rw [hk x, Nat.add_mul]; omega, List.drop_length_add_append]
    exact rows_drop hk r i (by simpa using h)
theorem rows_length {α : Type} {f : α → List Value} {k : Nat} (hk : ∀ x, (f x).length = k) (l : List α) : (l.flatMap f).length = l.length * k := by
  induction l with
  | nil => simp
  | cons x r ih => simp [List.flatMap_cons, ih, hk x, Nat.add_mul]; omega
/-! ### rows that are owned -/
/-- v is a slice of n elements (type el, sz cells each) over a block of its own, or nil. -/
def HP.own (el sz : Nat) (v : Value) (n : Nat) (cs : List Value) : HP where
  holds w F := w.ownsRow 0 el sz v n cs ∧ ∀ k, F k ↔ v.ownBlock = some k
  move := fun {w w' F} ⟨h1, h2⟩ hm => by
    refine ⟨⟨h1.1, ?_⟩, h2⟩
    rcases h1.2 with h | ⟨g, cap, cur, rfl, a, b, c⟩
    · exact .inl h
    · exact .inr ⟨g, cap, cur, rfl, a, (hm g ((h2 g).2 rfl)).trans b, c⟩
  live := fun {w F k} ⟨h1, h2⟩ hk => (h1.lt k ((h2 k).1 hk)).2

theorem St.own_nil {w0 w : World} {S : Nat → Prop} {L : List HP} (h : St w0 S L w) (el sz : Nat) : St w0 S (HP.own el sz (.slice none 0 0) 0 [] :: L) w := by
  obtain ⟨F, hF, hs⟩ := h.sat
  exact ⟨h.mod, F, hF, fun _ => False, F, fun _ h => h.elim, fun _ h => h, fun _ h => h.elim, ⟨World.ownsRow_nil _ _ _ _, fun k => by simp [Value.ownBlock]⟩, hs⟩
theorem St.own_form {w0 w : World} {S : Nat → Prop} {L L' : List HP} {el sz n : Nat} {v : Value} {cs : List Value} (h : St w0 S L w) (hr : Rem (HP.own el sz v n cs) L L') : ∃ A c, v = .slice A n c ∧ cs.length = n * sz ∧ n ≤ c ∧ n ≤ maxLen ∧ Reads w A cs := by
  obtain ⟨F, hF, hs⟩ := h.sat
  obtain ⟨F1, F2, _, _, _, ⟨h4, _⟩, _⟩ := hs.rem hr
  rcases h4.2 with ⟨rfl, rfl⟩ | ⟨g, cap, cur, rfl, _, hg, hn, hm, hc, ht⟩
  · have : cs = [] := List.eq_nil_of_length_eq_zero (by simpa using h4.1)
    subst this
    exact ⟨none, 0, rfl, by simp, Nat.le_refl _, by simp [maxLen], Reads.nil _ _⟩
  · refine ⟨_, cap, rfl, h4.1, hn, Nat.le_trans hn hm, fun _ => ⟨_, rfl, fun j u hu => h4.cells (g := g) rfl j u hu⟩⟩
/-- A block as a row that is read. -/
theorem St.reads {w0 w : World} {S : Nat → Prop} {L L' : List HP} {b el : Nat} {fz : Nat × Nat} {cs : Array Value} (h : St w0 S L w) (hr : Rem (HP.blk b (.cells cs el fz)) L L') : Reads w (some ⟨b, 0, none⟩) cs.toList :=
  fun _ => ⟨_, rfl, fun j u hu => by rw [add_blk, Nat.zero_add]; exact h.cell hr (by simpa using hu)⟩
/-- A new block as a row. -/
theorem St.own_of_blk {w0 w : World} {S : Nat → Prop} {L : List HP} {b el n sz : Nat} {cs : Array Value} (h : St w0 S (HP.blk b (.cells cs el (0, 0)) :: L) w) (hn : cs.size = n * sz) (hm : n ≤ maxLen) : St w0 S (HP.own el sz (.slice (some ⟨b, 0, none⟩) n n) n cs.toList :: L) w := by
  obtain ⟨F, hF, F1, F2, h1, h2, h3, h4, h5⟩ := h.sat
  refine ⟨h.mod, F, hF, F1, F2, h1, h2, h3, ⟨⟨by simpa using hn, .inr ⟨b, n, cs, rfl, Nat.zero_le _, h4.2.2, Nat.le_refl _, hm, hn, ?_⟩⟩, fun k => ?_⟩, h5⟩
  · rw [← hn]
    exact List.take_of_length_le (by simp)
  · simp only [Value.ownBlock, Option.some.injEq]
    exact ⟨fun hk => (h4.1 k hk).symm, fun e => e ▸ h4.2.1⟩

/-- What the tables say of an element's type. -/
def TElem (P : Program) (el : Nat) (z : Value) (sz bytes : Nat) : Prop := ∃ i, P.info? el = some i ∧ i.zero = some z ∧ i.size = sz ∧ i.bytes = bytes ∧ z.cells.size = sz
theorem TElem.of {P : Program} {el : Nat} {z : Value} {sz bytes : Nat} (h : (P.info? el).map (fun i => (i.zero, i.size, i.bytes)) = some (some z, sz, bytes)) (hz : z.cells.size = sz) : TElem P el z sz bytes := by
  cases hi : P.info? el with
  | none => rw [hi] at h; cases h
  | some i =>
    rw [hi] at h
    simp only [Option.map_some, Option.some.injEq, Prod.mk.injEq] at h
    exact ⟨i, hi, h.1, h.2.1, h.2.2, hz⟩
theorem under_of {P : Program} {t : Nat} {d : TypeDesc} (h : ∀ w, (underlying t).run P w = .ok d w) : P.underlying t = some d := by
  have := h default
  cases hu : P.underlying t with
  | none => simp [underlying, hu] at this
  | some d' => simp [underlying, hu] at this; rw [this]

theorem append_own_st {P : Program} {w0 w : World} {S : Nat → Prop} {L : List HP} {t tx ty el sz bytes n m : Nat} {z v x : Value} {cs news : List Value} (ht : ∀ w, (underlying t).run P w = .ok (.slice el) w) (hE : TElem P el z sz bytes) (h : St w0 S (HP.own el sz v n cs :: L) w)
    (hsrc : Src P sz tx x m news w) (h63 : n + m ≤ maxLen) (hbytes : (n + m) * bytes ≤ 140737488355328) :
    ∃ v' w', (Builtin.append_ #[t, tx] ty #[v, x]).run P w = .ok v' w' ∧ St w0 S (HP.own el sz v' (n + m) (cs ++ news) :: L) w' := by
  obtain ⟨i, hi, hz, rfl, rfl, hzs⟩ := hE
  have ht' := under_of ht
  have hsmall : n + m ≤ 9223372036854775807 := by simp only [maxLen] at h63; omega
  obtain ⟨A, c, hv, hcl, hnc, _, hrd⟩ := h.own_form .here
  obtain ⟨F, hF, F1, F2, h1, h2, h3, ⟨hown, hfp⟩, h5⟩ := h.sat
  have hlen : (cs ++ news).length = (n + m) * i.size := by rw [List.length_append, hown.1, hsrc.newsLen, Nat.add_mul]
  have hrun0 : ∀ b : Option Addr, (Builtin.firstCells i.size n (.slice A n c)).run P w.drew = .ok cs.toArray w.drew := by
    intro _
    rcases Nat.eq_zero_or_pos cs.length with h0 | h0
    · have hc0 : cs = [] := List.eq_nil_of_length_eq_zero h0
      subst hc0
      have hn0 : n * i.size = 0 := by simpa using hcl.symm
      cases A with
      | none => simp [Builtin.firstCells]
      | some a => simp [Builtin.firstCells, hn0, loadCells, loadCellsFrom]
    · obtain ⟨ad, rfl⟩ := hrd.addr h0
      have hx := run_loadCells_at (P := P) (w := w.drew) (p := ad) cs 0 #[] (CellsAt.of_get fun j u hu => by simpa using hrd.at_ hu)
      rw [hcl] at hx
      simp [Builtin.firstCells, loadCells, hx]
  by_cases hroom : n + m ≤ c
  · -- there is room
    subst hv
    rcases hown.2 with ⟨hv, hn0⟩ | ⟨g, cap, cur, hv, _, hg, hnc', hcm, hcs, htake⟩
    · simp only [Value.slice.injEq] at hv
      obtain ⟨rfl, _, rfl⟩ := hv
      have hm : m = 0 := by omega
      subst hm
      subst hn0
      have hnews : news = [] := List.eq_nil_of_length_eq_zero (by simpa using hsrc.newsLen)
      subst hnews
      have hcs0 : cs = [] := List.eq_nil_of_length_eq_zero (by simpa using hcl)
      subst hcs0
      refine ⟨.slice none 0 0, w, ?_, h⟩
      rcases hsrc.kind with ⟨e', hk⟩ | hk <;> simp [Builtin.append_, run_underlying ht', run_underlying hk, sizeOf, typeInfo, hi, hsrc.len, hsrc.cells]
    · simp only [Value.slice.injEq] at hv
      obtain ⟨rfl, _, rfl⟩ := hv
      have hst : St w0 S (HP.blk g (.cells cur el (0, 0)) :: L) w := ⟨h.mod, F, hF, F1, F2, h1, h2, h3, ⟨fun k hk => by simpa [Value.ownBlock] using ((hfp k).1 hk).symm, (hfp g).2 rfl, hg⟩, h5⟩
      have hfit : n * i.size + news.length ≤ cur.size := by rw [hsrc.newsLen, hcs, ← Nat.add_mul]; exact Nat.mul_le_mul_right _ hroom
      obtain ⟨w', hs1, hs2⟩ := run_storeCells_st (P := P) (off := n * i.size) news 0 cur w hst (by simpa using hfit) (by simpa using hsrc.one)
      refine ⟨.slice (some ⟨g, 0, none⟩) (n + m) c, w', ?_, ?_⟩
      · have hadd : (⟨g, 0, none⟩ : Addr).add (n * i.size) = ⟨g, n * i.size, none⟩ := by rw [add_blk]; simp
        rcases hsrc.kind with ⟨e', hk⟩ | hk <;> simp [Builtin.append_, run_underlying ht', run_underlying hk, sizeOf, typeInfo, hi, hsrc.len, hroom, hsrc.cells, hadd, hs1]
      · obtain ⟨G, hG, G1, G2, g1, g2, g3, g4, g5⟩ := hs2.sat
        refine ⟨hs2.mod, G, hG, G1, G2, g1, g2, g3, ⟨⟨hlen, .inr ⟨g, c, _, rfl, Nat.zero_le _, g4.2.2, hroom, hcm, by rw [size_overL]; exact hcs, ?_⟩⟩, fun k => ?_⟩, g5⟩
        · have hov : ∀ (vs : List Value) (cur : Array Value) (o : Nat), o + vs.length ≤ cur.size → (overL cur o vs).toList.take (o + vs.length) = cur.toList.take o ++ vs := by
            intro vs
            induction vs with
            | nil => intro cur o _; simp [overL]
            | cons u r ih =>
              intro cur o ho
              simp only [List.length_cons] at ho
              have := ih (cur.setIfInBounds o u) (o + 1) (by simp; omega)
              simp only [overL, List.length_cons]
              rw [show o + (r.length + 1) = o + 1 + r.length from by omega, this]
              have hlt : o < cur.toList.length := by simp; omega
              rw [Array.toList_setIfInBounds, List.take_add_one]
              rw [List.getElem?_set_self hlt, List.take_set_of_le (Nat.le_refl o)]
              simp
          have := hov news cur (n * i.size) hfit
          rw [Nat.add_mul, ← hsrc.newsLen, Nat.add_zero, this, htake]
        · simp only [Value.ownBlock, Option.some.injEq]
          exact ⟨fun hk => (g4.1 k hk).symm, fun e => e ▸ g4.2.1⟩
  · -- a new block
    subst hv
    have hr := run_append_grow_src (P := P) w t tx ty el i z ht' hi hz A n c cs (hrun0 A) x m news hsrc (by omega) (by omega) (growslice_fits (by omega) hbytes)
    refine ⟨_, _, hr, ?_⟩
    have hge := grownCap_ge w (n + m) c el
    have hcm : grownCap w (n + m) c el ≤ maxLen := grownCap_le_maxLen w (n + m) c el h63
    have hd : St w0 S L w.drew := (h.drop1).drew _
    obtain ⟨_, ha⟩ := hd.alloc (.cells ((cs ++ news).toArray ++ Builtin.zeroCells z.cells (grownCap w (n + m) c el - (n + m))) el)
    obtain ⟨G, hG, G1, G2, g1, g2, g3, g4, g5⟩ := ha.sat
    refine ⟨ha.mod, G, hG, G1, G2, g1, g2, g3, ⟨⟨hlen, .inr ⟨w.heap.size, _, _, rfl, Nat.zero_le _, g4.2.2, hge, hcm, ?_, ?_⟩⟩, fun k => ?_⟩, g5⟩
    · simp only [Array.size_append, List.size_toArray, size_zeroCells, hzs, hlen, ← Nat.add_mul]
      congr 1
      omega
    · simp only [Array.toList_append]
      rw [← hlen]
      exact List.take_left
    · simp only [Value.ownBlock, Option.some.injEq]
      exact ⟨fun hk => (g4.1 k hk).symm, fun e => e ▸ g4.2.1⟩
end Go.X
