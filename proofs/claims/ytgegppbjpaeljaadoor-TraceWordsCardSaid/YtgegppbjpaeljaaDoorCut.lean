/- R.Cut: a text cut at each byte c. -/
import Derived.Test.YtgegppbjpaeljaaDoorTy
import Derived.Test.YtgegppbjpaeljaaDoorF
set_option linter.unusedVariables false
set_option linter.unusedSimpArgs false
set_option maxRecDepth 10000
namespace Go.Proofs.YtgegppbjpaeljaaDoor.Ct
open Go Go.X Go.RowKit Go.Proofs.YtgegppbjpaeljaaDoor.Ty

/-- The pieces of a text between the bytes c. -/
def pieces (c : UInt8) : List UInt8 → List (List UInt8)
  | [] => [[]]
  | x :: r => if x = c then [] :: pieces c r else match pieces c r with
    | [] => [[x]]
    | p :: ps => (x :: p) :: ps
theorem pieces_ne (c : UInt8) : ∀ l, pieces c l ≠ []
  | [] => by simp [pieces]
  | x :: r => by
    unfold pieces
    split
    · simp
    · cases h : pieces c r with
      | nil => simp
      | cons p ps => simp
theorem pieces_none {c : UInt8} : ∀ {l : List UInt8}, c ∉ l → pieces c l = [l]
  | [], _ => rfl
  | x :: r, h => by
    have h1 : ¬ x = c := fun e => h (e ▸ List.mem_cons_self)
    have h2 := pieces_none (l := r) (fun hr => h (List.mem_cons_of_mem _ hr))
    simp [pieces, h1, h2]
theorem pieces_at {c : UInt8} : ∀ {a : List UInt8} (r : List UInt8), c ∉ a → pieces c (a ++ c :: r) = a :: pieces c r
  | [], r, _ => by simp [pieces]
  | x :: a, r, h => by
    have h1 : ¬ x = c := fun e => h (e ▸ List.mem_cons_self)
    have h2 := pieces_at (a := a) r (fun hr => h (List.mem_cons_of_mem _ hr))
    simp [pieces, h1, h2]
theorem pieces_length (c : UInt8) : ∀ l : List UInt8, (pieces c l).length = l.count c + 1
  | [] => rfl
  | x :: r => by
    have ih := pieces_length c r
    unfold pieces
    by_cases h : x = c
    · simp [h, ih]
    · rw [if_neg h, List.count_cons_of_ne h]
      cases hp : pieces c r with
      | nil => exact absurd hp (pieces_ne c r)
      | cons p ps => rw [hp] at ih; simpa using ih
theorem count_drop (c : UInt8) (l : List UInt8) (n : Nat) : (l.drop n).count c ≤ l.length := by
  have h1 : (l.drop n).count c ≤ (l.drop n).length := List.count_le_length
  have h2 : (l.drop n).length ≤ l.length := by simp
  omega
def asStr (p : List UInt8) : ByteArray := ⟨p.toArray⟩
theorem extract_list (s : ByteArray) (a b : Nat) : s.extract a b = asStr ((s.data.toList.drop a).take (b - a)) := by
  apply ByteArray.ext
  rw [ByteArray.data_extract]
  apply Array.ext'
  simp [asStr, List.drop_take]

theorem elemStr : TElem Tryd.prog 9 (.string ⟨#[]⟩) 1 16 := TElem.of (by kernel_rfl) rfl
noncomputable def cxCut : Cx := ⟨Tryd.prog, 10, 34, []⟩
theorem Cut_calls (s : ByteArray) (c : UInt8) (hs : s.size ≤ 1099511627776) (w0 : World) :
    Calls Tryd.prog 10 #[.string s, .int .u8 c.toNat] w0 fun e w' => ∃ x : Option Addr × Nat, True ∧ e = .returned (.slice x.1 (pieces c s.data.toList).length x.2) ∧
      St w0 noS [HP.own 9 1 (.slice x.1 (pieces c s.data.toList).length x.2) (pieces c s.data.toList).length (strs ((pieces c s.data.toList).map asStr))] w' := by
  have hsz : s.data.toList.length = s.size := by rw [Array.length_toList]; rfl
  refine calls_of_X cxCut [.string s, .int .u8 c.toNat] Tryd.func10 (St.nil w0) ?_
  (repeat (first | with_reducible refine X.seq ?_ | with_reducible refine X.region ?_ | with_reducible refine X.block ?_ | with_reducible refine X.skip ?_ | with_reducible refine X.inBlock ?_ | refine X.exit rfl ?_))
  refine O.assign ?_
  refine XO.nil ?_
  (repeat (first | with_reducible refine X.seq ?_ | with_reducible refine X.region ?_ | with_reducible refine X.block ?_ | with_reducible refine X.skip ?_ | with_reducible refine X.inBlock ?_ | refine X.exit rfl ?_))
  refine O.assign ?_
  refine XO.nil ?_
  (repeat (first | with_reducible refine X.seq ?_ | with_reducible refine X.region ?_ | with_reducible refine X.block ?_ | with_reducible refine X.skip ?_ | with_reducible refine X.inBlock ?_ | refine X.exit rfl ?_))
  refine O.assign ?_
  refine XO.nil ?_
  (repeat (first | with_reducible refine X.seq ?_ | with_reducible refine X.region ?_ | with_reducible refine X.block ?_ | with_reducible refine X.skip ?_ | with_reducible refine X.inBlock ?_ | refine X.exit rfl ?_))
  refine O.assign ?_
  refine XO.nil ?_
  (repeat (first | with_reducible refine X.seq ?_ | with_reducible refine X.region ?_ | with_reducible refine X.block ?_ | with_reducible refine X.skip ?_ | with_reducible refine X.inBlock ?_ | refine X.exit rfl ?_))
  refine X.st (fun w hs => hs.own_nil 9 1) ?_
  refine X.loop (γ := List (List UInt8) × Nat × Nat × Option Addr × Nat) (fun g => g.2.1 ≤ g.2.2.1 ∧ g.2.2.1 ≤ s.size ∧ pieces c s.data.toList = g.1 ++ pieces c (s.data.toList.drop g.2.1) ∧ c ∉ (s.data.toList.drop g.2.1).take (g.2.2.1 - g.2.1) ∧ g.1.length ≤ g.2.1)
    (fun g => [⟨0, true, .string s⟩, ⟨1, true, .int .u8 c.toNat⟩, ⟨5, true, .slice g.2.2.2.1 g.1.length g.2.2.2.2⟩, ⟨6, true, .int .i64 g.2.1⟩, ⟨7, true, .int .i64 g.2.2.1⟩])
    (fun g => St w0 noS [HP.own 9 1 (.slice g.2.2.2.1 g.1.length g.2.2.2.2) g.1.length (strs (g.1.map asStr))]) (fun g => s.size - g.2.2.1) ([], 0, 0, none, 0) ⟨Nat.le_refl _, Nat.zero_le _, by simp, by simp, Nat.le_refl _⟩ (by repeat (first | exact Sub.nil | refine Sub.cons rfl (by first | rfl | simp) ?_)) (fun _ h => h) ?_
  rintro ⟨P, f, i, A, cap⟩ ⟨h1, h2, h3, h4, h5⟩ next
  dsimp only at h1 h2 h3 h4 h5 ⊢
  (repeat (first | with_reducible refine X.seq ?_ | with_reducible refine X.region ?_ | with_reducible refine X.block ?_ | with_reducible refine X.skip ?_ | with_reducible refine X.inBlock ?_ | refine X.exit rfl ?_))
  refine O.move ?_
  refine O.move ?_
  refine O.lenString tg9 ?_
  refine O.lss ?_
  refine XO.nil ?_
  (repeat (first | with_reducible refine X.seq ?_ | with_reducible refine X.region ?_ | with_reducible refine X.block ?_ | with_reducible refine X.skip ?_ | with_reducible refine X.inBlock ?_ | refine X.exit rfl ?_))
  refine X.cond rfl (fun h => ?_) (fun h => ?_)
  · have hlt : i < s.size := by have := of_decide_eq_true h; omega
    have hlt' : i < s.data.toList.length := by omega
    have hx : ((s[(i : Int).toNat]?).getD 0) = s.data.toList[i] := by
      have : s[(i : Int).toNat]? = some (s.data.toList[i]) := by
        rw [Int.toNat_natCast, getElem?_pos s i hlt]
        rfl
      rw [this]; rfl
    have hmid : s.data.toList.drop f = (s.data.toList.drop f).take (i - f) ++ s.data.toList[i] :: s.data.toList.drop (i + 1) := by
      rw [← List.drop_eq_getElem_cons hlt']
      have : s.data.toList.drop i = (s.data.toList.drop f).drop (i - f) := by rw [List.drop_drop]; congr 1; omega
      rw [this, List.take_append_drop]
    (repeat (first | with_reducible refine X.seq ?_ | with_reducible refine X.region ?_ | with_reducible refine X.block ?_ | with_reducible refine X.skip ?_ | with_reducible refine X.inBlock ?_ | refine X.exit rfl ?_))
    refine O.move ?_
    refine O.move ?_
    refine O.index tg9 ?_ (hv := by intro _; rw [hx])
    refine O.move ?_
    refine O.eql ?_
    refine XO.nil ?_
    (repeat (first | with_reducible refine X.seq ?_ | with_reducible refine X.region ?_ | with_reducible refine X.block ?_ | with_reducible refine X.skip ?_ | with_reducible refine X.inBlock ?_ | refine X.exit rfl ?_))
    refine X.cond rfl (fun h6 => ?_) (fun h6 => ?_)
    · have hc : s.data.toList[i] = c := by
        have h7 := of_decide_eq_true h6
        exact UInt8.toNat_inj.1 (by omega)
      rw [hc] at hmid
      have h3' : pieces c s.data.toList = (P ++ [(s.data.toList.drop f).take (i - f)]) ++ pieces c (s.data.toList.drop (i + 1)) := by
        rw [h3, hmid, pieces_at _ h4, List.append_assoc]
        rw [← hmid]
        rfl
      (repeat (first | with_reducible refine X.seq ?_ | with_reducible refine X.region ?_ | with_reducible refine X.block ?_ | with_reducible refine X.skip ?_ | with_reducible refine X.inBlock ?_ | refine X.exit rfl ?_))
      refine O.move ?_
      refine O.move ?_
      refine O.move ?_
      refine O.move ?_
      refine O.sliceStr tg9 ?_
      refine O.buildSlice 9 #[.string (s.extract (f : Int).toNat (i : Int).toNat)] (fun g hg => ?_)
      refine O.append [.string (s.extract (f : Int).toNat (i : Int).toNat)] 1 tl29 elemStr (hsrc := fun w hs => Src.ofBlk tl29.1 hs .here rfl rfl) (h63 := by simp only [maxLen]; omega) (hbytes := by omega) (next := fun A' c' => ?_)
      refine O.assign ?_
      refine XO.nil ?_
      (repeat (first | with_reducible refine X.seq ?_ | with_reducible refine X.region ?_ | with_reducible refine X.block ?_ | with_reducible refine X.skip ?_ | with_reducible refine X.inBlock ?_ | refine X.exit rfl ?_))
      refine O.move ?_
      refine O.add ?_
      refine O.assign ?_
      refine XO.nil ?_
      (repeat (first | with_reducible refine X.seq ?_ | with_reducible refine X.region ?_ | with_reducible refine X.block ?_ | with_reducible refine X.skip ?_ | with_reducible refine X.inBlock ?_ | refine X.exit rfl ?_))
      refine O.move ?_
      refine O.add ?_
      refine O.assign ?_
      refine XO.nil ?_
      (repeat (first | with_reducible refine X.seq ?_ | with_reducible refine X.region ?_ | with_reducible refine X.block ?_ | with_reducible refine X.skip ?_ | with_reducible refine X.inBlock ?_ | refine X.exit rfl ?_))
      refine X.st (fun w hs => ?_) (X.sub (by repeat (first | exact Sub.nil | refine Sub.cons rfl (by first | rfl | simp) ?_)) (next (P ++ [(s.data.toList.drop f).take (i - f)], i + 1, i + 1, A', c') ⟨Nat.le_refl _, (by dsimp only; omega), h3', (by simp), (by simp; omega)⟩ (by dsimp only; omega)))
      have hn : (P ++ [(s.data.toList.drop f).take (i - f)]).length = P.length + 1 := by simp
      have he : strs ((P ++ [(s.data.toList.drop f).take (i - f)]).map asStr) = strs (P.map asStr) ++ [.string (s.extract (f : Int).toNat (i : Int).toNat)] := by
        simp [strs, extract_list]
      dsimp only
      rw [hn, he]
      exact hs.drop (L1 := [_])
    · have hc : ¬ s.data.toList[i] = c := by
        have h7 := of_decide_eq_false h6
        exact fun e => h7 (by rw [e])
      (repeat (first | with_reducible refine X.seq ?_ | with_reducible refine X.region ?_ | with_reducible refine X.block ?_ | with_reducible refine X.skip ?_ | with_reducible refine X.inBlock ?_ | refine X.exit rfl ?_))
      refine O.move ?_
      refine O.add ?_
      refine O.assign ?_
      refine XO.nil ?_
      (repeat (first | with_reducible refine X.seq ?_ | with_reducible refine X.region ?_ | with_reducible refine X.block ?_ | with_reducible refine X.skip ?_ | with_reducible refine X.inBlock ?_ | refine X.exit rfl ?_))
      refine X.sub (by repeat (first | exact Sub.nil | refine Sub.cons rfl (by first | rfl | simp) ?_)) (next (P, f, i + 1, A, cap) ⟨by dsimp only; omega, by dsimp only; omega, h3, ?_, h5⟩ (by dsimp only; omega))
      dsimp only
      rw [show i + 1 - f = (i - f) + 1 from by omega, List.take_add_one]
      have : (s.data.toList.drop f)[i - f]? = some (s.data.toList[i]) := by
        rw [List.getElem?_drop, show f + (i - f) = i from by omega, List.getElem?_eq_getElem hlt']
      rw [this]
      simp only [Option.toList_some, List.mem_append, List.mem_singleton, not_or]
      exact ⟨h4, fun e => hc e.symm⟩
  · have hge : i = s.size := by have := of_decide_eq_false h; omega
    subst hge
    have hall : (s.data.toList.drop f).take (s.size - f) = s.data.toList.drop f := List.take_of_length_le (by rw [List.length_drop]; omega)
    rw [hall] at h4
    have h3' : pieces c s.data.toList = P ++ [s.data.toList.drop f] := by rw [h3, pieces_none h4]
    (repeat (first | with_reducible refine X.seq ?_ | with_reducible refine X.region ?_ | with_reducible refine X.block ?_ | with_reducible refine X.skip ?_ | with_reducible refine X.inBlock ?_ | refine X.exit rfl ?_))
    refine O.move ?_
    refine O.move ?_
    refine O.move ?_
    refine O.sliceStrFrom tg9 ?_
    refine O.buildSlice 9 #[.string (s.extract (f : Int).toNat s.size)] (fun g hg => ?_)
    refine O.append [.string (s.extract (f : Int).toNat s.size)] 1 tl29 elemStr (hsrc := fun w hs => Src.ofBlk tl29.1 hs .here rfl rfl) (h63 := by simp only [maxLen]; omega) (hbytes := by omega) (next := fun A' c' => ?_)
    refine O.assign ?_
    refine XO.nil ?_
    (repeat (first | with_reducible refine X.seq ?_ | with_reducible refine X.region ?_ | with_reducible refine X.block ?_ | with_reducible refine X.skip ?_ | with_reducible refine X.inBlock ?_ | refine X.exit rfl ?_))
    refine X.ret1 Tryd.func10 ?_
    intro w' hs
    have hn : (pieces c s.data.toList).length = P.length + 1 := by rw [h3', List.length_append]; rfl
    have he : strs ((pieces c s.data.toList).map asStr) = strs (P.map asStr) ++ [.string (s.extract (f : Int).toNat s.size)] := by
      rw [h3']
      simp only [strs, extract_list, Int.toNat_natCast, hall, List.map_append, List.map_cons, List.map_nil]
    rw [hn, he]
    exact ⟨(A', c'), trivial, rfl, hs.drop (L1 := [_])⟩
end Go.Proofs.YtgegppbjpaeljaaDoor.Ct
