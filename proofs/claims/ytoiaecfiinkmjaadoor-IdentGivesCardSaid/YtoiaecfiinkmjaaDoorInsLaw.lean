/- Insertion one by one, behind all that stand not behind: it comes to the ids as they stand. -/
import Derived.Test.YtoiaecfiinkmjaaDoorSorted
namespace Go.Proofs.YtoiaecfiinkmjaaDoor

/-- how many stand at the head that x does not stand ahead of. -/
def placeR (x : Idn) : List Idn → Nat
  | [] => 0
  | y :: l => if lessId x y = true then 0 else placeR x l + 1
theorem placeR_le (x : Idn) : ∀ l : List Idn, placeR x l ≤ l.length
  | [] => Nat.le_refl _
  | y :: l => by
    unfold placeR
    split
    · omega
    · have := placeR_le x l; simp; omega
theorem placeR_at (x : Idn) : ∀ (l : List Idn) (k : Nat), (∀ j y, j < k → l[j]? = some y → lessId x y = false) → k ≤ l.length → (k = l.length ∨ ∃ y, l[k]? = some y ∧ lessId x y = true) → placeR x l = k
  | [], k, _, hk, _ => by simp at hk; subst hk; rfl
  | y :: l, 0, _, _, h => by
    rcases h with h | ⟨z, h1, h2⟩
    · simp at h
    · simp at h1; subst h1; simp [placeR, h2]
  | y :: l, k + 1, hb, hk, h => by
    have hy : lessId x y = false := hb 0 y (by omega) rfl
    unfold placeR
    rw [if_neg (by rw [hy]; simp)]
    rw [placeR_at x l k (fun j z hj hz => hb (j + 1) z (by omega) (by simpa using hz)) (by simpa using hk) (by
      rcases h with h | ⟨z, h1, h2⟩
      · exact .inl (by simpa using h)
      · exact .inr ⟨z, by simpa using h1, h2⟩)]
/-- one inserted. -/
def insR (x : Idn) (l : List Idn) : List Idn := l.take (placeR x l) ++ x :: l.drop (placeR x l)
def rsort (L : List Idn) : List Idn := L.foldl (fun out x => insR x out) []
theorem rsort_snoc (L : List Idn) (x : Idn) : rsort (L ++ [x]) = insR x (rsort L) := by simp [rsort, List.foldl_append]
theorem insR_length (x : Idn) (l : List Idn) : (insR x l).length = l.length + 1 := by
  have := placeR_le x l
  simp [insR]; omega
theorem rsort_length (L : List Idn) : (rsort L).length = L.length := by
  have : ∀ (L out : List Idn), (L.foldl (fun out x => insR x out) out).length = out.length + L.length := by
    intro L
    induction L with
    | nil => intro out; simp
    | cons x L ih => intro out; rw [List.foldl_cons, ih, insR_length, List.length_cons]; omega
  simpa [rsort] using this L []
theorem insR_perm (x : Idn) (l : List Idn) : (insR x l).Perm (x :: l) := by
  have h : (x :: l) = x :: (l.take (placeR x l) ++ l.drop (placeR x l)) := by rw [List.take_append_drop]
  rw [h]
  exact List.perm_middle
/-- each stands not behind the next ones. -/
def Asc (l : List Idn) : Prop := l.Pairwise fun x y => (!lessId y x) = true
theorem asc_cons {x : Idn} {l : List Idn} : Asc (x :: l) ↔ (∀ y ∈ l, lessId y x = false) ∧ Asc l := by
  unfold Asc
  rw [List.pairwise_cons]
  simp
theorem notLess_trans {x y z : Idn} (h1 : lessId y x = false) (h2 : lessId z y = false) : lessId z x = false := by
  rw [lessId_not] at *; omega
theorem less_asym {x y : Idn} (h : lessId x y = true) : lessId y x = false := by
  rw [lessId_iff] at h; rw [lessId_not]; omega
theorem insR_nil (x : Idn) : insR x [] = [x] := rfl
theorem insR_cons (x y : Idn) (l : List Idn) : insR x (y :: l) = if lessId x y = true then x :: y :: l else y :: insR x l := by
  unfold insR
  by_cases h : lessId x y = true
  · simp [placeR, h]
  · simp [placeR, h]
theorem insR_asc (x : Idn) : ∀ l : List Idn, Asc l → Asc (insR x l)
  | [], _ => by rw [insR_nil]; exact asc_cons.2 ⟨by simp, by simp [Asc]⟩
  | y :: l, h => by
    rw [insR_cons]
    obtain ⟨h1, h2⟩ := asc_cons.1 h
    split
    · rename_i hl
      refine asc_cons.2 ⟨fun z hz => ?_, h⟩
      have hyx := less_asym hl
      rcases List.mem_cons.1 hz with rfl | hz
      · exact hyx
      · exact notLess_trans hyx (h1 z hz)
    · rename_i hl
      refine asc_cons.2 ⟨fun z hz => ?_, insR_asc x l h2⟩
      rcases List.mem_cons.1 ((insR_perm x l).mem_iff.1 hz) with rfl | hz
      · simpa using hl
      · exact h1 z hz
theorem rsort_ok (L : List Idn) : Asc (rsort L) ∧ (rsort L).Perm L := by
  have : ∀ (L out : List Idn), Asc out → Asc (L.foldl (fun out x => insR x out) out) ∧ (L.foldl (fun out x => insR x out) out).Perm (out ++ L) := by
    intro L
    induction L with
    | nil => intro out h; exact ⟨h, by simp⟩
    | cons x L ih =>
      intro out h
      obtain ⟨h1, h2⟩ := ih (insR x out) (insR_asc x out h)
      refine ⟨h1, h2.trans ?_⟩
      exact ((insR_perm x out).append_right L).trans (List.perm_middle.symm)
  simpa [rsort] using this L [] (by simp [Asc])
theorem sortIds_ok (L : List Idn) : Asc (sortIds L) ∧ (sortIds L).Perm L := by
  refine ⟨List.pairwise_mergeSort (le := fun x y => !lessId y x) ?_ ?_ L, List.mergeSort_perm _ _⟩
  · intro a b c h1 h2
    simp only [Bool.not_eq_true'] at *
    exact notLess_trans h1 h2
  · intro a b
    cases h : lessId b a with
    | false => rfl
    | true => simp [less_asym h]
/-- two rows of the same ids, as they stand, are one. -/
theorem asc_unique {l l' : List Idn} (h : Asc l) (h' : Asc l') (hp : l.Perm l') : l = l' :=
  List.Perm.eq_of_pairwise (fun a b _ _ h1 h2 => lessId_total a b (by simpa using h2) (by simpa using h1)) h h' hp
theorem rsort_eq (L : List Idn) : rsort L = sortIds L := asc_unique (rsort_ok L).1 (sortIds_ok L).1 ((rsort_ok L).2.trans (sortIds_ok L).2.symm)
end Go.Proofs.YtoiaecfiinkmjaaDoor
