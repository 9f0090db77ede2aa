/- How ids stand: the plain law of IdentTotal. -/
import Derived.Test.YtoiaecfiinkmjaaDoorInsLaw
import Derived.Test.YtoiaecfiinkmjaaDoorRising2
namespace Go.Proofs.YtoiaecfiinkmjaaDoor
open Go.Sort

theorem cmpI_vals (x y : Int) : (x < y ∧ cmpI x y = -1 ∧ cmpI y x = 1) ∨ (x = y ∧ cmpI x y = 0 ∧ cmpI y x = 0) ∨ (y < x ∧ cmpI x y = 1 ∧ cmpI y x = -1) := by
  unfold cmpI
  rcases Int.lt_trichotomy x y with h | h | h
  · refine .inl ⟨h, ?_, ?_⟩ <;> (split <;> (try split) <;> omega)
  · refine .inr (.inl ⟨h, ?_, ?_⟩) <;> (split <;> (try split) <;> omega)
  · refine .inr (.inr ⟨h, ?_, ?_⟩) <;> (split <;> (try split) <;> omega)
theorem eqId_false {a b : Idn} (h : a ≠ b) : eqId a b = false := by
  cases he : eqId a b with
  | false => rfl
  | true => exact absurd ((eqId_iff a b).1 he) h
theorem eqId_comm (a b : Idn) : eqId a b = eqId b a := by
  by_cases h : a = b
  · subst h; rfl
  · rw [eqId_false h, eqId_false (fun e => h e.symm)]
theorem cmp_cases (a b : Idn) : (cmpId a b = -1 ∧ cmpId b a = 1 ∧ eqId a b = false) ∨ (cmpId a b = 0 ∧ cmpId b a = 0 ∧ eqId a b = true) ∨ (cmpId a b = 1 ∧ cmpId b a = -1 ∧ eqId a b = false) := by
  by_cases h : a = b
  · subst h
    have he : eqId a a = true := (eqId_iff a a).2 rfl
    exact .inr (.inl ⟨by simp [cmpId, he], by simp [cmpId, he], he⟩)
  · have he := eqId_false h
    have he2 : eqId b a = false := by rw [eqId_comm]; exact he
    unfold cmpId
    rw [he, he2]
    simp only [orI]
    rcases cmpI_vals a.t b.t with ⟨_, h1, h2⟩ | ⟨e1, h1, h2⟩ | ⟨_, h1, h2⟩
    · left; simp [h1, h2]
    · rcases cmpI_vals a.s b.s with ⟨_, h3, h4⟩ | ⟨e2, h3, h4⟩ | ⟨_, h3, h4⟩
      · left; simp [h1, h2, h3, h4]
      · rcases cmpI_vals a.q b.q with ⟨_, h5, h6⟩ | ⟨e3, h5, h6⟩ | ⟨_, h5, h6⟩
        · left; simp [h1, h2, h3, h4, h5, h6]
        · exfalso
          apply h
          obtain ⟨t, s, q⟩ := a
          obtain ⟨t', s', q'⟩ := b
          simp only at e1 e2 e3
          rw [e1, e2, e3]
        · right; right; simp [h1, h2, h3, h4, h5, h6]
      · right; right; simp [h1, h2, h3, h4]
    · right; right; simp [h1, h2]
theorem less_ne {x y : Idn} (h : lessId x y = true) : x ≠ y := fun e => by subst e; rw [lessId_irrefl] at h; cases h
theorem less_of_ne {x y : Idn} (h : lessId y x = false) (hn : x ≠ y) : lessId x y = true := by
  cases hl : lessId x y with
  | true => rfl
  | false => exact absurd (lessId_total x y hl h) hn
theorem less_trans {x y z : Idn} (h : lessId x y = true) (k : lessId y z = true) : lessId x z = true := by rw [lessId_iff] at *; omega
/-- three, as they stand. -/
theorem sort3 (a b c : Idn) : ∃ x0 x1 x2, sortIds [a, b, c] = [x0, x1, x2] ∧ lessId x1 x0 = false ∧ lessId x2 x1 = false ∧ riseB [x0, x1, x2] = (!eqId a b && (!eqId b c && !eqId a c)) := by
  obtain ⟨hA, hP⟩ := sortIds_ok [a, b, c]
  have hl := hP.length_eq
  obtain ⟨x0, x1, x2, e⟩ : ∃ x0 x1 x2, sortIds [a, b, c] = [x0, x1, x2] := by
    generalize sortIds [a, b, c] = l at hl
    match l, hl with
    | [x0, x1, x2], _ => exact ⟨x0, x1, x2, rfl⟩
  rw [e] at hA hP
  have h10 : lessId x1 x0 = false := by have := (List.pairwise_cons.1 hA).1 x1 (by simp); simpa using this
  have h21 : lessId x2 x1 = false := by have := (List.pairwise_cons.1 (List.pairwise_cons.1 hA).2).1 x2 (by simp); simpa using this
  refine ⟨x0, x1, x2, e, h10, h21, ?_⟩
  have hr : riseB [x0, x1, x2] = (lessId x0 x1 && lessId x1 x2) := by simp [riseB, atI, List.range']
  have hn := hP.nodup_iff
  rw [hr, Bool.eq_iff_iff]
  have hd : (lessId x0 x1 && lessId x1 x2) = true ↔ [x0, x1, x2].Nodup := by
    simp only [Bool.and_eq_true, List.nodup_cons, List.mem_cons, List.not_mem_nil, or_false, not_or]
    constructor
    · rintro ⟨h1, h2⟩
      exact ⟨⟨less_ne h1, less_ne (less_trans h1 h2)⟩, less_ne h2, by simp⟩
    · rintro ⟨⟨h1, _⟩, h2, _⟩
      exact ⟨less_of_ne h10 h1, less_of_ne h21 h2⟩
  rw [hd, hn]
  have hne : ∀ x y : Idn, (!eqId x y) = true ↔ x ≠ y := fun x y => by
    by_cases h : x = y
    · subst h; simp [(eqId_iff x x).2 rfl]
    · simp [eqId_false h, h]
  simp only [Bool.and_eq_true, hne, List.nodup_cons, List.mem_cons, List.not_mem_nil, or_false, not_or]
  constructor
  · rintro ⟨⟨h1, h2⟩, h3, _⟩; exact ⟨h1, h3, h2⟩
  · rintro ⟨h1, h3, h2⟩; exact ⟨⟨h1, h2⟩, h3, by simp⟩
end Go.Proofs.YtoiaecfiinkmjaaDoor
