/- VectorFills: the plain law: what the vector comes to that is filled site by site. -/
import Derived.Test.YtoiaecfiinkmjaaMany
import Derived.Test.YtoiaecfiinkmjaaCovers
namespace Go.Proofs.Ytoiaecfiinkmjaa
open Go.RowKit Go.Shelf

/-- one site set. -/
def setV (A : Nat → Int) (k : Nat) (x : Int) : Nat → Int := fun j => if j = k then x else A j
/-- a vector behind the stretches. -/
def fillV (f : Nat → Int) (l : List Str) : Nat → Int := l.foldl (fun A x => setV A x.s.toNat x.b) f
/-- how many ids stretches have, however many. -/
def sumOf (l : List Str) : Int := l.foldl (fun s x => s + (x.b - x.a + 1)) 0
theorem fillV_snoc (f : Nat → Int) (l : List Str) (x : Str) : fillV f (l ++ [x]) = setV (fillV f l) x.s.toNat x.b := by simp [fillV]
theorem sumOf_snoc (l : List Str) (x : Str) : sumOf (l ++ [x]) = sumOf l + (x.b - x.a + 1) := by simp [sumOf]
theorem setV_same (A : Nat → Int) (k : Nat) : setV A k (A k) = A := by funext j; unfold setV; split <;> simp_all
theorem setV_set (A : Nat → Int) (k : Nat) (x y : Int) : setV (setV A k x) k y = setV A k y := by funext j; unfold setV; split <;> rfl
theorem setV_at (A : Nat → Int) (k : Nat) (x : Int) : setV A k x k = x := by simp [setV]
theorem upd_setV (A : Nat → Int) (k : Nat) (x : Int) : upd (setV A k x) k = setV A k (x + 1) := by funext j; unfold upd setV; split <;> simp

theorem fillV_out (l : List Str) : ∀ (f : Nat → Int) (j : Nat), (∀ x ∈ l, x.s.toNat ≠ j) → fillV f l j = f j := by
  induction l with
  | nil => intro f j _; rfl
  | cons x l ih =>
    intro f j h
    show fillV (setV f x.s.toNat x.b) l j = f j
    rw [ih _ j (fun y hy => h y (by simp [hy]))]
    unfold setV
    rw [if_neg (fun e => h x (by simp) e.symm)]
theorem fillV_lack (f g : Nat → Int) (j : Nat) : ∀ (ks : List Nat) (A : Nat → Int), (A j = f j ∨ A j = max (f j) (g j)) → fillV A (lackOf f g ks) j = if j ∈ ks then max (f j) (g j) else A j := by
  intro ks
  induction ks with
  | nil => intro A _; rfl
  | cons k ks ih =>
    intro A hA
    by_cases hlt : f k < g k
    · have hc : lackOf f g (k :: ks) = ⟨(k : Int), f k + 1, g k⟩ :: lackOf f g ks := by simp [lackOf, hlt]
      rw [hc]
      show fillV (setV A ((k : Int)).toNat (g k)) (lackOf f g ks) j = _
      rw [Int.toNat_natCast]
      by_cases hjk : j = k
      · subst hjk
        rw [ih _ (.inr (by simp [setV]; omega))]
        simp [setV]
        intro _; omega
      · rw [ih _ (by simp [setV, hjk, hA])]
        simp [setV, hjk]
    · have hc : lackOf f g (k :: ks) = lackOf f g ks := by simp [lackOf, hlt]
      rw [hc, ih A hA]
      by_cases hjk : j = k
      · subst hjk
        simp
        intro _
        rcases hA with h | h <;> omega
      · simp [hjk]

theorem lackOf_mem {f g : Nat → Int} {ks : List Nat} {x : Str} (h : x ∈ lackOf f g ks) : ∃ k ∈ ks, f k < g k ∧ x = ⟨(k : Int), f k + 1, g k⟩ := by
  simp only [lackOf, List.mem_map, List.mem_filter] at h
  obtain ⟨k, ⟨hk, hlt⟩, rfl⟩ := h
  exact ⟨k, hk, by simpa using hlt, rfl⟩
theorem lackOf_nodup (f g : Nat → Int) : ∀ (ks : List Nat), ks.Nodup → ((lackOf f g ks).map fun x => x.s.toNat).Nodup := by
  intro ks h
  have : (lackOf f g ks).map (fun x => x.s.toNat) = ks.filter fun k : Nat => decide (f k < g k) := by
    unfold lackOf
    rw [List.map_map]
    conv => rhs; rw [← List.map_id (ks.filter _)]
    apply List.map_congr_left
    intro k _
    simp
  rw [this]
  exact h.filter _
theorem nodup_take {α : Type} {l : List α} {F : α → Nat} (h : (l.map F).Nodup) {k : Nat} {x : α} (hx : l[k]? = some x) : ∀ y ∈ l.take k, F y ≠ F x := by
  intro y hy he
  obtain ⟨i, hi, hiy⟩ := List.mem_iff_getElem.1 hy
  have hik : i < k := by rw [List.length_take] at hi; omega
  obtain ⟨hk, hkx⟩ := List.getElem?_eq_some_iff.1 hx
  rw [List.getElem_take] at hiy
  have := (List.pairwise_iff_getElem.1 h) i k (by simp; omega) (by simpa using hk) hik
  simp only [List.getElem_map, hiy, hkx] at this
  exact this he

theorem sum_nonneg : ∀ (l : List Str) (s : Int), (∀ x ∈ l, goodStr x) → 0 ≤ s → s ≤ l.foldl (fun s x => s + (x.b - x.a + 1)) s
  | [], s, _, _ => Int.le_refl _
  | x :: l, s, h, h0 => by
    have hx := h x (by simp)
    unfold goodStr at hx
    have := sum_nonneg l (s + (x.b - x.a + 1)) (fun y hy => h y (by simp [hy])) (by omega)
    show s ≤ List.foldl _ (s + (x.b - x.a + 1)) l
    omega
theorem many_sum : ∀ (l : List Str) (s : Int), (∀ x ∈ l, goodStr x) → 0 ≤ s → s ≤ maxT → l.foldl (fun s x => min (s + (x.b - x.a + 1)) maxT) s = min (l.foldl (fun s x => s + (x.b - x.a + 1)) s) maxT
  | [], s, _, h0, h1 => by simp; omega
  | x :: l, s, h, h0, h1 => by
    have hx := h x (by simp)
    unfold goodStr at hx
    have hl : ∀ y ∈ l, goodStr y := fun y hy => h y (by simp [hy])
    show l.foldl _ (min (s + (x.b - x.a + 1)) maxT) = min (l.foldl _ (s + (x.b - x.a + 1))) maxT
    by_cases hle : s + (x.b - x.a + 1) ≤ maxT
    · rw [show min (s + (x.b - x.a + 1)) maxT = s + (x.b - x.a + 1) by omega]
      exact many_sum l _ hl (by omega) hle
    · rw [show min (s + (x.b - x.a + 1)) maxT = maxT by omega, many_sum l maxT hl (by unfold maxT; omega) (Int.le_refl _)]
      have a := sum_nonneg l maxT hl (by unfold maxT; omega)
      have b := sum_nonneg l (s + (x.b - x.a + 1)) hl (by omega)
      omega
theorem manyOf_sum {l : List Str} (h : ∀ x ∈ l, goodStr x) : manyOf l = min (sumOf l) maxT := many_sum l 0 h (Int.le_refl _) (by unfold maxT; omega)
end Go.Proofs.Ytoiaecfiinkmjaa
