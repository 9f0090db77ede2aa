/- What gessoref11.Read makes of a text: its parts between points, each a number; and that it is what ident.Read makes of it. -/
import Derived.Test.YtoiaecfiinkmjaaDoorReadLaw
namespace Go.Proofs.YtoiaecfiinkmjaaDoor
open Go.Lib

/-- the parts up to a place, and where the next one begins. -/
def seg (l : List UInt8) : Nat → List (List UInt8) × Nat
  | 0 => ([], 0)
  | k + 1 => if k = l.length ∨ l[k]? = some 46 then ((seg l k).1 ++ [(l.take k).drop (seg l k).2], k + 1) else seg l k
theorem seg_hit {l : List UInt8} {k : Nat} (h : k = l.length ∨ l[k]? = some 46) : seg l (k + 1) = ((seg l k).1 ++ [(l.take k).drop (seg l k).2], k + 1) := by rw [seg, if_pos h]
theorem seg_miss {l : List UInt8} {k : Nat} (h : ¬ (k = l.length ∨ l[k]? = some 46)) : seg l (k + 1) = seg l k := by rw [seg, if_neg h]
theorem seg_skip {l : List UInt8} {m : Nat} : ∀ d, (∀ j, m ≤ j → j < m + d → ¬ (j = l.length ∨ l[j]? = some 46)) → seg l (m + d) = seg l m
  | 0, _ => rfl
  | d + 1, h => by rw [← Nat.add_assoc, seg_miss (h (m + d) (by omega) (by omega)), seg_skip d (fun j h1 h2 => h j h1 (by omega))]
theorem seg_le (l : List UInt8) : ∀ k, (seg l k).2 ≤ k
  | 0 => Nat.le_refl _
  | k + 1 => by
    rw [seg]
    split
    · exact Nat.le_refl _
    · exact Nat.le_succ_of_le (seg_le l k)
theorem seg_len (l : List UInt8) : ∀ k, (seg l k).1.length ≤ k
  | 0 => Nat.le_refl _
  | k + 1 => by
    have := seg_len l k
    rw [seg]
    split
    · simp; omega
    · omega
/-- parts are parts of the text. -/
theorem seg_part (l : List UInt8) : ∀ k, ∀ p ∈ (seg l k).1, p.length ≤ l.length
  | 0, p, h => by simp [seg] at h
  | k + 1, p, h => by
    rw [seg] at h
    split at h
    · simp only [List.mem_append, List.mem_singleton] at h
      rcases h with h | rfl
      · exact seg_part l k p h
      · simp; omega
    · exact seg_part l k p h
theorem seg_three {a b c : List UInt8} (ha : 46 ∉ a) (hb : 46 ∉ b) (hc : 46 ∉ c) : (seg (a ++ 46 :: (b ++ 46 :: c)) ((a ++ 46 :: (b ++ 46 :: c)).length + 1)).1 = [a, b, c] := by
  obtain ⟨l, hl⟩ : ∃ l, l = a ++ 46 :: (b ++ 46 :: c) := ⟨_, rfl⟩
  have hn : l.length = a.length + 1 + b.length + 1 + c.length := by rw [hl]; simp; omega
  have g1 : ∀ j, j < a.length → l[j]? = a[j]? := fun j hj => by rw [hl, List.getElem?_append_left hj]
  have g2 : l[a.length]? = some 46 := by rw [hl]; simp
  have g3 : ∀ j, j < b.length → l[a.length + 1 + j]? = b[j]? := fun j hj => by
    rw [hl, List.getElem?_append_right (by omega), show a.length + 1 + j - a.length = j + 1 by omega, List.getElem?_cons_succ, List.getElem?_append_left hj]
  have g4 : l[a.length + 1 + b.length]? = some 46 := by
    rw [hl, List.getElem?_append_right (by omega), show a.length + 1 + b.length - a.length = b.length + 1 by omega, List.getElem?_cons_succ]; simp
  have g5 : ∀ j, j < c.length → l[a.length + 1 + b.length + 1 + j]? = c[j]? := fun j hj => by
    rw [hl, List.getElem?_append_right (by omega), show a.length + 1 + b.length + 1 + j - a.length = b.length + 1 + j + 1 by omega, List.getElem?_cons_succ, List.getElem?_append_right (by omega), show b.length + 1 + j - b.length = j + 1 by omega, List.getElem?_cons_succ]
  have nn : ∀ (x : List UInt8) (j : Nat), 46 ∉ x → x[j]? = some 46 → False := fun x j hx h => hx (List.mem_of_getElem? h)
  rw [← hl]
  have s1 : seg l (0 + a.length) = seg l 0 := seg_skip _ (fun j _ h2 h => by
    rcases h with h | h
    · omega
    · rw [g1 j (by omega)] at h; exact nn a j ha h)
  rw [Nat.zero_add] at s1
  have s2 : seg l (a.length + 1) = ([(l.take a.length).drop 0], a.length + 1) := by rw [seg_hit (.inr g2), s1]; rfl
  have s3 : seg l (a.length + 1 + b.length) = seg l (a.length + 1) := seg_skip _ (fun j h1 h2 h => by
    obtain ⟨i, rfl⟩ : ∃ i, j = a.length + 1 + i := ⟨j - (a.length + 1), by omega⟩
    rcases h with h | h
    · omega
    · rw [g3 i (by omega)] at h; exact nn b i hb h)
  have s4 : seg l (a.length + 1 + b.length + 1) = ([(l.take a.length).drop 0, (l.take (a.length + 1 + b.length)).drop (a.length + 1)], a.length + 1 + b.length + 1) := by rw [seg_hit (.inr g4), s3, s2]; rfl
  have s5 : seg l (a.length + 1 + b.length + 1 + c.length) = seg l (a.length + 1 + b.length + 1) := seg_skip _ (fun j h1 h2 h => by
    obtain ⟨i, rfl⟩ : ∃ i, j = a.length + 1 + b.length + 1 + i := ⟨j - (a.length + 1 + b.length + 1), by omega⟩
    rcases h with h | h
    · omega
    · rw [g5 i (by omega)] at h; exact nn c i hc h)
  rw [hn, seg_hit (.inl hn.symm), s5, s4]
  simp only [List.cons_append, List.nil_append, List.drop_zero]
  have e1 : l.take a.length = a := by rw [hl]; simp
  have e2 : (l.take (a.length + 1 + b.length)).drop (a.length + 1) = b := by
    rw [List.drop_take, show a.length + 1 + b.length - (a.length + 1) = b.length by omega, hl, show a ++ 46 :: (b ++ 46 :: c) = (a ++ [46]) ++ (b ++ 46 :: c) by simp]
    rw [show a.length + 1 = (a ++ [(46 : UInt8)]).length by simp, List.drop_left, List.take_left]
  have e3 : (l.take (a.length + 1 + b.length + 1 + c.length)).drop (a.length + 1 + b.length + 1) = c := by
    rw [List.take_of_length_le (by omega), hl, show a ++ 46 :: (b ++ 46 :: c) = (a ++ 46 :: (b ++ [46])) ++ c by simp]
    rw [show a.length + 1 + b.length + 1 = (a ++ 46 :: (b ++ [(46 : UInt8)])).length by simp; omega, List.drop_left]
  rw [e1, e2, e3]

def dig (c : UInt8) : Bool := decide (48 ≤ c.toNat) && decide (c.toNat ≤ 57)
/-- the number of digits. -/
def numOf (l : List UInt8) : Nat := l.foldl (fun n c => 10 * n + (c.toNat - 48)) 0
theorem numOf_snoc (l : List UInt8) (c : UInt8) : numOf (l ++ [c]) = 10 * numOf l + (c.toNat - 48) := by simp [numOf]
theorem fold_lt : ∀ (l : List UInt8) (n : Nat), l.all dig = true → l.foldl (fun n c => 10 * n + (c.toNat - 48)) n < (n + 1) * 10 ^ l.length
  | [], n, _ => by simp
  | c :: l, n, h => by
    rw [List.all_cons, Bool.and_eq_true] at h
    have h2 := h.1
    simp only [dig, Bool.and_eq_true, decide_eq_true_eq] at h2
    have h1 := fold_lt l (10 * n + (c.toNat - 48)) h.2
    have h3 : (10 * n + (c.toNat - 48) + 1) * 10 ^ l.length ≤ (10 * (n + 1)) * 10 ^ l.length := Nat.mul_le_mul_right _ (by omega)
    rw [List.foldl_cons, List.length_cons, Nat.pow_succ]
    have h4 : (n + 1) * (10 ^ l.length * 10) = (10 * (n + 1)) * 10 ^ l.length := by rw [Nat.mul_comm (10 ^ l.length) 10, ← Nat.mul_assoc, Nat.mul_comm (n + 1) 10]
    omega
theorem numOf_lt (l : List UInt8) (h : l.all dig = true) : numOf l < 10 ^ l.length := by have := fold_lt l 0 h; simpa [numOf] using this
theorem all_take {l : List UInt8} (h : l.all dig = true) (k : Nat) : (l.take k).all dig = true := by
  rw [List.all_eq_true] at h ⊢
  exact fun x hx => h x (List.mem_of_mem_take hx)
theorem numOf_take_lt {l : List UInt8} {k : Nat} (h : (l.take k).all dig = true) (hk : k ≤ 19) : numOf (l.take k) < 10000000000000000000 := by
  have h1 := numOf_lt _ h
  have h2 : (10 : Nat) ^ (l.take k).length ≤ 10 ^ 19 := Nat.pow_le_pow_right (by decide) (by rw [List.length_take]; omega)
  omega
/-- what part answers. -/
def pv (l : List UInt8) : Nat × Bool := if l.all dig = true then (numOf (l.take 19), decide (1 ≤ l.length) && decide (l.length ≤ 19)) else (0, false)
theorem decDigits_dig : ∀ u : Nat, (decDigits u).all dig = true := by
  intro u
  induction u using Nat.strongRecOn with
  | _ u ih =>
    rw [decDigits]
    split
    · rename_i h
      have hc : (UInt8.ofNat (48 + u)).toNat = 48 + u := by rw [UInt8.toNat_ofNat']; omega
      simp [dig]; omega
    · rename_i h
      have hc : (UInt8.ofNat (48 + u % 10)).toNat = 48 + u % 10 := by rw [UInt8.toNat_ofNat']; omega
      rw [List.all_append, ih (u / 10) (by omega)]
      simp [dig]; omega
theorem numOf_decDigits : ∀ u : Nat, numOf (decDigits u) = u := by
  intro u
  induction u using Nat.strongRecOn with
  | _ u ih =>
    rw [decDigits]
    split
    · rename_i h
      have hc : (UInt8.ofNat (48 + u)).toNat = 48 + u := by rw [UInt8.toNat_ofNat']; omega
      simp only [numOf, List.foldl_cons, List.foldl_nil, hc]
      omega
    · rename_i h
      have hc : (UInt8.ofNat (48 + u % 10)).toNat = 48 + u % 10 := by rw [UInt8.toNat_ofNat']; omega
      rw [numOf_snoc, ih (u / 10) (by omega), hc]
      omega
theorem nDigits_le : ∀ (k u : Nat), u < 10 ^ (k + 1) → nDigits u ≤ k + 1
  | 0, u, h => by rw [nDigits_small (by simpa using h)]; omega
  | k + 1, u, h => by
    by_cases h0 : u < 10
    · rw [nDigits_small h0]; omega
    · rw [nDigits_big h0]
      have h2 : (10 : Nat) ^ (k + 1 + 1) = 10 ^ (k + 1) * 10 := Nat.pow_succ ..
      have := nDigits_le k (u / 10) (by omega)
      omega
theorem decDigits_len19 {u : Nat} (h : u < 4611686018427387905) : 1 ≤ (decDigits u).length ∧ (decDigits u).length ≤ 19 := by
  rw [decDigits_length]
  exact ⟨nDigits_pos u, nDigits_le 18 u (by omega)⟩
theorem pv_dec {u : Nat} (h : u < 4611686018427387905) : pv (decDigits u) = (u, true) := by
  obtain ⟨h1, h2⟩ := decDigits_len19 h
  rw [pv, if_pos (decDigits_dig u), List.take_of_length_le h2, numOf_decDigits]
  simp [h1, h2]
theorem no_point (u : Nat) : 46 ∉ decDigits u := fun h => by
  have := List.all_eq_true.1 (decDigits_dig u) 46 h
  revert this
  decide

/-- what gessoref11.Read answers. -/
def rread (l : List UInt8) : Idn × Bool := match (seg l (l.length + 1)).1 with
  | [a, b, c] => if (pv a).2 = true ∧ (pv b).2 = true ∧ (pv c).2 = true ∧ (pv b).1 ≤ 8 then (⟨(pv a).1, (pv b).1, (pv c).1⟩, okId (pv a).1 (pv b).1 (pv c).1 && (textOf (pv a).1 (pv b).1 (pv c).1 == l)) else (⟨0, 0, 0⟩, false)
  | _ => (⟨0, 0, 0⟩, false)
theorem rread_back {l : List UInt8} {i : Idn} (h : readB l = some i) : rread l = (i, true) := by
  obtain ⟨h1, rfl⟩ := readB_some.1 h
  obtain ⟨t, s, q⟩ := i
  obtain ⟨a, b, c, rfl, rfl, rfl, ha, hb, hb1, hc⟩ := okId_nat h1
  simp only [Int.toNat_natCast] at *
  have ht : textOf a b c = decDigits a ++ 46 :: (decDigits b ++ 46 :: decDigits c) := by rw [textOf, itoa_nonneg]
  have hs := seg_three (no_point a) (no_point b) (no_point c)
  rw [← ht] at hs
  unfold rread
  rw [hs]
  simp only [pv_dec ha, pv_dec hc, pv_dec (show b < 4611686018427387905 by omega)]
  rw [if_pos ⟨trivial, trivial, trivial, hb⟩]
  have h1' : okId (a : Int) (b : Int) (c : Int) = true := h1
  rw [h1']
  simp
theorem rread_read (l : List UInt8) : readB l = if (rread l).2 = true then some (rread l).1 else none := by
  by_cases h : (rread l).2 = true
  · rw [if_pos h]
    unfold rread at h ⊢
    split at h
    · split at h
      · rename_i hc
        simp only [Bool.and_eq_true, beq_iff_eq] at h
        rw [if_pos hc]
        exact readB_some.2 ⟨h.1, by simpa using h.2.symm⟩
      · cases h
    · cases h
  · rw [if_neg h]
    cases hr : readB l with
    | none => rfl
    | some i => rw [rread_back hr] at h; exact absurd rfl h
end Go.Proofs.YtoiaecfiinkmjaaDoor
