/- An id's text is no other one's: the plain law of IdentBack. -/
import Derived.Test.YtoiaecfiinkmjaaDoorReadLaw
namespace Go.Proofs.YtoiaecfiinkmjaaDoor
open Go.Lib

/-- the number of a row of digits. -/
def dval (l : List UInt8) : Nat := l.foldl (fun n c => 10 * n + (c.toNat - 48)) 0
theorem dval_dec (u : Nat) : dval (decDigits u) = u := by
  induction u using Nat.strongRecOn with
  | _ u ih =>
    rw [decDigits]
    split
    · rename_i h
      simp [dval]; omega
    · rename_i h
      have hc : (UInt8.ofNat (48 + u % 10)).toNat = 48 + u % 10 := by rw [UInt8.toNat_ofNat']; omega
      have := ih (u / 10) (by omega)
      unfold dval at this ⊢
      rw [List.foldl_append, this]
      simp only [List.foldl_cons, List.foldl_nil, hc]
      omega
theorem dec_inj {u v : Nat} (h : decDigits u = decDigits v) : u = v := by rw [← dval_dec u, h, dval_dec]
theorem dec_digit (u : Nat) : ∀ c ∈ decDigits u, 48 ≤ c.toNat ∧ c.toNat ≤ 57 := by
  induction u using Nat.strongRecOn with
  | _ u ih =>
    rw [decDigits]
    split
    · intro c hc
      obtain rfl : c = UInt8.ofNat (48 + u) := by simpa using hc
      rw [UInt8.toNat_ofNat']; omega
    · intro c hc
      rcases List.mem_append.1 hc with hc | hc
      · exact ih (u / 10) (by omega) c hc
      · obtain rfl : c = UInt8.ofNat (48 + u % 10) := by simpa using hc
        rw [UInt8.toNat_ofNat']; omega
theorem dec_no (u : Nat) (x : UInt8) (hx : x.toNat < 48) : x ∉ decDigits u := fun h => by have := dec_digit u x h; omega
theorem itoa_no (n : Int) : (46 : UInt8) ∉ itoa n := by
  unfold itoa
  split
  · intro h
    rcases List.mem_cons.1 h with h | h
    · exact absurd h (by decide)
    · exact dec_no _ 46 (by decide) h
  · exact dec_no _ 46 (by decide)
theorem dec_ne (u : Nat) : decDigits u ≠ [] := by
  rw [decDigits]; split <;> simp
theorem itoa_inj {n m : Int} (h : itoa n = itoa m) : n = m := by
  unfold itoa at h
  split at h <;> split at h
  · have := dec_inj (List.cons.inj h).2; omega
  · exfalso
    have : (45 : UInt8) ∈ decDigits m.toNat := by rw [← h]; simp
    exact dec_no _ 45 (by decide) this
  · exfalso
    have : (45 : UInt8) ∈ decDigits n.toNat := by rw [h]; simp
    exact dec_no _ 45 (by decide) this
  · have := dec_inj h; omega
theorem cut_inj {α : Type} {x : α} : ∀ {a b c d : List α}, x ∉ a → x ∉ b → a ++ x :: c = b ++ x :: d → a = b ∧ c = d
  | [], [], _, _, _, _, h => ⟨rfl, (List.cons.inj h).2⟩
  | [], y :: b, _, _, _, hb, h => by
    have := (List.cons.inj h).1
    subst this
    exact absurd (List.mem_cons_self) hb
  | y :: a, [], _, _, ha, _, h => by
    have := (List.cons.inj h).1
    subst this
    exact absurd (List.mem_cons_self) ha
  | y :: a, z :: b, c, d, ha, hb, h => by
    obtain ⟨h1, h2⟩ := List.cons.inj h
    obtain ⟨h3, h4⟩ := cut_inj (fun hm => ha (List.mem_cons_of_mem _ hm)) (fun hm => hb (List.mem_cons_of_mem _ hm)) h2
    exact ⟨by rw [h1, h3], h4⟩
/-- NO TWO IDS HAVE ONE TEXT. -/
theorem text_inj {t q t' q' : Nat} {s s' : Int} (h : textOf t s q = textOf t' s' q') : t = t' ∧ s = s' ∧ q = q' := by
  unfold textOf at h
  obtain ⟨h1, h2⟩ := cut_inj (dec_no _ 46 (by decide)) (dec_no _ 46 (by decide)) h
  obtain ⟨h3, h4⟩ := cut_inj (itoa_no _) (itoa_no _) h2
  exact ⟨dec_inj h1, itoa_inj h3, dec_inj h4⟩
/-- what is read of an id's text. -/
theorem read_text (i : Idn) (ht : 0 ≤ i.t) (hq : 0 ≤ i.q) : readB (textOf i.t.toNat i.s i.q.toNat) = if i.ok = true then some i else none := by
  split
  · rename_i h
    exact readB_some.2 ⟨h, rfl⟩
  · rename_i h
    cases hr : readB (textOf i.t.toNat i.s i.q.toNat) with
    | none => rfl
    | some j =>
      exfalso
      obtain ⟨hj, he⟩ := readB_some.1 hr
      obtain ⟨e1, e2, e3⟩ := text_inj he
      have hj2 := (okId_iff _ _ _).1 hj
      apply h
      obtain ⟨t, s, q⟩ := i
      obtain ⟨t', s', q'⟩ := j
      simp only at *
      obtain rfl : t = t' := by omega
      obtain rfl : q = q' := by omega
      subst e2
      exact hj
end Go.Proofs.YtoiaecfiinkmjaaDoor
