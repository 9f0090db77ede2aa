/- What ident.Read makes of a text: numbers parted by points; and that an id's own text gives the id. -/
import Derived.Test.YtoiaecfiinkmjaaDoorTextId
namespace Go.Proofs.YtoiaecfiinkmjaaDoor
open Go.Lib

/-- a state of the reading: which number is at hand, and the numbers. -/
structure PSt where
  at_ : Nat
  n : Nat → Nat
def PSt.bump (st : PSt) (d : Nat) : PSt := ⟨st.at_, fun k => if k = st.at_ then 10 * st.n st.at_ + d else st.n k⟩
/-- one letter. -/
def pstep (st : PSt) (c : UInt8) : Option PSt :=
  if c.toNat = 46 ∧ st.at_ < 2 then some ⟨st.at_ + 1, st.n⟩
  else if 48 ≤ c.toNat ∧ c.toNat ≤ 57 ∧ st.n st.at_ ≤ 1844674407370955160 then some (st.bump (c.toNat - 48))
  else none
def pfold (st : PSt) : List UInt8 → Option PSt
  | [] => some st
  | c :: l => (pstep st c).bind fun st' => pfold st' l
def parse (l : List UInt8) : Option PSt := pfold ⟨0, fun _ => 0⟩ l
theorem pfold_append (st : PSt) : ∀ a b : List UInt8, pfold st (a ++ b) = (pfold st a).bind fun st' => pfold st' b := by
  intro a
  induction a generalizing st with
  | nil => intro b; rfl
  | cons c a ih =>
    intro b
    simp only [List.cons_append, pfold]
    cases pstep st c with
    | none => rfl
    | some st' => exact ih st' b
theorem pfold_snoc (st : PSt) (l : List UInt8) (c : UInt8) : pfold st (l ++ [c]) = (pfold st l).bind fun st' => pstep st' c := by
  rw [pfold_append]
  congr 1
  funext st'
  simp [pfold]
/-- where a head comes to nothing, the whole does. -/
theorem parse_none {a b : List UInt8} (h : parse a = none) : parse (a ++ b) = none := by
  unfold parse at *
  rw [pfold_append, h]; rfl

/-- what can be said of a state. -/
def PSt.good (st : PSt) : Prop := st.at_ ≤ 2 ∧ ∀ k, st.n k < 18446744073709551616
theorem pstep_good {st st' : PSt} {c : UInt8} (h : st.good) (hs : pstep st c = some st') : st'.good := by
  unfold pstep at hs
  split at hs
  · rename_i hc
    cases hs
    exact ⟨by have := hc.2; simp; omega, h.2⟩
  · split at hs
    · rename_i hc
      cases hs
      refine ⟨h.1, fun k => ?_⟩
      simp only [PSt.bump]
      split
      · omega
      · exact h.2 k
    · cases hs
theorem good0 : (⟨0, fun _ => 0⟩ : PSt).good := ⟨by simp, fun _ => by simp⟩

/-- the number at hand takes a row of digits. -/
theorem pfold_digits : ∀ (u : Nat), u < 4611686018427387905 → ∀ (st : PSt), st.n st.at_ = 0 → pfold st (decDigits u) = some ⟨st.at_, fun k => if k = st.at_ then u else st.n k⟩ := by
  intro u
  induction u using Nat.strongRecOn with
  | _ u ih =>
    intro hu st h0
    rw [decDigits]
    split
    · rename_i hlt
      have hc : (UInt8.ofNat (48 + u)).toNat = 48 + u := by rw [UInt8.toNat_ofNat']; omega
      simp only [pfold, pstep, hc]
      rw [if_neg (by omega), if_pos ⟨by omega, by omega, by omega⟩]
      simp only [Option.bind_some, PSt.bump, h0, Option.some.injEq, PSt.mk.injEq, true_and]
      funext k
      split <;> omega
    · rename_i hge
      have hc : (UInt8.ofNat (48 + u % 10)).toNat = 48 + u % 10 := by rw [UInt8.toNat_ofNat']; omega
      rw [pfold_snoc, ih (u / 10) (by omega) (by omega) st h0]
      simp only [Option.bind_some, pstep, hc]
      rw [if_neg (by omega), if_pos ⟨by omega, by omega, by simp; omega⟩]
      simp only [PSt.bump, Option.some.injEq, PSt.mk.injEq, true_and]
      funext k
      split
      · simp; omega
      · rfl
theorem pfold_point {st : PSt} (h : st.at_ < 2) (l : List UInt8) : pfold st (46 :: l) = pfold ⟨st.at_ + 1, st.n⟩ l := by
  simp only [pfold, pstep]
  rw [if_pos ⟨by decide, h⟩]
  rfl
/-- AN ID's OWN TEXT GIVES ITS NUMBERS. -/
theorem parse_text (t s q : Nat) (ht : t < 4611686018427387905) (hs : s < 4611686018427387905) (hq : q < 4611686018427387905) : ∃ st, parse (textOf t s q) = some st ∧ st.n 0 = t ∧ st.n 1 = s ∧ st.n 2 = q := by
  unfold parse textOf
  rw [itoa_nonneg, pfold_append, pfold_digits t ht _ rfl]
  simp only [Option.bind_some]
  rw [pfold_point (by simp), pfold_append, pfold_digits s hs _ (by simp)]
  simp only [Option.bind_some]
  rw [pfold_point (by simp), pfold_digits q hq _ (by simp)]
  exact ⟨_, rfl, by simp, by simp, by simp⟩

/-- what ident.Read answers. -/
def readB (l : List UInt8) : Option Idn := match parse l with
  | none => none
  | some st => if 8 < st.n 1 then none else if okId (st.n 0) (st.n 1) (st.n 2) = true ∧ textOf (st.n 0) (st.n 1) (st.n 2) = l then some ⟨st.n 0, st.n 1, st.n 2⟩ else none
theorem okId_nat {t s q : Int} (h : okId t s q = true) : ∃ a b c : Nat, t = a ∧ s = b ∧ q = c ∧ a < 4611686018427387905 ∧ b ≤ 8 ∧ 1 ≤ b ∧ c < 4611686018427387905 := by
  have h := (okId_iff t s q).1 h
  unfold maxT at h
  exact ⟨t.toNat, s.toNat, q.toNat, by omega, by omega, by omega, by omega, by omega, by omega, by omega⟩
/-- it is the id whose text it is. -/
theorem readB_some {l : List UInt8} {i : Idn} : readB l = some i ↔ i.ok = true ∧ l = textOf i.t.toNat i.s i.q.toNat := by
  constructor
  · intro h
    unfold readB at h
    split at h
    · cases h
    · split at h
      · cases h
      · split at h
        · rename_i hc
          cases h
          exact ⟨hc.1, by simpa using hc.2.symm⟩
        · cases h
  · rintro ⟨h1, rfl⟩
    obtain ⟨t, s, q⟩ := i
    obtain ⟨a, b, c, rfl, rfl, rfl, ha, hb, hb1, hc⟩ := okId_nat h1
    obtain ⟨st, hp, e0, e1, e2⟩ := parse_text a b c ha (by omega) hc
    unfold readB
    simp only [Int.toNat_natCast] at *
    rw [hp]
    simp only [e0, e1, e2]
    rw [if_neg (by omega), if_pos ⟨h1, trivial⟩]
end Go.Proofs.YtoiaecfiinkmjaaDoor
