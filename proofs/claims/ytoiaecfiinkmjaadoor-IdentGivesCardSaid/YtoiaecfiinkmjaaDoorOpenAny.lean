/- A row of whatever data that came in, opened; a row of strings. -/
import Derived.Test.YtoiaecfiinkmjaaDoorRowD
namespace Go.Proofs.YtoiaecfiinkmjaaDoor
open Go.ChangeShapes Go.WideShapes Go.ChangeAt Go.RowKit Go.Shelf

theorem open_rows {H α : Type} {enc : TypeId × Value → H} {W : World} {base : Nat} {spare : Nat → Bool} {d : DataW H} {p : List MemPlace} {a : Option Addr} {n c : Nat} {T E : TypeId} {k : Nat} [Inhabited α]
    (f : α → List Value) (In : α → Prop) (hT : Tryd.prog.underlying T = some (.slice E)) (hc : Tryd.prog.cellsOf E = k) (hk : ∀ x, (f x).length = k) (h1 : ∀ x, ∃ v, (f x)[0]? = some v)
    (hcell : ∀ {base fuel : Nat} {spare : Nat → Bool} {held : Bool} {cs : List Value} {x : DataW H × List MemPlace}, DataW.trod enc Tryd.prog W base spare held fuel E cs = some x → ∃ i : α, cs = f i ∧ In i)
    (h : DataW.Trod enc Tryd.prog W base spare true T (.slice a n c) d p) : ∃ L, RowS f k W a n L ∧ n ≤ c ∧ ∀ x ∈ L, In x := by
  obtain ⟨fuel, hf⟩ := h
  rcases Go.Deep.open_slice hT hf with ⟨hcs, _⟩ | ⟨A, len, cap, m, n', D, Pl, hcs, hb, hl, hm, hmm, _, hall⟩
  · simp [Value.cells] at hcs
    obtain ⟨rfl, rfl, rfl⟩ := hcs
    exact ⟨[], ⟨rfl, by simp, .inl rfl⟩, Nat.le_refl _, by simp⟩
  · simp [Value.cells] at hcs
    obtain ⟨rfl, rfl, rfl⟩ := hcs
    have hle : n ≤ m := by rw [hmm]; split <;> omega
    rw [hc] at hall
    obtain ⟨F, hF⟩ := Go.Deep.choose_lt (n := n) (p := fun i (x : α) => In x ∧ ∀ j u, (f x)[j]? = some u → W.cell? (A.add (i * k + j)) = some u) (fun i hi => by
      obtain ⟨cs', h1, h2⟩ := hall i (by omega)
      obtain ⟨x, hcsf, hin⟩ := hcell h2
      obtain ⟨_, hlen', hcell⟩ := World.cells?_some h1
      refine ⟨x, hin, fun j u hj => ?_⟩
      have hj3 : j < k := by have := (List.getElem?_eq_some_iff.1 hj).1; rwa [hk] at this
      have := hcell j (by omega)
      rw [hcsf] at this
      rw [← Go.Deep.add_add A (i * k) j, this]
      exact hj)
    refine ⟨(List.range n).map F, ⟨by simp, by simp only [List.length_map, List.length_range]; simp only [maxLen] at hm; omega, ?_⟩, hl, ?_⟩
    · by_cases hn : n = 0
      · subst hn; exact .inl rfl
      · obtain ⟨v0, hv0⟩ := h1 (F 0)
        have h0 := (hF 0 (by omega)).2 0 _ hv0
        obtain ⟨b, off, spot⟩ := A
        have hspot : spot = none := by simpa [Addr.add] using World.cell?_spot h0
        subst hspot
        have hblk := World.block_lt_of_cell? _ _ h0
        refine .inr ⟨b, off, rfl, by simpa [Addr.add] using hblk, fun j x hj i v hi => ?_⟩
        have hjn : j < n := by have := (List.getElem?_eq_some_iff.1 hj).1; simpa using this
        have hx : x = F j := by simp [hjn] at hj; exact hj.symm
        subst hx
        have := (hF j hjn).2 i v hi
        rw [Addr.add_lit, ← Nat.add_assoc] at this
        exact this
    · intro x hx
      obtain ⟨i, hi, rfl⟩ := List.mem_map.1 hx
      exact (hF i (by simpa using hi)).1

def encS (s : ByteArray) : List Value := [.string s]
theorem open_strs {H : Type} {enc : TypeId × Value → H} {W : World} {base : Nat} {spare : Nat → Bool} {d : DataW H} {p : List MemPlace} {a : Option Addr} {n c : Nat}
    (h : DataW.Trod enc Tryd.prog W base spare true 23 (.slice a n c) d p) : ∃ L, RowS encS 1 W a n L ∧ n ≤ c ∧ ∀ x ∈ L, x.size ≤ maxLen :=
  open_rows encS (fun s => s.size ≤ maxLen) Tryd.underlying23 (by kernel_rfl) (fun _ => rfl) (fun _ => ⟨_, rfl⟩) (fun hf => by
    obtain ⟨s, e, h1, h2⟩ := DataW.trod_string Tryd.underlying9 hf
    exact ⟨s, e, by assumption⟩) h
end Go.Proofs.YtoiaecfiinkmjaaDoor
