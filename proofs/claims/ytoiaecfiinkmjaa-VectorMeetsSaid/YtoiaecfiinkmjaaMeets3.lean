/- gessolaw13.VectorMeets returns true, and turns nothing that was there, whatever the vector and the row of vectors: the given statement Rows.VectorMeetsSaid. -/
import Derived.Test.YtoiaecfiinkmjaaMeets2
import Derived.Test.YtoiaecfiinkmjaaRow
import Derived.Deep.Slices
namespace Go.Proofs.Ytoiaecfiinkmjaa
open Go.ChangeShapes Go.WideShapes Go.ChangeAt Go.RowKit Go.Shelf

theorem meets_any (f : Nat → Int) (hpf : posV f) (a : Option Addr) (n c : Nat) (L : List (Nat → Int)) (w : World) (hS : RowS encVec 9 w a n L) (hnc : n ≤ c) :
    Calls Try.prog 5 #[vec f, .slice a n c] w (Ret (.bool true) w) := by
  have hl : (L.take (min n 6)).length ≤ 1000 := by rw [List.length_take]; omega
  cases h : okVecs f (L.take (min n 6)) with
  | true =>
    have hlen : (L.take (min n 6)).length = min n 6 := by rw [List.length_take, ← hS.1]; omega
    obtain ⟨jr, mr, k⟩ := four_ok (m := min n 6) hl h
    exact meets_ok f hpf a n c L _ (min n 6) jr mr w hS hnc rfl rfl k
  | false =>
    obtain ⟨jj, mm, k⟩ := four_bad (m := min n 6) hl h
    exact meets_bad f hpf a n c L _ (min n 6) jj mm w hS hnc rfl rfl k

/-- A ROW OF VECTORS THAT CAME IN. -/
theorem open_vecs {H : Type} {enc : TypeId × Value → H} {W : World} {base : Nat} {spare : Nat → Bool} {d : DataW H} {p : List MemPlace} {a : Option Addr} {n c : Nat}
    (h : DataW.Trod enc Try.prog W base spare true 42 (.slice a n c) d p) : ∃ L, RowS encVec 9 W a n L ∧ n ≤ c := by
  obtain ⟨fuel, hf⟩ := h
  rcases Go.Deep.open_slice Try.underlying42 hf with ⟨hcs, _⟩ | ⟨A, len, cap, m, n', D, Pl, hcs, hb, hl, hm, hmm, _, hall⟩
  · simp [Value.cells] at hcs
    obtain ⟨rfl, rfl, rfl⟩ := hcs
    exact ⟨[], ⟨rfl, by simp, .inl rfl⟩, Nat.le_refl _⟩
  · simp [Value.cells] at hcs
    obtain ⟨rfl, rfl, rfl⟩ := hcs
    have hle : n ≤ m := by rw [hmm]; split <;> omega
    rw [cellsVec] at hall
    obtain ⟨F, hF⟩ := Go.Deep.choose_lt (n := n) (p := fun i (f : Nat → Int) => ∀ j, j < 9 → W.cell? (A.add (i * 9 + j)) = some (.int .u64 (f j))) (fun i hi => by
      obtain ⟨cs', h1, h2⟩ := hall i (by omega)
      obtain ⟨f, hcsf, _⟩ := cells_vec h2
      obtain ⟨_, _, hcell⟩ := World.cells?_some h1
      refine ⟨f, fun j hj => ?_⟩
      have := hcell j hj
      rw [hcsf] at this
      rw [← Go.Deep.add_add A (i * 9) j, this]
      have := vecC_get f hj
      simpa using this)
    refine ⟨(List.range n).map F, ⟨by simp, by simp only [List.length_map, List.length_range]; simp only [maxLen] at hm; omega, ?_⟩, hl⟩
    by_cases hn : n = 0
    · subst hn; exact .inl rfl
    · have h0 := hF 0 (by omega) 0 (by omega)
      obtain ⟨b, off, spot⟩ := A
      have hspot : spot = none := by simpa [Addr.add] using World.cell?_spot h0
      subst hspot
      have hblk := World.block_lt_of_cell? _ _ h0
      refine .inr ⟨b, off, rfl, by simpa [Addr.add] using hblk, fun j x hj i v hi => ?_⟩
      have hjn : j < n := by have := (List.getElem?_eq_some_iff.1 hj).1; simpa using this
      have hx : x = F j := by simp [hjn] at hj; exact hj.symm
      subst hx
      have hi9 : i < 9 := by have := (List.getElem?_eq_some_iff.1 hi).1; simpa [encVec] using this
      rw [encVec_at _ hi9] at hi
      obtain rfl := Option.some.inj hi
      have := hF j hjn i hi9
      rw [Addr.add_lit, ← Nat.add_assoc] at this
      exact this

set_option maxRecDepth 100000 in
theorem meets_lifted (os : Os) (started : os.Started) (H : Type) (enc : TypeId × Value → H) :
    ReturnsInHanded {} Try.checked os 5 .any (Rows.vectorMeetsSpec.pre6 enc Try.prog Try.f5 Rows.vectorMeetsRow.domain false) (Rows.vectorMeetsSpec.post enc Try.prog Try.f5 false true false false) := by
  refine returnsInHanded_of_change (C := Try.checked) row_own started (by kernel_rfl) Try.func5
    (ChangeSpec.witness6 (enc := enc) (C := Try.checked) false ⟨#[], #[vec fun _ => 0, .slice none 0 0], []⟩ 24 (by kernel_rfl) (by kernel_rfl) (by kernel_rfl) (by kernel_rfl)) ?_
  intro W base args ds gs before hval0 hW hcnd _
  have hval : ∀ (j : Nat) t v, Try.f5.params[j]? = some t → args[j]? = some v → Value.okWide Try.prog W .any base t v := hval0
  have hW' := hW
  obtain ⟨p, q, hA0, hV, rfl, hfz, hnd⟩ := hW
  have hA : DataW.TrodAll enc Try.prog W 0 (fun _ => true) true Try.f5.params.toList args.toList ds p := hA0
  rw [Try.params5] at hA hval
  obtain ⟨v0, vs0, d0, ds0, p0, q0, hargs, rfl, rfl, h0, r0⟩ := trodAll_cons hA
  obtain ⟨v1, vs1, d1, ds1, p1, q1, rfl, rfl, rfl, h1, r1⟩ := trodAll_cons r0
  obtain ⟨rfl, rfl, rfl⟩ := trodAll_nil r1
  obtain rfl : args = #[v0, v1] := by cases args; simp_all
  obtain ⟨rfl, rfl⟩ := trodVars_none hV
  have lt0 : ∀ x ∈ p0, x.block < W.heap.size := by obtain ⟨m, hm⟩ := h0; exact DataW.trod_lt m _ _ _ hm
  have lt1 : ∀ x ∈ p1, x.block < W.heap.size := by obtain ⟨m, hm⟩ := h1; exact DataW.trod_lt m _ _ _ hm
  obtain ⟨f0, rfl, hp0⟩ := open_vec (hval 0 24 v0 rfl rfl) h0
  obtain ⟨a1, n1, c1, rfl⟩ := okWide_slice Try.underlying42 (hval 1 42 v1 rfl rfl)
  obtain ⟨L, hS, hnc⟩ := open_vecs h1
  clear hA0 hval0
  refine (meets_any f0 hp0 a1 n1 c1 L W hS hnc).mono fun e W' ⟨he, bel⟩ => ?_
  subst he
  exact ⟨_, rfl, _, _, _, [], _, [], hW', trodAll_mk1 (shut_bool Try.underlying4 _), (trodAll_cons_mk (Below.trod row_laidOut (by kernel_rfl) (of_decide_eq_true (by kernel_rfl)) h0 bel lt0) (trodAll_cons_mk (Below.trod row_laidOut (by kernel_rfl) (of_decide_eq_true (by kernel_rfl)) h1 bel lt1) trodAll_mk0)), rfl, bel.frame _, fun h => by cases h⟩

theorem meets_over : Rows.vectorMeetsRow.holds Try.pinned (OpenSpec.ofChange Rows.vectorMeetsSpec) :=
  OpenClaim.holds_of_wide 5 Try.f5 rfl rfl rfl rfl rfl rfl rfl ⟨rfl, rfl, rfl, rfl, rfl⟩ rfl rfl rfl rfl rfl (by kernel_rfl) Try.func5 (by kernel_rfl)
    (of_decide_eq_true (by kernel_rfl)) (by unfold Func.isWrapper; first | (rw [if_pos (by decide +kernel)]; kernel_rfl) | (rw [if_neg (by decide +kernel)]; exact ⟨rfl, rfl⟩))
    (fun os started H enc _ => meets_lifted os started H enc)

/-- THE STATEMENT. -/
theorem meets_proved : Rows.VectorMeetsSaid := meets_over
#print axioms meets_proved
end Go.Proofs.Ytoiaecfiinkmjaa
