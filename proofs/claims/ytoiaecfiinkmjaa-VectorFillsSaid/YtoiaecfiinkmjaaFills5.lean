/- gessolaw13.VectorFills returns true, and turns nothing that was there, whatever the two vectors: the given statement Rows.VectorFillsSaid. -/
import Derived.Test.YtoiaecfiinkmjaaFills4
import Derived.Test.YtoiaecfiinkmjaaRow
namespace Go.Proofs.Ytoiaecfiinkmjaa
open Go.ChangeShapes Go.WideShapes Go.ChangeAt Go.RowKit Go.Shelf

theorem fills_any (f g : Nat → Int) (hpf : posV f) (hpg : posV g) (w : World) : Calls Try.prog 4 #[vec f, vec g] w (Ret (.bool true) w) := by
  by_cases h : okVec f = true ∧ okVec g = true
  · have k := calls5 h.1 h.2 hpf
    have hgood := lackR_good (f := f) (g := g) hpf
    by_cases hm : 60 < manyOf (lackR f g)
    · exact fills_big f g _ _ _ w k (len_zero _) (many_zero hgood) hm
    · refine fills_small f g hpf hpg h.1 h.2 _ rfl _ _ w k (len_zero _) (many_zero hgood) hm ?_
      have := manyOf_sum hgood
      unfold maxT at this
      omega
  · exact fills_bad f g hpf w h

set_option maxRecDepth 100000 in
theorem fills_lifted (os : Os) (started : os.Started) (H : Type) (enc : TypeId × Value → H) :
    ReturnsInHanded {} Try.checked os 4 .any (Rows.vectorFillsSpec.pre6 enc Try.prog Try.f4 Rows.vectorFillsRow.domain false) (Rows.vectorFillsSpec.post enc Try.prog Try.f4 false true false false) := by
  refine returnsInHanded_of_change (C := Try.checked) row_own started (by kernel_rfl) Try.func4
    (ChangeSpec.witness6 (enc := enc) (C := Try.checked) false ⟨#[], #[vec fun _ => 0, vec fun _ => 0], []⟩ 24 (by kernel_rfl) (by kernel_rfl) (by kernel_rfl) (by kernel_rfl)) ?_
  intro W base args ds gs before hval0 hW hcnd _
  have hval : ∀ (j : Nat) t v, Try.f4.params[j]? = some t → args[j]? = some v → Value.okWide Try.prog W .any base t v := hval0
  have hW' := hW
  obtain ⟨p, q, hA0, hV, rfl, hfz, hnd⟩ := hW
  have hA : DataW.TrodAll enc Try.prog W 0 (fun _ => true) true Try.f4.params.toList args.toList ds p := hA0
  rw [Try.params4] at hA hval
  obtain ⟨v0, vs0, d0, ds0, p0, q0, hargs, rfl, rfl, h0, r0⟩ := trodAll_cons hA
  obtain ⟨v1, vs1, d1, ds1, p1, q1, rfl, rfl, rfl, h1, r1⟩ := trodAll_cons r0
  obtain ⟨rfl, rfl, rfl⟩ := trodAll_nil r1
  obtain rfl : args = #[v0, v1] := by cases args; simp_all
  obtain ⟨rfl, rfl⟩ := trodVars_none hV
  have lt0 : ∀ x ∈ p0, x.block < W.heap.size := by obtain ⟨m, hm⟩ := h0; exact DataW.trod_lt m _ _ _ hm
  have lt1 : ∀ x ∈ p1, x.block < W.heap.size := by obtain ⟨m, hm⟩ := h1; exact DataW.trod_lt m _ _ _ hm
  obtain ⟨f0, rfl, hp0⟩ := open_vec (hval 0 24 v0 rfl rfl) h0
  obtain ⟨f1, rfl, hp1⟩ := open_vec (hval 1 24 v1 rfl rfl) h1
  clear hA0 hval0
  refine (fills_any f0 f1 hp0 hp1 W).mono fun e W' ⟨he, bel⟩ => ?_
  subst he
  exact ⟨_, rfl, _, _, _, [], _, [], hW', trodAll_mk1 (shut_bool Try.underlying4 _), (trodAll_cons_mk (Below.trod row_laidOut (by kernel_rfl) (of_decide_eq_true (by kernel_rfl)) h0 bel lt0) (trodAll_cons_mk (Below.trod row_laidOut (by kernel_rfl) (of_decide_eq_true (by kernel_rfl)) h1 bel lt1) trodAll_mk0)), rfl, bel.frame _, fun h => by cases h⟩

theorem fills_over : Rows.vectorFillsRow.holds Try.pinned (OpenSpec.ofChange Rows.vectorFillsSpec) :=
  OpenClaim.holds_of_wide 4 Try.f4 rfl rfl rfl rfl rfl rfl rfl ⟨rfl, rfl, rfl, rfl, rfl⟩ rfl rfl rfl rfl rfl (by kernel_rfl) Try.func4 (by kernel_rfl)
    (of_decide_eq_true (by kernel_rfl)) (by unfold Func.isWrapper; first | (rw [if_pos (by decide +kernel)]; kernel_rfl) | (rw [if_neg (by decide +kernel)]; exact ⟨rfl, rfl⟩))
    (fun os started H enc _ => fills_lifted os started H enc)

/-- THE STATEMENT. -/
theorem fills_proved : Rows.VectorFillsSaid := fills_over
#print axioms fills_proved
end Go.Proofs.Ytoiaecfiinkmjaa
