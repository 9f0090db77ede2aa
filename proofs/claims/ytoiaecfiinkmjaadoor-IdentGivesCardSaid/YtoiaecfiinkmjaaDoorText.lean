/- A region that draws its order, where a store may be done ahead of a part of a tuple that is still to be taken: it suffices to look at the orders in which that is not so. -/
import Derived.Test.YtoiaecfiinkmjaaDoorHeld
namespace Go.Proofs.YtoiaecfiinkmjaaDoor
open Go.RowKit

section
variable {P : Program} {ops : Array Oper}

/-- what one part of a tuple comes to does not hang on the world. -/
theorem extract_any {o : Oper} {x : Operand} {ix : Nat} (ho : o.op = .extract x ix) (r : Operand → Value) :
    (∃ v, ∀ w, (execOp r o).run P w = .ok (.value v) w) ∨ (∃ t, ∀ w, (execOp r o).run P w = .halt (.stuck t) w) := by
  unfold execOp
  simp only [ho]
  unfold Instr.extract
  cases r x
  case tuple vs =>
    cases h : vs[ix]? with
    | some u => exact .inl ⟨u, fun w => by simp [h]⟩
    | none => exact .inr ⟨"Extract: no such component", fun w => by simp [h, stuck]⟩
  all_goals exact .inr ⟨"Extract: tuple expected", fun w => rfl⟩

/-- does an edge bind in the order of the text alone? -/
def textB (e : Edge) : Bool := match e.ground with | .textOnly _ => true | _ => false
def isExtract (o : Oper) : Bool := match o.op with | .extract _ _ => true | _ => false
def lateOp (ops : Array Oper) (i : Nat) : Bool := match ops[i]? with
  | none => false
  | some oi => isExtract oi && oi.guard.isNone && (oi.after.all fun e => !textB e) &&
      ((List.range ops.size).all fun k => k == i || Region.waitsFor .any ops k i || Region.waitsFor .any ops i k || (match ops[k]? with | some ok => oi.apart ops ok | none => true))
/-- of each edge that binds in the order of the text alone: what is waited for takes a part of a tuple, and whatever that waits for the other one waits for. -/
def lateB (ops : Array Oper) : Bool := (List.range ops.size).all fun j => match ops[j]? with
  | none => true
  | some oj => oj.after.all fun e => !textB e || (lateOp ops e.on && (match ops[e.on]? with
      | none => false
      | some oi => oi.after.all fun e' => !Region.binds .any e' || oj.after.any fun e2 => Region.binds .any e2 && e2.on == e'.on))

theorem binds_text {e : Edge} : Region.binds .text e = (Region.binds .any e || textB e) := by
  unfold Region.binds textB
  cases e.ground <;> rfl

theorem lateOp_spec {i : Nat} (h : lateOp ops i = true) : ∃ oi x ix, ops[i]? = some oi ∧ oi.op = .extract x ix ∧ oi.guard = none ∧ (∀ e ∈ oi.after, textB e = false) ∧
    ∀ k ok, ops[k]? = some ok → k ≠ i → Region.waitsFor .any ops k i = false → Region.waitsFor .any ops i k = false → oi.apart ops ok = true := by
  unfold lateOp at h
  cases hi : ops[i]? with
  | none => rw [hi] at h; cases h
  | some oi =>
    rw [hi] at h
    simp only [Bool.and_eq_true, Option.isNone_iff_eq_none, List.all_eq_true, List.mem_range, Array.all_eq_true_iff_forall_mem, Bool.not_eq_true'] at h
    obtain ⟨⟨⟨h1, h2⟩, h3⟩, h4⟩ := h
    unfold isExtract at h1
    split at h1
    · rename_i x ix hx
      refine ⟨oi, x, ix, rfl, hx, h2, h3, fun k ok hk hne hw1 hw2 => ?_⟩
      have := h4 k (Array.getElem?_eq_some_iff.1 hk).1
      simpa [hne, hw1, hw2, hk] using this
    · cases h1

theorem lateB_spec (hB : lateB ops = true) {j : Nat} {oj : Oper} {e : Edge} (hj : ops[j]? = some oj) (he : e ∈ oj.after) (ht : textB e = true) :
    lateOp ops e.on = true ∧ ∀ oi, ops[e.on]? = some oi → ∀ e' ∈ oi.after, Region.binds .any e' = true → ∃ e2 ∈ oj.after, Region.binds .any e2 = true ∧ e2.on = e'.on := by
  unfold lateB at hB
  have h1 := List.all_eq_true.1 hB j (List.mem_range.2 (Array.getElem?_eq_some_iff.1 hj).1)
  rw [hj] at h1
  have h2 := Array.all_eq_true_iff_forall_mem.1 h1 e he
  simp only [ht, Bool.not_true, Bool.false_or, Bool.and_eq_true] at h2
  refine ⟨h2.1, fun oi hoi e' he' hb => ?_⟩
  have h3 := h2.2
  rw [hoi] at h3
  have h4 := Array.all_eq_true_iff_forall_mem.1 h3 e' he'
  simp only [hb, Bool.not_true, Bool.false_or] at h4
  obtain ⟨e2, h5, h6⟩ := Array.any_eq_true'.1 h4
  simp only [Bool.and_eq_true, beq_iff_eq] at h6
  exact ⟨e2, h5, h6.1, h6.2⟩

theorem ready_text_any {listed : Array Bool} {j : Nat} (h : j ∈ Region.ready .text ops listed) : j ∈ Region.ready .any ops listed := by
  obtain ⟨h0, o, ho, hall⟩ := mem_ready.1 h
  exact mem_ready.2 ⟨h0, o, ho, fun e he hb => hall e he (by rw [binds_text, hb]; rfl)⟩

theorem ready_cases (hB : lateB ops = true) {listed : Array Bool} (hsz : listed.size = ops.size) {j : Nat} (h : j ∈ Region.ready .any ops listed) :
    j ∈ Region.ready .text ops listed ∨ ∃ i, lateOp ops i = true ∧ i ∈ Region.ready .text ops listed := by
  obtain ⟨h0, o, ho, hall⟩ := mem_ready.1 h
  by_cases hx : ∃ e ∈ o.after, textB e = true ∧ listed.getD e.on false = false
  · obtain ⟨e, he, ht, hl⟩ := hx
    obtain ⟨h1, h2⟩ := lateB_spec hB ho he ht
    obtain ⟨oi, x, ix, hoi, _, _, h3, _⟩ := lateOp_spec h1
    have hlt : e.on < listed.size := by rw [hsz]; exact (Array.getElem?_eq_some_iff.1 hoi).1
    refine .inr ⟨e.on, h1, mem_ready.2 ⟨getD_in hlt hl, oi, hoi, fun e' he' hb => ?_⟩⟩
    rw [binds_text, h3 e' he', Bool.or_false] at hb
    obtain ⟨e2, h4, h5, h6⟩ := h2 oi hoi e' he' hb
    rw [← h6]
    exact hall e2 h4 h5
  · refine .inl (mem_ready.2 ⟨h0, o, ho, fun e he hb => ?_⟩)
    rw [binds_text, Bool.or_eq_true] at hb
    rcases hb with hb | hb
    · exact hall e he hb
    · cases hl : listed.getD e.on false with
      | true => rfl
      | false => exact absurd ⟨e, he, hb, hl⟩ hx

/-- **THE LAW**: the orders in which each part of a tuple is taken ahead of the stores that stand behind it in the text suffice. -/
theorem wpAny_of_text {Q : Exit → Act → World → Prop} (hs : Region.noSelect ops = true) (hB : lateB ops = true) (hQ : ∀ c a d v w, Q (.panic c) (a.put d v) w → Q (.panic c) a w) (hLo : ¬ LetsOut Q) :
    ∀ (f : Nat) (listed : Array Bool) (a : Act) (w : World), listed.size = ops.size → wpAny P .text ops Q f listed a w → wpAny P .any ops Q f listed a w
  | 0, listed, a, w, hsz, h => by
    refine ⟨List.eq_nil_iff_forall_not_mem.2 fun j hj => ?_, h.2⟩
    rcases ready_cases hB hsz hj with h1 | ⟨i, _, h1⟩ <;> (rw [h.1] at h1; cases h1)
  | f + 1, listed, a, w, hsz, h => by
    by_cases hx : ∃ i, lateOp ops i = true ∧ i ∈ Region.ready .text ops listed
    · obtain ⟨i, h1, h2⟩ := hx
      obtain ⟨oi, x, ix, hoi, hop, hg, h3, h4⟩ := lateOp_spec h1
      have h5 := h.2 i h2
      unfold wpOp at h5
      have hw : Region.wanted oi (yielded ops a.tmps) = true := by simp [Region.wanted, hg]
      simp only [hoi, hw, if_true] at h5
      rcases h5 with h5 | ⟨_, h5⟩
      case inr => exact absurd h5 hLo
      rcases extract_any (P := P) hop a.eval with ⟨v, hv⟩ | ⟨t, ht⟩
      case inr => unfold Oper.wp at h5; rw [ht w] at h5; exact h5.elim
      have h6 : wpAny P .text ops Q f (listed.setIfInBounds i true) (a.put oi.dst v) w := by unfold Oper.wp at h5; rw [hv w] at h5; exact h5
      have h7 := wpAny_of_text hs hB hQ hLo f _ _ w (by simp [hsz]) h6
      have hr := ready_text_any h2
      refine wpAny_first hoi (Region.noSelect_spec hs) (fun c a w => hQ c a oi.dst v w) f listed a w (fun j oj hj hne hun hno => ?_) hr (.inl ⟨hw, hv⟩) h7
      refine h4 j oj hj hne ?_ ?_
      · cases hw1 : Region.waitsFor .any ops j i with
        | false => rfl
        | true =>
          obtain ⟨oj', hj', e, he, hb, hon⟩ := Region.waitsFor_spec hw1
          obtain rfl : oj' = oj := Option.some.inj (hj'.symm.trans hj)
          exact absurd hon (hno e he hb)
      · cases hw1 : Region.waitsFor .any ops i j with
        | false => rfl
        | true =>
          obtain ⟨oi', hi', e, he, hb, hon⟩ := Region.waitsFor_spec hw1
          obtain ⟨_, o', ho', hall⟩ := mem_ready.1 hr
          obtain rfl : o' = oi' := Option.some.inj (ho'.symm.trans hi')
          have := hall e he hb
          rw [hon, getD_both hun] at this
          cases this
    · have hsub : ∀ j, j ∈ Region.ready .any ops listed → j ∈ Region.ready .text ops listed := fun j hj => (ready_cases hB hsz hj).resolve_right hx
      refine ⟨fun h0 => h.1 (List.eq_nil_iff_forall_not_mem.2 fun j hj => by have := ready_text_any hj; rw [h0] at this; cases this), fun i hi => ?_⟩
      exact wpOp_mono (fun a' w' h' => wpAny_of_text hs hB hQ hLo f _ a' w' (by simp [hsz]) h') (h.2 i (hsub i hi))

theorem wp_region_text_rel {id : Nat} {Q : Exit → Act → World → Prop} {a : Act} {w : World} {l : List Oper} (n : Nat) (S : World → Prop) (F : Nat → Value → World → Prop)
    (hm : P.follows .mixedOrders = true) (hB : Region.lexTailB .text l.toArray n = true) (hlate : lateB l.toArray = true) (hdis : distinctB l.toArray = true) (hroom : roomyB l.toArray a.tmps.size = true)
    (hQ : ∀ c a d v w, Q (.panic c) (a.put d v) w → Q (.panic c) a w) (hLo : ¬ LetsOut Q)
    (stab : ∀ k v w w', Below w.heap.size w w' → F k v w → F k v w') (hS : S w.drew)
    (h : relSeq P l.toArray .text S F (fun a' => ∀ listed w', S w' → FactsL l.toArray F listed a' w' → (∀ k, k < n → listed.getD k false = true) → wpList P l.toArray Q (l.drop n) a' w') 0 (l.take n) a) : (Code.region id l.toArray true).wp P Q a w := by
  have hsel : Region.noSelect l.toArray = true := by
    simp only [Region.lexTailB, Bool.and_eq_true] at hB
    exact hB.1.1.1.1
  exact wp_region_any hm (wpAny_of_text hsel hlate hQ hLo _ _ _ _ (by simp) (wpAny_held_relM .text n S F hB hdis hroom stab hS h))
end
end Go.Proofs.YtoiaecfiinkmjaaDoor
