/- A region that draws its order, whose operations may write into memory that the region itself made: what is known of a value need only outlast those operations that do not wait, at however many removes, for ... it: 'late j k' says that k waits for j, at whatever remove; R j w w' is what operation j does to the world. -/
import Derived.Test.YtoiaecfiinkmjaaDoorHeld
namespace Go.Proofs.YtoiaecfiinkmjaaDoor.Rely
open Go.RowKit

section
variable {P : Program} {ops : Array Oper} {md : Region.Mode} {S : World → Prop} {F : Nat → Value → World → Prop} {R : Nat → World → World → Prop} {late : Nat → Nat → Bool}

/-- late is as its name says. -/
def lateOk (md : Region.Mode) (ops : Array Oper) (late : Nat → Nat → Bool) : Bool := (List.range ops.size).all fun k => match ops[k]? with
  | none => true
  | some ok => (List.range ops.size).all fun j => !late j k || ok.after.any fun e => Region.binds md e && decide (e.on < k) && (e.on == j || late j e.on)
theorem late_spec (hB : lateOk md ops late = true) {n : Nat} {listed : Array Bool} (inv : HeadInv md ops n listed) {j : Nat} (hj : j < ops.size) (hun : listed.getD j false = false) :
    ∀ (d k : Nat), k < d → (∃ o, ops[k]? = some o) → listed.getD k false = true → late j k = false := by
  intro d
  induction d with
  | zero => intro k hk; omega
  | succ d ih =>
    intro k hk ⟨o, ho⟩ hl
    cases hlate : late j k with
    | false => rfl
    | true =>
      exfalso
      have h1 := List.all_eq_true.1 hB k (List.mem_range.2 (Array.getElem?_eq_some_iff.1 ho).1)
      rw [ho] at h1
      have h2 := List.all_eq_true.1 h1 j (List.mem_range.2 hj)
      rw [hlate, Bool.not_true, Bool.false_or] at h2
      obtain ⟨e, he, hb⟩ := Array.any_eq_true'.1 h2
      simp only [Bool.and_eq_true, decide_eq_true_eq, Bool.or_eq_true, beq_iff_eq] at hb
      have hle := inv.closed k o ho hl e he hb.1.1
      rcases hb.2 with h3 | h3
      · rw [h3, hun] at hle; cases hle
      · have hs : e.on < listed.size := by
          rcases Nat.lt_or_ge e.on listed.size with h | h
          · exact h
          · simp [Array.getElem?_eq_none h] at hle
        rw [inv.size] at hs
        have := ih e.on (by omega) ⟨_, Array.getElem?_eq_getElem hs⟩ hle
        rw [this] at h3; cases h3
/-- what outlasts what. -/
def Outlasts (F : Nat → Value → World → Prop) (R : Nat → World → World → Prop) (late : Nat → Nat → Bool) : Prop := ∀ j k v w w', late j k = false → k ≠ j → R j w w' → F k v w → F k v w'

/-- the operation j, at a: in every world of S where what is known of those that it waits for holds. -/
def HeldAt (P : Program) (ops : Array Oper) (md : Region.Mode) (S : World → Prop) (F : Nat → Value → World → Prop) (R : Nat → World → World → Prop) (j : Nat) (o : Oper) (a : Act) : Prop :=
  (Region.wanted o (yielded ops a.tmps) = true ∧ ∀ w, S w → FactsD ops md F o a w → heldUpon P (fun v w' => F j v w' ∧ S w' ∧ R j w w') ((execOp a.eval o).run P w)) ∨
  (Region.wanted o (yielded ops a.tmps) = false ∧ ∀ w, S w → F j undef w)

theorem HeldAt.of_same {j : Nat} {o : Oper} {a a' : Act} (h : HeldAt P ops md S F R j o a) (he : execOp a'.eval o = execOp a.eval o)
    (hw : Region.wanted o (yielded ops a'.tmps) = Region.wanted o (yielded ops a.tmps)) (hd : ∀ w, FactsD ops md F o a' w → FactsD ops md F o a w) : HeldAt P ops md S F R j o a' := by
  rcases h with ⟨h1, h2⟩ | ⟨h1, h2⟩
  · exact .inl ⟨hw.trans h1, fun w hs hf => by rw [he]; exact h2 w hs (hd w hf)⟩
  · exact .inr ⟨hw.trans h1, h2⟩

/-- what is known of the operations that have come up, those that yield nothing with them. -/
def FactsA (ops : Array Oper) (F : Nat → Value → World → Prop) (listed : Array Bool) (a : Act) (w : World) : Prop :=
  FactsL ops F listed a w ∧ ∀ i o, ops[i]? = some o → o.dst = none → listed.getD i false = true → F i undef w
theorem FactsA.drop (hdis : distinctB ops = true) {listed : Array Bool} {a : Act} {w : World} {j : Nat} {oj : Oper} {v : Value} (hj : ops[j]? = some oj) (hun : listed.getD j false = false)
    (h : FactsA ops F (listed.setIfInBounds j true) (a.put oj.dst v) w) : FactsA ops F listed a w :=
  ⟨h.1.drop hdis hj hun, fun i o hi hd hl => h.2 i o hi hd (getD_set_true hl)⟩
/-- of the operations that yield nothing, F speaks of the world alone. -/
def noDstB (ops : Array Oper) (nd : List Nat) : Bool := (List.range ops.size).all fun j => match ops[j]? with
  | some o => o.dst.isSome || nd.contains j
  | none => true
theorem noDst_spec {nd : List Nat} (hB : noDstB ops nd = true) {j : Nat} {o : Oper} (hj : ops[j]? = some o) (hd : o.dst = none) : j ∈ nd := by
  have h1 := List.all_eq_true.1 hB j (List.mem_range.2 (Array.getElem?_eq_some_iff.1 hj).1)
  rw [hj] at h1
  simpa [hd] using h1
/-- Facts behind one operation more. -/
theorem factsL_put (hdis : distinctB ops = true) (hlate : lateOk md ops late = true) {n : Nat} {listed : Array Bool} (inv : HeadInv md ops n listed) {a : Act} {w w' : World} {j : Nat} {oj : Oper} {v : Value} (hj : ops[j]? = some oj) (hun : listed.getD j false = false)
    (stab : Outlasts F R late) (hsz : ∀ d, oj.dst = some d → d < a.tmps.size)
    (h : FactsA ops F listed a w) (hb : R j w w' ∨ w' = w) (hF : F j v w') (hnone : oj.dst = none → F j v w' → F j undef w') : FactsA ops F (listed.setIfInBounds j true) (a.put oj.dst v) w' := by
  have keep : ∀ i o u, ops[i]? = some o → i ≠ j → listed.getD i false = true → F i u w → F i u w' := by
    intro i o u hi hij hl hf
    rcases hb with hb | rfl
    · exact stab _ _ _ _ _ (late_spec hlate inv (Array.getElem?_eq_some_iff.1 hj).1 hun (i + 1) i (by omega) ⟨o, hi⟩ hl) hij hb hf
    · exact hf
  refine ⟨?_, ?_⟩
  · intro i o d hi hd hl
    by_cases hij : i = j
    · subst hij
      have : o = oj := Option.some.inj (hi.symm.trans hj)
      subst this
      rw [hd, put_getD_same (hsz d hd)]
      exact hF
    · rw [put_getD_ne (fun e => hij (distinct_spec hdis hi hj hd e))]
      rw [getD_set_ne false (Ne.symm hij)] at hl
      exact keep i o _ hi hij hl (h.1 i o d hi hd hl)
  · intro i o hi hd hl
    by_cases hij : i = j
    · subst hij
      have : o = oj := Option.some.inj (hi.symm.trans hj)
      subst this
      exact hnone hd hF
    · rw [getD_set_ne false (Ne.symm hij)] at hl
      exact keep i o _ hi hij hl (h.2 i o hi hd hl)

/-- whatever order is drawn, in every world of S. -/
def wpAnyV (P : Program) (md : Region.Mode) (ops : Array Oper) (S : World → Prop) (F : Nat → Value → World → Prop) (R : Nat → World → World → Prop) (n : Nat) (L : Array Bool → Act → Prop) : Nat → Array Bool → Act → Prop
  | 0, listed, a => L listed a
  | f + 1, listed, a =>
    Region.ready md ops listed ≠ [] ∧ ∀ j ∈ Region.ready md ops listed, j < n ∧ ∀ oj, ops[j]? = some oj → HeldAt P ops md S F R j oj a ∧
      ∀ v, Poss P ops md S F oj a v → (∃ w, S w ∧ FactsA ops F (listed.setIfInBounds j true) (a.put oj.dst v) w) → wpAnyV P md ops S F R n L f (listed.setIfInBounds j true) (a.put oj.dst v)

theorem heldAt_some {j n : Nat} {oj : Oper} {a : Act} {listed : Array Bool} (hdis : distinctB ops = true) (hlate : lateOk md ops late = true) {nd : List Nat} (hnd : noDstB ops nd = true) (hno : ∀ j ∈ nd, ∀ v w, F j v w → F j undef w) (stab : Outlasts F R late) (inv : HeadInv md ops n listed)
    (hj : ops[j]? = some oj) (hsz : ∀ d, oj.dst = some d → d < a.tmps.size) (hr : j ∈ Region.ready md ops listed)
    (h : HeldAt P ops md S F R j oj a) {w : World} (hS : S w) (hf : FactsA ops F listed a w) : ∃ v w', Poss P ops md S F oj a v ∧ S w' ∧ FactsA ops F (listed.setIfInBounds j true) (a.put oj.dst v) w' := by
  obtain ⟨hun, oj', hoj, hall⟩ := mem_ready.1 hr
  have : oj' = oj := Option.some.inj (hoj.symm.trans hj)
  subst this
  rcases h with ⟨h1, h2⟩ | ⟨h1, h2⟩
  · have hD : FactsD ops md F oj' a w := fun e he hb oi d hoi hd => hf.1 e.on oi d hoi hd (hall e he hb)
    obtain ⟨v, w', ⟨hF, hS', hb⟩, hp⟩ := heldUpon_some (h2 w hS hD)
    exact ⟨v, w', .inl ⟨h1, w, hS, hD, hp⟩, hS', factsL_put hdis hlate inv hj (getD_both hun) stab hsz hf (.inl hb) hF (fun hd => hno j (noDst_spec hnd hj hd) _ _)⟩
  · exact ⟨undef, w, .inr ⟨h1, rfl⟩, hS, factsL_put hdis hlate inv hj (getD_both hun) stab hsz hf (.inr rfl) (h2 w hS) (fun hd => hno j (noDst_spec hnd hj hd) _ _)⟩

theorem wpAnyV_first {n i : Nat} {oi : Oper} {L : Array Bool → Act → Prop} (hi : ops[i]? = some oi) (hsel : ∀ (j : Nat) (o : Oper) cs b, ops[j]? = some o → o.op ≠ .select cs b)
    (hs : Region.sinkB md ops n = true) (hc : Region.chainB md ops n = true) (hn : n < ops.size) (hin : i < n) (hdis : distinctB ops = true)
    (hlate : lateOk md ops late = true) {nd : List Nat} (hnd : noDstB ops nd = true) (hno : ∀ j ∈ nd, ∀ v w, F j v w → F j undef w) (stab : Outlasts F R late)
    (hdone : ∀ listed a, L listed a → ∀ j ∈ Region.ready md ops listed, n ≤ j) (m : Nat) (hroom : roomy ops m) :
    ∀ (f : Nat) (listed : Array Bool) (a : Act), HeadInv md ops n listed → m ≤ a.tmps.size →
      (∀ j oj, ops[j]? = some oj → j ≠ i → listed.getD j true = false → (∀ e ∈ oj.after, Region.binds md e = true → e.on ≠ i) → oi.apart ops oj = true) →
      i ∈ Region.ready md ops listed → (∃ w, S w ∧ FactsA ops F listed a w) → HeldAt P ops md S F R i oi a →
      (∀ v, Poss P ops md S F oi a v → (∃ w, S w ∧ FactsA ops F (listed.setIfInBounds i true) (a.put oi.dst v) w) → wpAnyV P md ops S F R n L f (listed.setIfInBounds i true) (a.put oi.dst v)) → wpAnyV P md ops S F R n L (f + 1) listed a := by
  intro f
  induction f with
  | zero =>
    intro listed a inv hm _ hr ⟨w, hS, hf⟩ hy H
    have hun := (mem_ready.1 hr).1
    refine ⟨fun h => (by rw [h] at hr; cases hr), fun j hj => ?_⟩
    have hjn : j < n := by
      rcases Nat.lt_or_ge j n with h | h
      · exact h
      · exact absurd hj (tail_waits hs hc hn inv _ i rfl hin hun j h)
    refine ⟨hjn, fun oj hoj => ?_⟩
    by_cases hji : j = i
    · subst hji
      have : oj = oi := Option.some.inj (hoj.symm.trans hi)
      subst this
      exact ⟨hy, H⟩
    · obtain ⟨v, w', hp, hS', hf'⟩ := heldAt_some hdis hlate hnd hno stab inv hi (fun d hd => Nat.lt_of_lt_of_le (hroom i oi d hi hd) hm) hr hy hS hf
      have := hdone _ _ (H v hp ⟨w', hS', hf'⟩) j (ready_mono hj hji)
      omega
  | succ f ih =>
    intro listed a inv hm hfree hr ⟨w, hS, hf⟩ hy H
    have hun := (mem_ready.1 hr).1
    refine ⟨fun h => (by rw [h] at hr; cases hr), fun j hj => ?_⟩
    have hjn : j < n := by
      rcases Nat.lt_or_ge j n with h | h
      · exact h
      · exact absurd hj (tail_waits hs hc hn inv _ i rfl hin hun j h)
    refine ⟨hjn, fun oj hoj => ?_⟩
    by_cases hji : j = i
    · subst hji
      have : oj = oi := Option.some.inj (hoj.symm.trans hi)
      subst this
      exact ⟨hy, H⟩
    · obtain ⟨v0, w0, hp0, hS0, hf0⟩ := heldAt_some hdis hlate hnd hno stab inv hi (fun d hd => Nat.lt_of_lt_of_le (hroom i oi d hi hd) hm) hr hy hS hf
      obtain ⟨_, h1⟩ := H v0 hp0 ⟨w0, hS0, hf0⟩
      obtain ⟨_, h1⟩ := h1 j (ready_mono hj hji)
      obtain ⟨hyj, _⟩ := h1 oj hoj
      obtain ⟨hjun, oj', hoj', hall⟩ := mem_ready.1 hj
      have : oj' = oj := Option.some.inj (hoj'.symm.trans hoj)
      subst this
      have hnot : ∀ e ∈ oj'.after, Region.binds md e = true → e.on ≠ i := fun e he hb heq => by
        have h1 := hall e he hb
        rw [heq, getD_both hun] at h1
        cases h1
      have hnoti : ∀ e ∈ oi.after, Region.binds md e = true → e.on ≠ j := fun e he hb heq => by
        obtain ⟨_, oi', hoi', halli⟩ := mem_ready.1 hr
        have : oi' = oi := Option.some.inj (hoi'.symm.trans hi)
        subst this
        have h1 := halli e he hb
        rw [heq, getD_both hjun] at h1
        cases h1
      obtain ⟨ha1, ha2, ha3⟩ := Oper.apart_spec (hfree j oj' hoj hji hjun hnot)
      have ej : ∀ (b : Act) (v : Value), execOp (b.put oi.dst v).eval oj' = execOp b.eval oj' := fun b v => execOp_put oj' (fun cs b => hsel j oj' cs b hoj) b oi.dst v ha1
      have wj : ∀ (b : Act) (v : Value), Region.wanted oj' (yielded ops (b.put oi.dst v).tmps) = Region.wanted oj' (yielded ops b.tmps) := fun b v => wanted_put oj' b oi.dst v ha1
      have ei : ∀ (b : Act) (v : Value), execOp (b.put oj'.dst v).eval oi = execOp b.eval oi := fun b v => execOp_put oi (fun cs b => hsel i oi cs b hi) b oj'.dst v ha3
      have wi : ∀ (b : Act) (v : Value), Region.wanted oi (yielded ops (b.put oj'.dst v).tmps) = Region.wanted oi (yielded ops b.tmps) := fun b v => wanted_put oi b oj'.dst v ha3
      refine ⟨hyj.of_same (ej a v0).symm (wj a v0).symm (fun w h => (FactsD.put hdis hi hnot).2 h), fun u hu hsat => ?_⟩
      have hfree' : ∀ k ok, ops[k]? = some ok → k ≠ i → (listed.setIfInBounds j true).getD k true = false →
          (∀ e ∈ ok.after, Region.binds md e = true → e.on ≠ i) → oi.apart ops ok = true := fun k ok hk hki hun hno => by
        refine hfree k ok hk hki ?_ hno
        by_cases hjk : j = k
        · subst hjk; exact hjun
        · rw [getD_set_ne true hjk] at hun; exact hun
      refine ih (listed.setIfInBounds j true) (a.put oj'.dst u) (inv.set hj hjn) (by rw [put_size]; exact hm) hfree' (ready_mono hr (Ne.symm hji)) hsat
        (hy.of_same (ei a u) (wi a u) (fun w h => (FactsD.put hdis hoj hnoti).1 h)) (fun v hv hsat2 => ?_)
      have hv' : Poss P ops md S F oi a v := hv.of_same (ei a u).symm (wi a u).symm (fun w h => (FactsD.put hdis hoj hnoti).1 h)
      obtain ⟨w2, hS2, hf2⟩ := hsat2
      have hcomm : (a.put oj'.dst u).put oi.dst v = (a.put oi.dst v).put oj'.dst u := (Act.put_comm a v u ha2).symm
      rw [hcomm, Array.setIfInBounds_comm _ _ hji] at hf2
      have hjun' : (listed.setIfInBounds i true).getD j false = false := by rw [getD_set_ne false (Ne.symm hji)]; exact getD_both hjun
      obtain ⟨_, g1⟩ := H v hv' ⟨w2, hS2, hf2.drop hdis hoj hjun'⟩
      obtain ⟨_, g1⟩ := g1 j (ready_mono hj hji)
      obtain ⟨_, g2⟩ := g1 oj' hoj
      rw [hcomm, Array.setIfInBounds_comm _ _ hji]
      exact g2 u (hu.of_same (ej a v) (wj a v) (fun w h => (FactsD.put hdis hi hnot).2 h)) ⟨w2, hS2, hf2⟩
theorem wpOp_of_held {j : Nat} {oj : Oper} {a : Act} {w : World} {K : Act → World → Prop} {Q : Exit → Act → World → Prop} (hj : ops[j]? = some oj) (h : HeldAt P ops md S F R j oj a)
    (hS : S w) (hD : FactsD ops md F oj a w) (hK : ∀ v w', F j v w' → S w' → (R j w w' ∨ w' = w) → Poss P ops md S F oj a v → K (a.put oj.dst v) w') : wpOp P ops Q j K a w := by
  unfold wpOp
  simp only [hj]
  rcases h with ⟨h1, h2⟩ | ⟨h1, h2⟩
  · simp only [h1, if_true]
    refine .inl ?_
    have h3 := h2 w hS hD
    have hposs : ∀ u, possUpon u ((execOp a.eval oj).run P w) → Poss P ops md S F oj a u := fun u hu => .inl ⟨h1, w, hS, hD, hu⟩
    unfold Oper.wp
    generalize (execOp a.eval oj).run P w = r at h3 hposs ⊢
    cases r with
    | ok n w' =>
      cases n <;> simp only [heldUpon] at h3 <;> simp only [Oper.upon]
      case value v => exact hK v w' h3.1 h3.2.1 (.inl h3.2.2) (hposs v rfl)
      case skip => exact hK undef w' h3.1 h3.2.1 (.inl h3.2.2) (hposs undef rfl)
      case enter f args =>
        refine h3.mono fun e w'' ⟨v, he, hk⟩ => ?_
        subst he
        exact hK v w'' hk.1 hk.2.1 (.inl hk.2.2) (hposs v trivial)
    | halt x w' => simp only [heldUpon] at h3
  · simp only [h1, Bool.false_eq_true, if_false]
    exact hK undef w (h2 w hS) hS (.inr rfl) (.inr ⟨h1, rfl⟩)

theorem wpAny_of_V {n g m : Nat} {L : Array Bool → Act → Prop} {Q : Exit → Act → World → Prop} (hdis : distinctB ops = true) (hlate : lateOk md ops late = true) {nd : List Nat} (hnd : noDstB ops nd = true) (hno : ∀ j ∈ nd, ∀ v w, F j v w → F j undef w) (stab : Outlasts F R late) (hroom : roomy ops m)
    (hL : ∀ listed a, L listed a → ∀ w, S w → FactsA ops F listed a w → wpAny P md ops Q g listed a w) :
    ∀ (f : Nat) (listed : Array Bool) (a : Act), HeadInv md ops n listed → m ≤ a.tmps.size → wpAnyV P md ops S F R n L f listed a → ∀ w, S w → FactsA ops F listed a w → wpAny P md ops Q (f + g) listed a w
  | 0, listed, a, _, _, h, w, hS, hf => by rw [Nat.zero_add]; exact hL _ _ h w hS hf
  | f + 1, listed, a, inv, hm, h, w, hS, hf => by
    rw [show f + 1 + g = (f + g) + 1 by omega]
    refine ⟨fun h0 => absurd h0 h.1, fun j hj => ?_⟩
    obtain ⟨hjn, h2⟩ := h.2 j hj
    obtain ⟨_, oj, hoj, hall⟩ := mem_ready.1 hj
    obtain ⟨hy, h3⟩ := h2 oj hoj
    have hD : FactsD ops md F oj a w := fun e he hb oi d hoi hd => hf.1 e.on oi d hoi hd (hall e he hb)
    refine wpOp_of_held hoj hy hS hD fun v w' hF hS' hb hp => ?_
    have hf' := factsL_put hdis hlate inv hoj (getD_both (mem_ready.1 hj).1) stab (fun d hd => Nat.lt_of_lt_of_le (hroom j oj d hoj hd) hm) hf hb hF (fun hd => hno j (noDst_spec hnd hoj hd) _ _)
    exact wpAny_of_V hdis hlate hnd hno stab hroom hL f _ _ (inv.set hj hjn) (by rw [put_size]; exact hm) (h3 v hp ⟨w', hS', hf'⟩) w' hS' hf'

/-- what is owed of a value and a world: what F says, S, and that nothing that was there has turned. -/
def Fine (S : World → Prop) (F : Nat → Value → World → Prop) (R : Nat → World → World → Prop) (k : Nat) (v : Value) (w w' : World) : Prop := F k v w' ∧ S w' ∧ R k w w'
/-- one operation, in the order of the text. -/
def stepUpon (P : Program) (S : World → Prop) (F : Nat → Value → World → Prop) (R : Nat → World → World → Prop) (k : Nat) (o : Oper) (a : Act) (w : World) (K : Act → Prop) : Result Next → Prop
  | .ok (.value v) w' => Fine S F R k v w w' ∧ K (a.put o.dst v)
  | .ok .skip w' => Fine S F R k undef w w' ∧ K (a.put o.dst undef)
  | .ok (.enter f args) w' => Calls P f args w' (fun e w'' => ∃ v, e = .returned v ∧ Fine S F R k v w w'') ∧ ∀ v, Known S F k o.dst v → K (a.put o.dst v)
  | _ => False

/-- the operations in the order of the text, each in every world of S. -/
def relSeq (P : Program) (ops : Array Oper) (md : Region.Mode) (S : World → Prop) (F : Nat → Value → World → Prop) (R : Nat → World → World → Prop) (Lq : Act → Prop) : Nat → List Oper → Act → Prop
  | _, [], a => Lq a
  | k, o :: l, a =>
    if Region.wanted o (yielded ops a.tmps) then ∀ w, S w → FactsD ops md F o a w → stepUpon P S F R k o a w (relSeq P ops md S F R Lq (k + 1) l) ((execOp a.eval o).run P w)
    else (∀ w, S w → F k undef w) ∧ relSeq P ops md S F R Lq (k + 1) l (a.put o.dst undef)

theorem relSeq_nil {Lq : Act → Prop} {k : Nat} {a : Act} (h : Lq a) : relSeq P ops md S F R Lq k [] a := h
theorem relSeq_step {Lq : Act → Prop} {k : Nat} {a : Act} {o : Oper} {l : List Oper}
    (h : ∀ K : Act → Prop, (∀ a, relSeq P ops md S F R Lq (k + 1) l a → K a) → if Region.wanted o (yielded ops a.tmps) then ∀ w, S w → FactsD ops md F o a w → stepUpon P S F R k o a w K ((execOp a.eval o).run P w) else (∀ w, S w → F k undef w) ∧ K (a.put o.dst undef)) :
    relSeq P ops md S F R Lq k (o :: l) a := h _ (fun _ h => h)

theorem heldAt_of_step {K : Act → Prop} {k : Nat} {o : Oper} {a : Act} (h : if Region.wanted o (yielded ops a.tmps) then ∀ w, S w → FactsD ops md F o a w → stepUpon P S F R k o a w K ((execOp a.eval o).run P w) else (∀ w, S w → F k undef w) ∧ K (a.put o.dst undef)) :
    HeldAt P ops md S F R k o a ∧ ∀ v, Poss P ops md S F o a v → (o.dst.isSome = true → ∃ w, S w ∧ F k v w) → K (a.put o.dst v) := by
  by_cases hw : Region.wanted o (yielded ops a.tmps) = true
  · simp only [hw, if_true] at h
    refine ⟨.inl ⟨hw, fun w hS hD => ?_⟩, fun v hv hsat => ?_⟩
    · have h1 := h w hS hD
      generalize (execOp a.eval o).run P w = r at h1 ⊢
      cases r with
      | ok n w' => cases n <;> simp only [stepUpon] at h1 <;> simp only [heldUpon] <;> exact h1.1
      | halt x w' => simp only [stepUpon] at h1
    · rcases hv with ⟨_, w, hS, hD, hp⟩ | ⟨h0, _⟩
      · have h1 := h w hS hD
        generalize (execOp a.eval o).run P w = r at h1 hp
        cases r with
        | ok n w' =>
          cases n <;> simp only [stepUpon] at h1 <;> simp only [possUpon] at hp
          case value u => subst hp; exact h1.2
          case skip => subst hp; exact h1.2
          case enter f args => exact h1.2 v hsat
        | halt x w' => simp only [stepUpon] at h1
      · rw [hw] at h0; cases h0
  · have hw' : Region.wanted o (yielded ops a.tmps) = false := by simpa using hw
    rw [if_neg hw] at h
    refine ⟨.inr ⟨hw', h.1⟩, fun v hv _ => ?_⟩
    rcases hv with ⟨h0, _⟩ | ⟨_, hv⟩
    · rw [hw'] at h0; cases h0
    · subst hv; exact h.2

theorem wpAnyV_lex {n g m : Nat} {Lq : Act → Prop} (hsel : Region.noSelect ops = true) (hs : Region.sinkB md ops n = true) (hc : Region.chainB md ops n = true) (hn : n < ops.size) (hdis : distinctB ops = true)
    (hlate : lateOk md ops late = true) {nd : List Nat} (hnd : noDstB ops nd = true) (hno : ∀ j ∈ nd, ∀ v w, F j v w → F j undef w) (stab : Outlasts F R late) (hroom : roomy ops m) :
    ∀ (l : List Oper) (k : Nat) (listed : Array Bool) (a : Act), (∀ j, j < l.length → l[j]? = ops[k + j]?) → k + l.length = n → HeadInv md ops n listed → m ≤ a.tmps.size →
    Region.lexHead md ops g l.length k listed = true → (∃ w, S w ∧ FactsA ops F listed a w) → relSeq P ops md S F R Lq k l a →
    wpAnyV P md ops S F R n (fun listed' a' => Region.seqB md ops g n listed' = true ∧ HeadInv md ops n listed' ∧ Lq a') l.length listed a
  | [], k, listed, a, _, hk, inv, _, hB, _, h => by
    have : k = n := by simpa using hk
    subst this
    exact ⟨by simpa [Region.lexHead] using hB, inv, h⟩
  | o :: l, k, listed, a, hl, hk, inv, hm, hB, hsat, h => by
    have h0 : ops[k]? = some o := by simpa using (hl 0 (by simp)).symm
    simp only [List.length_cons, Region.lexHead, Bool.and_eq_true] at hB
    obtain ⟨⟨hr, hf⟩, hB'⟩ := hB
    have hkn : k < n := by simp only [List.length_cons] at hk; omega
    have hr' : k ∈ Region.ready md ops listed := by simpa using hr
    obtain ⟨hy, hK⟩ := heldAt_of_step (show if Region.wanted o (yielded ops a.tmps) then _ else _ from h)
    refine wpAnyV_first h0 (Region.noSelect_spec hsel) hs hc hn hkn hdis hlate hnd hno stab (fun listed' a' hL => seqB_ready hL.1) m hroom l.length listed a inv hm (Region.free_spec h0 hf) hr' hsat hy (fun v hv hs2 => ?_)
    refine wpAnyV_lex hsel hs hc hn hdis hlate hnd hno stab hroom l (k + 1) _ _ (fun j hj => by have := hl (j + 1) (by simp; omega); simpa [Nat.add_assoc, Nat.add_comm 1 j] using this) (by simp only [List.length_cons] at hk; omega) (inv.set hr' hkn) (by rw [put_size]; exact hm) hB' hs2 ?_
    refine hK v hv ?_
    obtain ⟨w, hS, hf2⟩ := hs2
    intro hsome
    obtain ⟨d, hd⟩ := Option.isSome_iff_exists.1 hsome
    refine ⟨w, hS, ?_⟩
    have hlt : d < a.tmps.size := Nat.lt_of_lt_of_le (hroom k o d h0 hd) hm
    have := hf2.1 k o d h0 hd (by
      have hks : k < listed.size := by rw [inv.size]; exact (Array.getElem?_eq_some_iff.1 h0).1
      simp [hks])
    rwa [hd, put_getD_same hlt] at this

/-- where every slot lies. -/
def roomyB (ops : Array Oper) (m : Nat) : Bool := ops.all fun o => match o.dst with | some d => decide (d < m) | none => true
theorem roomy_of {m : Nat} (h : roomyB ops m = true) : roomy ops m := by
  intro i o d hi hd
  have := (Array.all_eq_true_iff_forall_mem.1 h) o (Array.mem_of_getElem? hi)
  rw [hd] at this
  simpa using this
theorem roomy_mono {m m' : Nat} (h : roomy ops m) (hm : m ≤ m') : roomy ops m' := fun i o d hi hd => Nat.lt_of_lt_of_le (h i o d hi hd) hm

/-- **THE LAW**: the first n operations in the order of the text, each in every world of S; the others, in their forced order, in whatever world of S where all that F says holds. -/
theorem wpAny_held_relM (md : Region.Mode) {Q : Exit → Act → World → Prop} {a : Act} {w : World} {l : List Oper} (n : Nat) (S : World → Prop) (F : Nat → Value → World → Prop) (R : Nat → World → World → Prop) (late : Nat → Nat → Bool)
    (hB : Region.lexTailB md l.toArray n = true) (hdis : distinctB l.toArray = true) (hroom : roomyB l.toArray a.tmps.size = true)
    (hlate : lateOk md l.toArray late = true) (nd : List Nat) (hnd : noDstB l.toArray nd = true) (hno : ∀ j ∈ nd, ∀ v w, F j v w → F j undef w) (stab : Outlasts F R late) (hS : S w.drew)
    (h : relSeq P l.toArray md S F R (fun a' => ∀ listed w', S w' → FactsA l.toArray F listed a' w' → (∀ k, k < n → listed.getD k false = true) → wpList P l.toArray Q (l.drop n) a' w') 0 (l.take n) a) : wpAny P md l.toArray Q l.toArray.size (Array.replicate l.toArray.size false) a w.drew := by
  simp only [Region.lexTailB, Bool.and_eq_true, decide_eq_true_eq] at hB
  obtain ⟨⟨⟨⟨hsel, hn⟩, hs⟩, hc⟩, hlex⟩ := hB
  have hn' : n < l.length := by simpa using hn
  have htl : (l.take n).length = n := by simp; omega
  have hdl : (l.drop n).length = l.toArray.size - n := by simp
  have inv0 : HeadInv md l.toArray n (Array.replicate l.toArray.size false) :=
    ⟨by simp, fun j oj _ hl => (by rw [getD_replicate_false] at hl; cases hl), fun t _ ht => getD_in (by simpa using ht) (getD_replicate_false _ _)⟩
  have H := wpAnyV_lex (md := md) (g := l.toArray.size - n) hsel hs hc hn hdis hlate hnd hno stab (roomy_of hroom) (l.take n) 0 _ a (fun j hj => by
    have hj' : j < n := by rw [htl] at hj; exact hj
    simp [hj']) (by simpa using htl) inv0 (Nat.le_refl _) (by rw [htl]; exact hlex) ⟨w.drew, ⟨hS, ⟨(fun i o d _ _ hl => by rw [getD_replicate_false] at hl; cases hl), (fun i o _ _ hl => by rw [getD_replicate_false] at hl; cases hl)⟩⟩⟩ h
  have := wpAny_of_V (Q := Q) (g := l.toArray.size - n) hdis hlate hnd hno stab (roomy_of hroom) (fun listed a' hL w' hS' hf => by
    obtain ⟨h1, h2, h3⟩ := hL
    have hall : ∀ k, k < n → listed.getD k false = true := fun k hk => by
      cases hl : listed.getD k false with
      | true => rfl
      | false =>
        exfalso
        have hks : k < listed.size := by rw [h2.size]; omega
        have hready : n ∈ Region.ready md l.toArray listed := by
          obtain ⟨g, hg⟩ : ∃ g, l.toArray.size - n = g + 1 := ⟨l.toArray.size - n - 1, by omega⟩
          rw [hg] at h1
          simp only [Region.seqB, Bool.and_eq_true, decide_eq_true_eq] at h1
          rw [h1.1]; simp
        exact tail_waits hs hc hn h2 _ k rfl hk (getD_in hks hl) n (Nat.le_refl _) hready
    have := wpAny_of_seq (md := md) (Q' := Q) (l.drop n) n listed a' w' (fun j => by simp [List.getElem?_drop]) (by rw [hdl]; exact h1) (h3 listed w' hS' hf hall)
    rwa [hdl] at this) _ _ _ inv0 (Nat.le_refl _) H w.drew hS ⟨(fun i o d _ _ hl => by rw [getD_replicate_false] at hl; cases hl), (fun i o _ _ hl => by rw [getD_replicate_false] at hl; cases hl)⟩
  rw [htl, show n + (l.toArray.size - n) = l.toArray.size by omega] at this
  exact this

theorem wpAny_held_rel {Q : Exit → Act → World → Prop} {a : Act} {w : World} {l : List Oper} (n : Nat) (S : World → Prop) (F : Nat → Value → World → Prop) (R : Nat → World → World → Prop) (late : Nat → Nat → Bool)
    (hB : Region.lexTailB .any l.toArray n = true) (hdis : distinctB l.toArray = true) (hroom : roomyB l.toArray a.tmps.size = true)
    (hlate : lateOk .any l.toArray late = true) (nd : List Nat) (hnd : noDstB l.toArray nd = true) (hno : ∀ j ∈ nd, ∀ v w, F j v w → F j undef w) (stab : Outlasts F R late) (hS : S w.drew)
    (h : relSeq P l.toArray .any S F R (fun a' => ∀ listed w', S w' → FactsA l.toArray F listed a' w' → (∀ k, k < n → listed.getD k false = true) → wpList P l.toArray Q (l.drop n) a' w') 0 (l.take n) a) : wpAny P .any l.toArray Q l.toArray.size (Array.replicate l.toArray.size false) a w.drew :=
  wpAny_held_relM .any n S F R late hB hdis hroom hlate nd hnd hno stab hS h

theorem wp_region_held_rel {id : Nat} {Q : Exit → Act → World → Prop} {a : Act} {w : World} {l : List Oper} (n : Nat) (S : World → Prop) (F : Nat → Value → World → Prop) (R : Nat → World → World → Prop) (late : Nat → Nat → Bool)
    (hm : P.follows .mixedOrders = true) (hB : Region.lexTailB .any l.toArray n = true) (hdis : distinctB l.toArray = true) (hroom : roomyB l.toArray a.tmps.size = true)
    (hlate : lateOk .any l.toArray late = true) (nd : List Nat) (hnd : noDstB l.toArray nd = true) (hno : ∀ j ∈ nd, ∀ v w, F j v w → F j undef w) (stab : Outlasts F R late) (hS : S w.drew)
    (h : relSeq P l.toArray .any S F R (fun a' => ∀ listed w', S w' → FactsA l.toArray F listed a' w' → (∀ k, k < n → listed.getD k false = true) → wpList P l.toArray Q (l.drop n) a' w') 0 (l.take n) a) : (Code.region id l.toArray true).wp P Q a w :=
  wp_region_any hm (wpAny_held_rel n S F R late hB hdis hroom hlate nd hnd hno stab hS h)

theorem relSeq_on {Lq : Act → Prop} {k : Nat} {a : Act} {o : Oper} {l : List Oper} (hw : Region.wanted o (yielded ops a.tmps) = true)
    (h : ∀ K : Act → Prop, (∀ a, relSeq P ops md S F R Lq (k + 1) l a → K a) → ∀ w, S w → FactsD ops md F o a w → stepUpon P S F R k o a w K ((execOp a.eval o).run P w)) :
    relSeq P ops md S F R Lq k (o :: l) a := relSeq_step fun K hK => by rw [if_pos hw]; exact h K hK
theorem relSeq_off {Lq : Act → Prop} {k : Nat} {a : Act} {o : Oper} {l : List Oper} (hw : Region.wanted o (yielded ops a.tmps) = false)
    (hF : ∀ w, S w → F k undef w) (h : ∀ K : Act → Prop, (∀ a, relSeq P ops md S F R Lq (k + 1) l a → K a) → K (a.put o.dst undef)) :
    relSeq P ops md S F R Lq k (o :: l) a := relSeq_step fun K hK => by rw [if_neg (by rw [hw]; simp)]; exact ⟨hF, h K hK⟩

attribute [go_sem] stepUpon
end
end Go.Proofs.YtoiaecfiinkmjaaDoor.Rely
