/- A region that draws its order, whose operations all but the last ones read, call, or make memory, and change nothing that was there: whatever order is drawn. What an operation yields may hang on the world: what is known of it is said by F. -/
import Derived.StillTailTactics
import Derived.RowKit3
import Derived.Below
import Derived.CallsIn
import Derived.RangeFuncNested
import Derived.RangeFuncCalls
import Derived.Test.YtoiaecfiinkmjaaDoorRows
namespace Go.Proofs.YtoiaecfiinkmjaaDoor
open Go.RowKit

section
variable {P : Program} {ops : Array Oper} {md : Region.Mode} {S : World → Prop} {F : Nat → Value → World → Prop}

/-- what comes of an operation: a value, and a world. -/
def heldUpon (P : Program) (K : Value → World → Prop) : Result Next → Prop
  | .ok (.value v) w' => K v w'
  | .ok .skip w' => K undef w'
  | .ok (.enter f args) w' => Calls P f args w' (fun e w'' => ∃ v, e = .returned v ∧ K v w'')
  | _ => False

/-- what is known of the operations that have come up. -/
def FactsL (ops : Array Oper) (F : Nat → Value → World → Prop) (listed : Array Bool) (a : Act) (w : World) : Prop :=
  ∀ i o d, ops[i]? = some o → o.dst = some d → listed.getD i false = true → F i (a.tmps.getD d undef) w
/-- what is known of those that one waits for. -/
def FactsD (ops : Array Oper) (md : Region.Mode) (F : Nat → Value → World → Prop) (o : Oper) (a : Act) (w : World) : Prop :=
  ∀ e ∈ o.after, Region.binds md e = true → ∀ oi d, ops[e.on]? = some oi → oi.dst = some d → F e.on (a.tmps.getD d undef) w

/-- the operation j, at a: in every world of S where what is known of those that it waits for holds. -/
def HeldAt (P : Program) (ops : Array Oper) (md : Region.Mode) (S : World → Prop) (F : Nat → Value → World → Prop) (j : Nat) (o : Oper) (a : Act) : Prop :=
  (Region.wanted o (yielded ops a.tmps) = true ∧ ∀ w, S w → FactsD ops md F o a w → heldUpon P (fun v w' => F j v w' ∧ S w' ∧ Below w.heap.size w w') ((execOp a.eval o).run P w)) ∨
  (Region.wanted o (yielded ops a.tmps) = false ∧ ∀ w, S w → F j undef w)

/-- u may be what comes of it (of a call: all that F lets by). -/
def possUpon (u : Value) : Result Next → Prop
  | .ok (.value v) _ => u = v
  | .ok .skip _ => u = undef
  | .ok (.enter _ _) _ => True
  | _ => False
def Poss (P : Program) (ops : Array Oper) (md : Region.Mode) (S : World → Prop) (F : Nat → Value → World → Prop) (o : Oper) (a : Act) (u : Value) : Prop :=
  (Region.wanted o (yielded ops a.tmps) = true ∧ ∃ w, S w ∧ FactsD ops md F o a w ∧ possUpon u ((execOp a.eval o).run P w)) ∨ (Region.wanted o (yielded ops a.tmps) = false ∧ u = undef)

theorem Poss.of_same {o : Oper} {a a' : Act} {u : Value} (h : Poss P ops md S F o a u) (he : execOp a'.eval o = execOp a.eval o)
    (hw : Region.wanted o (yielded ops a'.tmps) = Region.wanted o (yielded ops a.tmps)) (hd : ∀ w, FactsD ops md F o a w → FactsD ops md F o a' w) : Poss P ops md S F o a' u := by
  rcases h with ⟨h1, w, hs, hf, hp⟩ | ⟨h1, h2⟩
  · exact .inl ⟨hw.trans h1, w, hs, hd w hf, by rw [he]; exact hp⟩
  · exact .inr ⟨hw.trans h1, h2⟩

theorem heldUpon_mono {K K' : Value → World → Prop} (h : ∀ v w, K v w → K' v w) : ∀ {r : Result Next}, heldUpon P K r → heldUpon P K' r := by
  intro r hr
  cases r with
  | ok n w' =>
    cases n <;> simp only [heldUpon] at hr ⊢ <;> first | exact h _ _ hr | exact hr.mono (fun e w'' ⟨v, he, hk⟩ => ⟨v, he, h _ _ hk⟩)
  | halt x w' => simp only [heldUpon] at hr

theorem heldUpon_some {K : Value → World → Prop} {r : Result Next} (h : heldUpon P K r) : ∃ v w', K v w' ∧ possUpon v r := by
  cases r with
  | ok n w' =>
    cases n <;> simp only [heldUpon] at h
    case value v => exact ⟨v, w', h, rfl⟩
    case skip => exact ⟨undef, w', h, rfl⟩
    case enter f args => obtain ⟨e, w'', fr, ⟨v, _, hk⟩, _⟩ := h []; exact ⟨v, w'', hk, trivial⟩
  | halt x w' => simp only [heldUpon] at h

theorem HeldAt.of_same {j : Nat} {o : Oper} {a a' : Act} (h : HeldAt P ops md S F j o a) (he : execOp a'.eval o = execOp a.eval o)
    (hw : Region.wanted o (yielded ops a'.tmps) = Region.wanted o (yielded ops a.tmps)) (hd : ∀ w, FactsD ops md F o a' w → FactsD ops md F o a w) : HeldAt P ops md S F j o a' := by
  rcases h with ⟨h1, h2⟩ | ⟨h1, h2⟩
  · exact .inl ⟨hw.trans h1, fun w hs hf => by rw [he]; exact h2 w hs (hd w hf)⟩
  · exact .inr ⟨hw.trans h1, h2⟩

/-- no two operations write one slot. -/
def distinctB (ops : Array Oper) : Bool := (ops.toList.filterMap (·.dst)).Nodup

theorem distinct_spec (h : distinctB ops = true) {i j : Nat} {oi oj : Oper} {d : Tmp} (hi : ops[i]? = some oi) (hj : ops[j]? = some oj) (hdi : oi.dst = some d) (hdj : oj.dst = some d) : i = j := by
  unfold distinctB at h
  have h := of_decide_eq_true h
  have key : ∀ (l : List Oper), (l.filterMap (·.dst)).Nodup → ∀ (i j : Nat) (oi oj : Oper), l[i]? = some oi → l[j]? = some oj → oi.dst = some d → oj.dst = some d → i = j := by
    intro l
    induction l with
    | nil => intro _ i j oi oj h1; simp at h1
    | cons x xs ih =>
      intro hn i j oi oj h1 h2 d1 d2
      have hmem : ∀ (k : Nat) (ok : Oper), xs[k]? = some ok → ok.dst = some d → d ∈ xs.filterMap (·.dst) := fun k ok hk hd =>
        List.mem_filterMap.2 ⟨ok, List.mem_of_getElem? hk, hd⟩
      have hn' : (xs.filterMap (·.dst)).Nodup := by
        rw [List.filterMap_cons] at hn
        split at hn
        · exact hn
        · exact (List.nodup_cons.1 hn).2
      have hx : x.dst = some d → d ∉ xs.filterMap (·.dst) := fun hd => by
        rw [List.filterMap_cons, hd] at hn
        exact (List.nodup_cons.1 hn).1
      cases i with
      | zero =>
        simp only [List.getElem?_cons_zero, Option.some.injEq] at h1
        subst h1
        cases j with
        | zero => rfl
        | succ j => exact absurd (hmem j oj (by simpa using h2) d2) (hx d1)
      | succ i =>
        cases j with
        | zero =>
          simp only [List.getElem?_cons_zero, Option.some.injEq] at h2
          subst h2
          exact absurd (hmem i oi (by simpa using h1) d1) (hx d2)
        | succ j => rw [ih hn' i j oi oj (by simpa using h1) (by simpa using h2) d1 d2]
  exact key ops.toList h i j oi oj (by simpa using hi) (by simpa using hj) hdi hdj

theorem put_getD_ne {a : Act} {x : Option Tmp} {v : Value} {d : Tmp} (h : x ≠ some d) : (a.put x v).tmps.getD d undef = a.tmps.getD d undef := by
  cases x with
  | none => rfl
  | some e =>
    have hne : e ≠ d := fun he => h (by rw [he])
    simp [Act.put, Array.getElem?_setIfInBounds_ne hne]

/-- slots are there. -/
def roomy (ops : Array Oper) (n : Nat) : Prop := ∀ (i : Nat) (o : Oper) (d : Tmp), ops[i]? = some o → o.dst = some d → d < n

theorem put_getD_same {a : Act} {v : Value} {d : Tmp} (h : d < a.tmps.size) : (a.put (some d) v).tmps.getD d undef = v := by
  simp [Act.put, h]

theorem put_size {a : Act} {x : Option Tmp} {v : Value} : (a.put x v).tmps.size = a.tmps.size := by cases x <;> simp [Act.put]

/-- Facts behind one operation more. -/
theorem FactsL.put (hdis : distinctB ops = true) {listed : Array Bool} {a : Act} {w w' : World} {j : Nat} {oj : Oper} {v : Value} (hj : ops[j]? = some oj)
    (stab : ∀ k v w w', Below w.heap.size w w' → F k v w → F k v w') (hsz : ∀ d, oj.dst = some d → d < a.tmps.size)
    (h : FactsL ops F listed a w) (hb : Below w.heap.size w w') (hF : F j v w') : FactsL ops F (listed.setIfInBounds j true) (a.put oj.dst v) w' := by
  intro i o d hi hd hl
  by_cases hij : i = j
  · subst hij
    have : o = oj := Option.some.inj (hi.symm.trans hj)
    subst this
    rw [hd, put_getD_same (hsz d hd)]
    exact hF
  · rw [put_getD_ne (fun e => hij (distinct_spec hdis hi hj hd e))]
    rw [getD_set_ne false (Ne.symm hij)] at hl
    exact stab _ _ _ _ hb (h i o d hi hd hl)

theorem FactsL.drop (hdis : distinctB ops = true) {listed : Array Bool} {a : Act} {w : World} {j : Nat} {oj : Oper} {v : Value} (hj : ops[j]? = some oj) (hun : listed.getD j false = false)
    (h : FactsL ops F (listed.setIfInBounds j true) (a.put oj.dst v) w) : FactsL ops F listed a w := by
  intro i o d hi hd hl
  have hij : i ≠ j := fun e => by subst e; rw [hun] at hl; cases hl
  have := h i o d hi hd (getD_set_true hl)
  rwa [put_getD_ne (fun e => hij (distinct_spec hdis hi hj hd e))] at this

/-- whatever order is drawn, in every world of S. -/
def wpAnyV (P : Program) (md : Region.Mode) (ops : Array Oper) (S : World → Prop) (F : Nat → Value → World → Prop) (n : Nat) (L : Array Bool → Act → Prop) : Nat → Array Bool → Act → Prop
  | 0, listed, a => L listed a
  | f + 1, listed, a =>
    Region.ready md ops listed ≠ [] ∧ ∀ j ∈ Region.ready md ops listed, j < n ∧ ∀ oj, ops[j]? = some oj → HeldAt P ops md S F j oj a ∧
      ∀ v, Poss P ops md S F oj a v → (∃ w, S w ∧ FactsL ops F (listed.setIfInBounds j true) (a.put oj.dst v) w) → wpAnyV P md ops S F n L f (listed.setIfInBounds j true) (a.put oj.dst v)

theorem heldAt_some {j : Nat} {oj : Oper} {a : Act} {listed : Array Bool} (hdis : distinctB ops = true) (stab : ∀ k v w w', Below w.heap.size w w' → F k v w → F k v w')
    (hj : ops[j]? = some oj) (hsz : ∀ d, oj.dst = some d → d < a.tmps.size) (hr : j ∈ Region.ready md ops listed)
    (h : HeldAt P ops md S F j oj a) {w : World} (hS : S w) (hf : FactsL ops F listed a w) : ∃ v w', Poss P ops md S F oj a v ∧ S w' ∧ FactsL ops F (listed.setIfInBounds j true) (a.put oj.dst v) w' := by
  obtain ⟨_, oj', hoj, hall⟩ := mem_ready.1 hr
  have : oj' = oj := Option.some.inj (hoj.symm.trans hj)
  subst this
  rcases h with ⟨h1, h2⟩ | ⟨h1, h2⟩
  · have hD : FactsD ops md F oj' a w := fun e he hb oi d hoi hd => hf e.on oi d hoi hd (hall e he hb)
    obtain ⟨v, w', ⟨hF, hS', hb⟩, hp⟩ := heldUpon_some (h2 w hS hD)
    exact ⟨v, w', .inl ⟨h1, w, hS, hD, hp⟩, hS', FactsL.put hdis hj stab hsz hf hb hF⟩
  · exact ⟨undef, w, .inr ⟨h1, rfl⟩, hS, FactsL.put hdis hj stab hsz hf (Below.refl _ _) (h2 w hS)⟩

theorem FactsD.put (hdis : distinctB ops = true) {o oi : Oper} {i : Nat} {a : Act} {v : Value} {w : World} (hi : ops[i]? = some oi) (hnot : ∀ e ∈ o.after, Region.binds md e = true → e.on ≠ i) :
    FactsD ops md F o (a.put oi.dst v) w ↔ FactsD ops md F o a w := by
  constructor
  · intro h e he hb ok d hok hd
    have := h e he hb ok d hok hd
    rwa [put_getD_ne (fun e' => hnot e he hb (distinct_spec hdis hok hi hd e'))] at this
  · intro h e he hb ok d hok hd
    rw [put_getD_ne (fun e' => hnot e he hb (distinct_spec hdis hok hi hd e'))]
    exact h e he hb ok d hok hd

theorem wpAnyV_first {n i : Nat} {oi : Oper} {L : Array Bool → Act → Prop} (hi : ops[i]? = some oi) (hsel : ∀ (j : Nat) (o : Oper) cs b, ops[j]? = some o → o.op ≠ .select cs b)
    (hs : Region.sinkB md ops n = true) (hc : Region.chainB md ops n = true) (hn : n < ops.size) (hin : i < n) (hdis : distinctB ops = true)
    (stab : ∀ k v w w', Below w.heap.size w w' → F k v w → F k v w')
    (hdone : ∀ listed a, L listed a → ∀ j ∈ Region.ready md ops listed, n ≤ j) (m : Nat) (hroom : roomy ops m) :
    ∀ (f : Nat) (listed : Array Bool) (a : Act), HeadInv md ops n listed → m ≤ a.tmps.size →
      (∀ j oj, ops[j]? = some oj → j ≠ i → listed.getD j true = false → (∀ e ∈ oj.after, Region.binds md e = true → e.on ≠ i) → oi.apart ops oj = true) →
      i ∈ Region.ready md ops listed → (∃ w, S w ∧ FactsL ops F listed a w) → HeldAt P ops md S F i oi a →
      (∀ v, Poss P ops md S F oi a v → (∃ w, S w ∧ FactsL ops F (listed.setIfInBounds i true) (a.put oi.dst v) w) → wpAnyV P md ops S F n L f (listed.setIfInBounds i true) (a.put oi.dst v)) → wpAnyV P md ops S F n L (f + 1) listed a := by
  intro f
  induction f with
  | zero =>
    intro listed a inv hm _ hr ⟨w, hS, hf⟩ hy H
    have hun := (mem_ready.1 hr).1
    refine ⟨fun h => (by rw [h] at hr; cases hr), fun j hj => ?_⟩
    have hjn : j < n := by
      rcases Nat.lt_or_ge j n with h | h
      · exact h
      · exact absurd hj (tail_waits hs hc hn inv _ i rfl hin hun j h)
    refine ⟨hjn, fun oj hoj => ?_⟩
    by_cases hji : j = i
    · subst hji
      have : oj = oi := Option.some.inj (hoj.symm.trans hi)
      subst this
      exact ⟨hy, H⟩
    · obtain ⟨v, w', hp, hS', hf'⟩ := heldAt_some hdis stab hi (fun d hd => Nat.lt_of_lt_of_le (hroom i oi d hi hd) hm) hr hy hS hf
      have := hdone _ _ (H v hp ⟨w', hS', hf'⟩) j (ready_mono hj hji)
      omega
  | succ f ih =>
    intro listed a inv hm hfree hr ⟨w, hS, hf⟩ hy H
    have hun := (mem_ready.1 hr).1
    refine ⟨fun h => (by rw [h] at hr; cases hr), fun j hj => ?_⟩
    have hjn : j < n := by
      rcases Nat.lt_or_ge j n with h | h
      · exact h
      · exact absurd hj (tail_waits hs hc hn inv _ i rfl hin hun j h)
    refine ⟨hjn, fun oj hoj => ?_⟩
    by_cases hji : j = i
    · subst hji
      have : oj = oi := Option.some.inj (hoj.symm.trans hi)
      subst this
      exact ⟨hy, H⟩
    · obtain ⟨v0, w0, hp0, hS0, hf0⟩ := heldAt_some hdis stab hi (fun d hd => Nat.lt_of_lt_of_le (hroom i oi d hi hd) hm) hr hy hS hf
      obtain ⟨_, h1⟩ := H v0 hp0 ⟨w0, hS0, hf0⟩
      obtain ⟨_, h1⟩ := h1 j (ready_mono hj hji)
      obtain ⟨hyj, _⟩ := h1 oj hoj
      obtain ⟨hjun, oj', hoj', hall⟩ := mem_ready.1 hj
      have : oj' = oj := Option.some.inj (hoj'.symm.trans hoj)
      subst this
      have hnot : ∀ e ∈ oj'.after, Region.binds md e = true → e.on ≠ i := fun e he hb heq => by
        have h1 := hall e he hb
        rw [heq, getD_both hun] at h1
        cases h1
      have hnoti : ∀ e ∈ oi.after, Region.binds md e = true → e.on ≠ j := fun e he hb heq => by
        obtain ⟨_, oi', hoi', halli⟩ := mem_ready.1 hr
        have : oi' = oi := Option.some.inj (hoi'.symm.trans hi)
        subst this
        have h1 := halli e he hb
        rw [heq, getD_both hjun] at h1
        cases h1
      obtain ⟨ha1, ha2, ha3⟩ := Oper.apart_spec (hfree j oj' hoj hji hjun hnot)
      have ej : ∀ (b : Act) (v : Value), execOp (b.put oi.dst v).eval oj' = execOp b.eval oj' := fun b v => execOp_put oj' (fun cs b => hsel j oj' cs b hoj) b oi.dst v ha1
      have wj : ∀ (b : Act) (v : Value), Region.wanted oj' (yielded ops (b.put oi.dst v).tmps) = Region.wanted oj' (yielded ops b.tmps) := fun b v => wanted_put oj' b oi.dst v ha1
      have ei : ∀ (b : Act) (v : Value), execOp (b.put oj'.dst v).eval oi = execOp b.eval oi := fun b v => execOp_put oi (fun cs b => hsel i oi cs b hi) b oj'.dst v ha3
      have wi : ∀ (b : Act) (v : Value), Region.wanted oi (yielded ops (b.put oj'.dst v).tmps) = Region.wanted oi (yielded ops b.tmps) := fun b v => wanted_put oi b oj'.dst v ha3
      refine ⟨hyj.of_same (ej a v0).symm (wj a v0).symm (fun w h => (FactsD.put hdis hi hnot).2 h), fun u hu hsat => ?_⟩
      have hfree' : ∀ k ok, ops[k]? = some ok → k ≠ i → (listed.setIfInBounds j true).getD k true = false →
          (∀ e ∈ ok.after, Region.binds md e = true → e.on ≠ i) → oi.apart ops ok = true := fun k ok hk hki hun hno => by
        refine hfree k ok hk hki ?_ hno
        by_cases hjk : j = k
        · subst hjk; exact hjun
        · rw [getD_set_ne true hjk] at hun; exact hun
      refine ih (listed.setIfInBounds j true) (a.put oj'.dst u) (inv.set hj hjn) (by rw [put_size]; exact hm) hfree' (ready_mono hr (Ne.symm hji)) hsat
        (hy.of_same (ei a u) (wi a u) (fun w h => (FactsD.put hdis hoj hnoti).1 h)) (fun v hv hsat2 => ?_)
      have hv' : Poss P ops md S F oi a v := hv.of_same (ei a u).symm (wi a u).symm (fun w h => (FactsD.put hdis hoj hnoti).1 h)
      obtain ⟨w2, hS2, hf2⟩ := hsat2
      have hcomm : (a.put oj'.dst u).put oi.dst v = (a.put oi.dst v).put oj'.dst u := (Act.put_comm a v u ha2).symm
      rw [hcomm, Array.setIfInBounds_comm _ _ hji] at hf2
      have hjun' : (listed.setIfInBounds i true).getD j false = false := by rw [getD_set_ne false (Ne.symm hji)]; exact getD_both hjun
      obtain ⟨_, g1⟩ := H v hv' ⟨w2, hS2, hf2.drop hdis hoj hjun'⟩
      obtain ⟨_, g1⟩ := g1 j (ready_mono hj hji)
      obtain ⟨_, g2⟩ := g1 oj' hoj
      rw [hcomm, Array.setIfInBounds_comm _ _ hji]
      exact g2 u (hu.of_same (ej a v) (wj a v) (fun w h => (FactsD.put hdis hi hnot).2 h)) ⟨w2, hS2, hf2⟩
theorem wpOp_of_held {j : Nat} {oj : Oper} {a : Act} {w : World} {K : Act → World → Prop} {Q : Exit → Act → World → Prop} (hj : ops[j]? = some oj) (h : HeldAt P ops md S F j oj a)
    (hS : S w) (hD : FactsD ops md F oj a w) (hK : ∀ v w', F j v w' → S w' → Below w.heap.size w w' → Poss P ops md S F oj a v → K (a.put oj.dst v) w') : wpOp P ops Q j K a w := by
  unfold wpOp
  simp only [hj]
  rcases h with ⟨h1, h2⟩ | ⟨h1, h2⟩
  · simp only [h1, if_true]
    refine .inl ?_
    have h3 := h2 w hS hD
    have hposs : ∀ u, possUpon u ((execOp a.eval oj).run P w) → Poss P ops md S F oj a u := fun u hu => .inl ⟨h1, w, hS, hD, hu⟩
    unfold Oper.wp
    generalize (execOp a.eval oj).run P w = r at h3 hposs ⊢
    cases r with
    | ok n w' =>
      cases n <;> simp only [heldUpon] at h3 <;> simp only [Oper.upon]
      case value v => exact hK v w' h3.1 h3.2.1 h3.2.2 (hposs v rfl)
      case skip => exact hK undef w' h3.1 h3.2.1 h3.2.2 (hposs undef rfl)
      case enter f args =>
        refine h3.mono fun e w'' ⟨v, he, hk⟩ => ?_
        subst he
        exact hK v w'' hk.1 hk.2.1 hk.2.2 (hposs v trivial)
    | halt x w' => simp only [heldUpon] at h3
  · simp only [h1, Bool.false_eq_true, if_false]
    exact hK undef w (h2 w hS) hS (Below.refl _ _) (.inr ⟨h1, rfl⟩)

theorem wpAny_of_V {n g m : Nat} {L : Array Bool → Act → Prop} {Q : Exit → Act → World → Prop} (hdis : distinctB ops = true) (stab : ∀ k v w w', Below w.heap.size w w' → F k v w → F k v w') (hroom : roomy ops m)
    (hL : ∀ listed a, L listed a → ∀ w, S w → FactsL ops F listed a w → wpAny P md ops Q g listed a w) :
    ∀ (f : Nat) (listed : Array Bool) (a : Act), m ≤ a.tmps.size → wpAnyV P md ops S F n L f listed a → ∀ w, S w → FactsL ops F listed a w → wpAny P md ops Q (f + g) listed a w
  | 0, listed, a, _, h, w, hS, hf => by rw [Nat.zero_add]; exact hL _ _ h w hS hf
  | f + 1, listed, a, hm, h, w, hS, hf => by
    rw [show f + 1 + g = (f + g) + 1 by omega]
    refine ⟨fun h0 => absurd h0 h.1, fun j hj => ?_⟩
    obtain ⟨hjn, h2⟩ := h.2 j hj
    obtain ⟨_, oj, hoj, hall⟩ := mem_ready.1 hj
    obtain ⟨hy, h3⟩ := h2 oj hoj
    have hD : FactsD ops md F oj a w := fun e he hb oi d hoi hd => hf e.on oi d hoi hd (hall e he hb)
    refine wpOp_of_held hoj hy hS hD fun v w' hF hS' hb hp => ?_
    have hf' := FactsL.put hdis hoj stab (fun d hd => Nat.lt_of_lt_of_le (hroom j oj d hoj hd) hm) hf hb hF
    exact wpAny_of_V hdis stab hroom hL f _ _ (by rw [put_size]; exact hm) (h3 v hp ⟨w', hS', hf'⟩) w' hS' hf'

/-- what is owed of a value and a world: what F says, S, and that nothing that was there has turned. -/
def Fine (S : World → Prop) (F : Nat → Value → World → Prop) (k : Nat) (v : Value) (w w' : World) : Prop := F k v w' ∧ S w' ∧ Below w.heap.size w w'
/-- what is known of a value behind a call. -/
def Known (S : World → Prop) (F : Nat → Value → World → Prop) (k : Nat) (dst : Option Tmp) (v : Value) : Prop := dst.isSome = true → ∃ w, S w ∧ F k v w
theorem Known.out {d : Tmp} {k : Nat} {v : Value} (h : Known S F k (some d) v) : ∃ w, S w ∧ F k v w := h rfl

/-- one operation, in the order of the text. -/
def stepUpon (P : Program) (S : World → Prop) (F : Nat → Value → World → Prop) (k : Nat) (o : Oper) (a : Act) (w : World) (K : Act → Prop) : Result Next → Prop
  | .ok (.value v) w' => Fine S F k v w w' ∧ K (a.put o.dst v)
  | .ok .skip w' => Fine S F k undef w w' ∧ K (a.put o.dst undef)
  | .ok (.enter f args) w' => Calls P f args w' (fun e w'' => ∃ v, e = .returned v ∧ Fine S F k v w w'') ∧ ∀ v, Known S F k o.dst v → K (a.put o.dst v)
  | _ => False

/-- the operations in the order of the text, each in every world of S. -/
def relSeq (P : Program) (ops : Array Oper) (md : Region.Mode) (S : World → Prop) (F : Nat → Value → World → Prop) (Lq : Act → Prop) : Nat → List Oper → Act → Prop
  | _, [], a => Lq a
  | k, o :: l, a =>
    if Region.wanted o (yielded ops a.tmps) then ∀ w, S w → FactsD ops md F o a w → stepUpon P S F k o a w (relSeq P ops md S F Lq (k + 1) l) ((execOp a.eval o).run P w)
    else (∀ w, S w → F k undef w) ∧ relSeq P ops md S F Lq (k + 1) l (a.put o.dst undef)

theorem relSeq_nil {Lq : Act → Prop} {k : Nat} {a : Act} (h : Lq a) : relSeq P ops md S F Lq k [] a := h
theorem relSeq_step {Lq : Act → Prop} {k : Nat} {a : Act} {o : Oper} {l : List Oper}
    (h : ∀ K : Act → Prop, (∀ a, relSeq P ops md S F Lq (k + 1) l a → K a) → if Region.wanted o (yielded ops a.tmps) then ∀ w, S w → FactsD ops md F o a w → stepUpon P S F k o a w K ((execOp a.eval o).run P w) else (∀ w, S w → F k undef w) ∧ K (a.put o.dst undef)) :
    relSeq P ops md S F Lq k (o :: l) a := h _ (fun _ h => h)

theorem heldAt_of_step {K : Act → Prop} {k : Nat} {o : Oper} {a : Act} (h : if Region.wanted o (yielded ops a.tmps) then ∀ w, S w → FactsD ops md F o a w → stepUpon P S F k o a w K ((execOp a.eval o).run P w) else (∀ w, S w → F k undef w) ∧ K (a.put o.dst undef)) :
    HeldAt P ops md S F k o a ∧ ∀ v, Poss P ops md S F o a v → (o.dst.isSome = true → ∃ w, S w ∧ F k v w) → K (a.put o.dst v) := by
  by_cases hw : Region.wanted o (yielded ops a.tmps) = true
  · simp only [hw, if_true] at h
    refine ⟨.inl ⟨hw, fun w hS hD => ?_⟩, fun v hv hsat => ?_⟩
    · have h1 := h w hS hD
      generalize (execOp a.eval o).run P w = r at h1 ⊢
      cases r with
      | ok n w' => cases n <;> simp only [stepUpon] at h1 <;> simp only [heldUpon] <;> exact h1.1
      | halt x w' => simp only [stepUpon] at h1
    · rcases hv with ⟨_, w, hS, hD, hp⟩ | ⟨h0, _⟩
      · have h1 := h w hS hD
        generalize (execOp a.eval o).run P w = r at h1 hp
        cases r with
        | ok n w' =>
          cases n <;> simp only [stepUpon] at h1 <;> simp only [possUpon] at hp
          case value u => subst hp; exact h1.2
          case skip => subst hp; exact h1.2
          case enter f args => exact h1.2 v hsat
        | halt x w' => simp only [stepUpon] at h1
      · rw [hw] at h0; cases h0
  · have hw' : Region.wanted o (yielded ops a.tmps) = false := by simpa using hw
    rw [if_neg hw] at h
    refine ⟨.inr ⟨hw', h.1⟩, fun v hv _ => ?_⟩
    rcases hv with ⟨h0, _⟩ | ⟨_, hv⟩
    · rw [hw'] at h0; cases h0
    · subst hv; exact h.2

theorem wpAnyV_lex {n g m : Nat} {Lq : Act → Prop} (hsel : Region.noSelect ops = true) (hs : Region.sinkB md ops n = true) (hc : Region.chainB md ops n = true) (hn : n < ops.size) (hdis : distinctB ops = true)
    (stab : ∀ k v w w', Below w.heap.size w w' → F k v w → F k v w') (hroom : roomy ops m) :
    ∀ (l : List Oper) (k : Nat) (listed : Array Bool) (a : Act), (∀ j, j < l.length → l[j]? = ops[k + j]?) → k + l.length = n → HeadInv md ops n listed → m ≤ a.tmps.size →
    Region.lexHead md ops g l.length k listed = true → (∃ w, S w ∧ FactsL ops F listed a w) → relSeq P ops md S F Lq k l a →
    wpAnyV P md ops S F n (fun listed' a' => Region.seqB md ops g n listed' = true ∧ HeadInv md ops n listed' ∧ Lq a') l.length listed a
  | [], k, listed, a, _, hk, inv, _, hB, _, h => by
    have : k = n := by simpa using hk
    subst this
    exact ⟨by simpa [Region.lexHead] using hB, inv, h⟩
  | o :: l, k, listed, a, hl, hk, inv, hm, hB, hsat, h => by
    have h0 : ops[k]? = some o := by simpa using (hl 0 (by simp)).symm
    simp only [List.length_cons, Region.lexHead, Bool.and_eq_true] at hB
    obtain ⟨⟨hr, hf⟩, hB'⟩ := hB
    have hkn : k < n := by simp only [List.length_cons] at hk; omega
    have hr' : k ∈ Region.ready md ops listed := by simpa using hr
    obtain ⟨hy, hK⟩ := heldAt_of_step (show if Region.wanted o (yielded ops a.tmps) then _ else _ from h)
    refine wpAnyV_first h0 (Region.noSelect_spec hsel) hs hc hn hkn hdis stab (fun listed' a' hL => seqB_ready hL.1) m hroom l.length listed a inv hm (Region.free_spec h0 hf) hr' hsat hy (fun v hv hs2 => ?_)
    refine wpAnyV_lex hsel hs hc hn hdis stab hroom l (k + 1) _ _ (fun j hj => by have := hl (j + 1) (by simp; omega); simpa [Nat.add_assoc, Nat.add_comm 1 j] using this) (by simp only [List.length_cons] at hk; omega) (inv.set hr' hkn) (by rw [put_size]; exact hm) hB' hs2 ?_
    refine hK v hv ?_
    obtain ⟨w, hS, hf2⟩ := hs2
    intro hsome
    obtain ⟨d, hd⟩ := Option.isSome_iff_exists.1 hsome
    refine ⟨w, hS, ?_⟩
    have hlt : d < a.tmps.size := Nat.lt_of_lt_of_le (hroom k o d h0 hd) hm
    have := hf2 k o d h0 hd (by
      have hks : k < listed.size := by rw [inv.size]; exact (Array.getElem?_eq_some_iff.1 h0).1
      simp [hks])
    rwa [hd, put_getD_same hlt] at this

/-- where every slot lies. -/
def roomyB (ops : Array Oper) (m : Nat) : Bool := ops.all fun o => match o.dst with | some d => decide (d < m) | none => true
theorem roomy_of {m : Nat} (h : roomyB ops m = true) : roomy ops m := by
  intro i o d hi hd
  have := (Array.all_eq_true_iff_forall_mem.1 h) o (Array.mem_of_getElem? hi)
  rw [hd] at this
  simpa using this
theorem roomy_mono {m m' : Nat} (h : roomy ops m) (hm : m ≤ m') : roomy ops m' := fun i o d hi hd => Nat.lt_of_lt_of_le (h i o d hi hd) hm

/-- **THE LAW**: the first n operations in the order of the text, each in every world of S; the others, in their forced order, in whatever world of S where all that F says holds. -/
theorem wpAny_held_relM (md : Region.Mode) {Q : Exit → Act → World → Prop} {a : Act} {w : World} {l : List Oper} (n : Nat) (S : World → Prop) (F : Nat → Value → World → Prop)
    (hB : Region.lexTailB md l.toArray n = true) (hdis : distinctB l.toArray = true) (hroom : roomyB l.toArray a.tmps.size = true)
    (stab : ∀ k v w w', Below w.heap.size w w' → F k v w → F k v w') (hS : S w.drew)
    (h : relSeq P l.toArray md S F (fun a' => ∀ listed w', S w' → FactsL l.toArray F listed a' w' → (∀ k, k < n → listed.getD k false = true) → wpList P l.toArray Q (l.drop n) a' w') 0 (l.take n) a) : wpAny P md l.toArray Q l.toArray.size (Array.replicate l.toArray.size false) a w.drew := by
  simp only [Region.lexTailB, Bool.and_eq_true, decide_eq_true_eq] at hB
  obtain ⟨⟨⟨⟨hsel, hn⟩, hs⟩, hc⟩, hlex⟩ := hB
  have hn' : n < l.length := by simpa using hn
  have htl : (l.take n).length = n := by simp; omega
  have hdl : (l.drop n).length = l.toArray.size - n := by simp
  have inv0 : HeadInv md l.toArray n (Array.replicate l.toArray.size false) :=
    ⟨by simp, fun j oj _ hl => (by rw [getD_replicate_false] at hl; cases hl), fun t _ ht => getD_in (by simpa using ht) (getD_replicate_false _ _)⟩
  have H := wpAnyV_lex (md := md) (g := l.toArray.size - n) hsel hs hc hn hdis stab (roomy_of hroom) (l.take n) 0 _ a (fun j hj => by
    have hj' : j < n := by rw [htl] at hj; exact hj
    simp [hj']) (by simpa using htl) inv0 (Nat.le_refl _) (by rw [htl]; exact hlex) ⟨w.drew, hS, fun i o d _ _ hl => by rw [getD_replicate_false] at hl; cases hl⟩ h
  have := wpAny_of_V (Q := Q) (g := l.toArray.size - n) hdis stab (roomy_of hroom) (fun listed a' hL w' hS' hf => by
    obtain ⟨h1, h2, h3⟩ := hL
    have hall : ∀ k, k < n → listed.getD k false = true := fun k hk => by
      cases hl : listed.getD k false with
      | true => rfl
      | false =>
        exfalso
        have hks : k < listed.size := by rw [h2.size]; omega
        have hready : n ∈ Region.ready md l.toArray listed := by
          obtain ⟨g, hg⟩ : ∃ g, l.toArray.size - n = g + 1 := ⟨l.toArray.size - n - 1, by omega⟩
          rw [hg] at h1
          simp only [Region.seqB, Bool.and_eq_true, decide_eq_true_eq] at h1
          rw [h1.1]; simp
        exact tail_waits hs hc hn h2 _ k rfl hk (getD_in hks hl) n (Nat.le_refl _) hready
    have := wpAny_of_seq (md := md) (Q' := Q) (l.drop n) n listed a' w' (fun j => by simp [List.getElem?_drop]) (by rw [hdl]; exact h1) (h3 listed w' hS' hf hall)
    rwa [hdl] at this) _ _ _ (Nat.le_refl _) H w.drew hS (fun i o d _ _ hl => by rw [getD_replicate_false] at hl; cases hl)
  rw [htl, show n + (l.toArray.size - n) = l.toArray.size by omega] at this
  exact this

theorem wpAny_held_rel {Q : Exit → Act → World → Prop} {a : Act} {w : World} {l : List Oper} (n : Nat) (S : World → Prop) (F : Nat → Value → World → Prop)
    (hB : Region.lexTailB .any l.toArray n = true) (hdis : distinctB l.toArray = true) (hroom : roomyB l.toArray a.tmps.size = true)
    (stab : ∀ k v w w', Below w.heap.size w w' → F k v w → F k v w') (hS : S w.drew)
    (h : relSeq P l.toArray .any S F (fun a' => ∀ listed w', S w' → FactsL l.toArray F listed a' w' → (∀ k, k < n → listed.getD k false = true) → wpList P l.toArray Q (l.drop n) a' w') 0 (l.take n) a) : wpAny P .any l.toArray Q l.toArray.size (Array.replicate l.toArray.size false) a w.drew :=
  wpAny_held_relM .any n S F hB hdis hroom stab hS h

theorem wp_region_held_rel {id : Nat} {Q : Exit → Act → World → Prop} {a : Act} {w : World} {l : List Oper} (n : Nat) (S : World → Prop) (F : Nat → Value → World → Prop)
    (hm : P.follows .mixedOrders = true) (hB : Region.lexTailB .any l.toArray n = true) (hdis : distinctB l.toArray = true) (hroom : roomyB l.toArray a.tmps.size = true)
    (stab : ∀ k v w w', Below w.heap.size w w' → F k v w → F k v w') (hS : S w.drew)
    (h : relSeq P l.toArray .any S F (fun a' => ∀ listed w', S w' → FactsL l.toArray F listed a' w' → (∀ k, k < n → listed.getD k false = true) → wpList P l.toArray Q (l.drop n) a' w') 0 (l.take n) a) : (Code.region id l.toArray true).wp P Q a w :=
  wp_region_any hm (wpAny_held_rel n S F hB hdis hroom stab hS h)

/-! The same in a round of a loop over a function. -/
def noDefer (ops : Array Oper) : Bool := ops.all fun o => match o.op with | .defer _ => false | _ => true

theorem wpOpsIn_of_wpOps {Q : Exit → Act → World → Prop} {n l0 : Nat} (hnd : noDefer ops = true) (hQ : ∀ a w, ¬ Q .outgrown a w) :
    ∀ (l : List Nat) (a : Act) (w : World), wpOps P ops Q l a w → wpOpsIn (Fence.wide.inRound l0) n P ops Q l a w
  | [], a, w, h => h
  | i :: rest, a, w, h => by
    simp only [wpOps] at h
    simp only [wpOpsIn]
    cases ho : ops[i]? with
    | none => simp only [ho] at h ⊢; exact wpOpsIn_of_wpOps hnd hQ rest a w h
    | some o =>
      simp only [ho] at h ⊢
      have hno : ∀ c, o.op ≠ .defer c := fun c e => by
        have := (Array.all_eq_true_iff_forall_mem.1 hnd) o (Array.mem_of_getElem? ho)
        rw [e] at this
        cases this
      by_cases hw : Region.wanted o (yielded ops a.tmps) = true
      · simp only [hw, if_true] at h ⊢
        rcases h with h | ⟨_, a0, w0, h0⟩
        case inr => exact absurd h0 (hQ _ _)
        refine ⟨fun _ _ => trivial, ?_⟩
        have hsem : o.semAt (Fence.wide.inRound l0).round a.eval = execOp a.eval o := by
          show o.semAt (some l0) a.eval = _
          unfold Oper.semAt
          split
          · rename_i l c _ hd
            exact absurd hd (hno c)
          · rfl
        rw [hsem]
        unfold Oper.wp at h
        generalize (execOp a.eval o).run P w = r at h ⊢
        cases r with
        | ok x w' =>
          cases x <;> simp only [Oper.upon] at h <;> simp only [Oper.uponIn]
          case value v => exact wpOpsIn_of_wpOps hnd hQ rest _ _ h
          case skip => exact wpOpsIn_of_wpOps hnd hQ rest _ _ h
          case defer d => exact wpOpsIn_of_wpOps hnd hQ rest _ _ h
          case enter f args =>
            refine ⟨fun hd => (by cases hd), CallsIn.inRound l0 (callsIn_wide.2 (h.mono fun e w'' he => ?_))⟩
            cases e with
            | returned v => exact wpOpsIn_of_wpOps hnd hQ rest _ _ he
            | panicked c => exact he
            | outgrown => exact he
          case row row args =>
            refine ⟨fun hd => (by cases hd), fun c cs _ => ?_⟩
            obtain ⟨v, w'', hr, hs⟩ := h c cs
            exact ⟨v, w'', wpOpsIn_of_wpOps hnd hQ rest _ _ hr, stepsIn_wide.2 hs⟩
        | halt x w' =>
          cases x <;> simp only [Oper.upon] at h <;> simp only [Oper.uponIn]
          case panic v => exact h
      · simp only [hw] at h ⊢
        exact ⟨fun _ _ => trivial, wpOpsIn_of_wpOps hnd hQ rest _ _ h⟩

theorem wpIn_region_of_any {id n l0 : Nat} {Q : Exit → Act → World → Prop} {a : Act} {w : World} {l : List Oper} (hm : P.follows .mixedOrders = true) (hnd : noDefer l.toArray = true) (hQ : ∀ a w, ¬ Q .outgrown a w)
    (h : wpAny P .any l.toArray Q l.toArray.size (Array.replicate l.toArray.size false) a w.drew) : (Code.region id l.toArray true).wpIn (Fence.wide.inRound l0) n P Q a w :=
  wpIn_region_draw fun t => by
    simp only [Region.schedule, hm, Bool.true_or, if_true]
    exact wpOpsIn_of_wpOps hnd hQ _ _ _ (wpAny_sound l.toArray.size t _ a _ h)

theorem wpIn_region_held_rel {id m l0 : Nat} {Q : Exit → Act → World → Prop} {a : Act} {w : World} {l : List Oper} (n : Nat) (S : World → Prop) (F : Nat → Value → World → Prop)
    (hm : P.follows .mixedOrders = true) (hB : Region.lexTailB .any l.toArray n = true) (hdis : distinctB l.toArray = true) (hroom : roomyB l.toArray a.tmps.size = true) (hnd : noDefer l.toArray = true) (hQ : ∀ a w, ¬ Q .outgrown a w)
    (stab : ∀ k v w w', Below w.heap.size w w' → F k v w → F k v w') (hS : S w.drew)
    (h : relSeq P l.toArray .any S F (fun a' => ∀ listed w', S w' → FactsL l.toArray F listed a' w' → (∀ k, k < n → listed.getD k false = true) → wpList P l.toArray Q (l.drop n) a' w') 0 (l.take n) a) : (Code.region id l.toArray true).wpIn (Fence.wide.inRound l0) m P Q a w :=
  wpIn_region_of_any hm hnd hQ (wpAny_held_rel n S F hB hdis hroom stab hS h)

theorem relSeq_on {Lq : Act → Prop} {k : Nat} {a : Act} {o : Oper} {l : List Oper} (hw : Region.wanted o (yielded ops a.tmps) = true)
    (h : ∀ K : Act → Prop, (∀ a, relSeq P ops md S F Lq (k + 1) l a → K a) → ∀ w, S w → FactsD ops md F o a w → stepUpon P S F k o a w K ((execOp a.eval o).run P w)) :
    relSeq P ops md S F Lq k (o :: l) a := relSeq_step fun K hK => by rw [if_pos hw]; exact h K hK
theorem relSeq_off {Lq : Act → Prop} {k : Nat} {a : Act} {o : Oper} {l : List Oper} (hw : Region.wanted o (yielded ops a.tmps) = false)
    (hF : ∀ w, S w → F k undef w) (h : ∀ K : Act → Prop, (∀ a, relSeq P ops md S F Lq (k + 1) l a → K a) → K (a.put o.dst undef)) :
    relSeq P ops md S F Lq k (o :: l) a := relSeq_step fun K hK => by rw [if_neg (by rw [hw]; simp)]; exact ⟨hF, h K hK⟩

attribute [go_sem] stepUpon
end
end Go.Proofs.YtoiaecfiinkmjaaDoor
