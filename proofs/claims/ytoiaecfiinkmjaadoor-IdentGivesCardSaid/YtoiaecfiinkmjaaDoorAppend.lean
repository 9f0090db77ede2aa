/- append as one operation of a region that draws its order: what it leaves of other rows of the call's own. -/
import Derived.Test.YtoiaecfiinkmjaaDoorRely
namespace Go.Proofs.YtoiaecfiinkmjaaDoor
open Go.RowKit

/-- rows of no more than lim elements, of the call's own, are as they were. -/
def Keeps (E : TypeId) (size lim : Nat) (w w' : World) : Prop := ∀ base v n xs, n ≤ lim → w.ownsRow base E size v n xs → w'.ownsRow base E size v n xs
theorem Keeps.refl (E : TypeId) (size lim : Nat) (w : World) : Keeps E size lim w w := fun _ _ _ _ _ h => h
theorem Keeps.mono {E : TypeId} {size lim lim' : Nat} {w w' : World} (h : Keeps E size lim w w') (hl : lim' ≤ lim) : Keeps E size lim' w w' := fun b v n xs hn ho => h b v n xs (Nat.le_trans hn hl) ho
theorem keeps_of_blocks {E : TypeId} {size lim : Nat} {w w' : World} (h : ∀ k, k < w.heap.size → w'.heap[k]? = w.heap[k]?) : Keeps E size lim w w' := by
  intro base v n xs _ ho
  refine ⟨ho.1, ?_⟩
  rcases ho.2 with hn | ⟨g, cap, cur, rfl, hb, hgg, rest⟩
  · exact .inl hn
  · exact .inr ⟨g, cap, cur, rfl, hb, (h g (Array.getElem?_eq_some_iff.1 hgg).1).trans hgg, rest⟩
theorem Keeps.below {E : TypeId} {size lim : Nat} {w w' : World} (h : Below w.heap.size w w') : Keeps E size lim w w' := keeps_of_blocks h.block
theorem keeps_setRow {E : TypeId} {size n : Nat} {w : World} {g : Nat} {cur cur' : Array Value} (hg : w.heap[g]? = some (.cells cur E (0, 0))) (hs : cur'.size = cur.size) (hp : cur'.toList.take (n * size) = cur.toList.take (n * size)) : Keeps E size n w (w.setRow g cur') := by
  intro base v m xs hm ho
  refine ⟨ho.1, ?_⟩
  rcases ho.2 with hn | ⟨g', cap, cur0, rfl, hb, hgg, h1, h2, h3, h4⟩
  · exact .inl hn
  · by_cases he : g' = g
    · subst he
      have hc : cur0 = cur := by rw [hg] at hgg; simpa using hgg.symm
      subst hc
      refine .inr ⟨g', cap, cur', rfl, hb, setRow_heap w g' cur0 cur' E (0, 0) hg, h1, h2, by rw [hs]; exact h3, ?_⟩
      have hmn : m * size ≤ n * size := Nat.mul_le_mul_right _ hm
      rw [← h4, ← Nat.min_eq_left hmn, ← List.take_take, hp, List.take_take]
    · exact .inr ⟨g', cap, cur0, rfl, hb, (setRow_other w g g' cur' he).trans hgg, h1, h2, h3, h4⟩

/-- rows of the call's own that hold a head of zs are as they were. -/
def KeepsHead (E : TypeId) (size : Nat) (zs : List Value) (w w' : World) : Prop := ∀ base v n, n * size ≤ zs.length → w.ownsRow base E size v n (zs.take (n * size)) → w'.ownsRow base E size v n (zs.take (n * size))
theorem keepsHead_of_blocks {E : TypeId} {size : Nat} {zs : List Value} {w w' : World} (h : ∀ k, k < w.heap.size → w'.heap[k]? = w.heap[k]?) : KeepsHead E size zs w w' :=
  fun base v n _ ho => keeps_of_blocks (lim := n) h base v n _ (Nat.le_refl _) ho
theorem keepsHead_setRow {E : TypeId} {size : Nat} {zs : List Value} {w : World} {g : Nat} {cur cur' : Array Value} (hg : w.heap[g]? = some (.cells cur E (0, 0))) (hs : cur'.size = cur.size) (hp : cur'.toList.take zs.length = zs) : KeepsHead E size zs w (w.setRow g cur') := by
  intro base v m hm ho
  refine ⟨ho.1, ?_⟩
  rcases ho.2 with hn | ⟨g', cap, cur0, rfl, hb, hgg, h1, h2, h3, h4⟩
  · exact .inl hn
  · by_cases he : g' = g
    · subst he
      have hc : cur0 = cur := by rw [hg] at hgg; simpa using hgg.symm
      subst hc
      refine .inr ⟨g', cap, cur', rfl, hb, setRow_heap w g' cur0 cur' E (0, 0) hg, h1, h2, by rw [hs]; exact h3, ?_⟩
      rw [← Nat.min_eq_left hm, ← List.take_take, hp, Nat.min_eq_left hm]
    · exact .inr ⟨g', cap, cur0, rfl, hb, (setRow_other w g g' cur' he).trans hgg, h1, h2, h3, h4⟩

/-- 'run_append_own', and what stays. -/
theorem run_append_keeps {P : Program} (w : World) (base : Nat) (t ty e : TypeId) (i : TypeInfo) (z : Value) (size bytes : Nat) (ht : P.underlying t = some (.slice e)) (hi : P.info? e = some i) (hz : i.zero = some z)
    (hsize : i.size = size) (hby : i.bytes = bytes) (hzs : z.cells.size = size) (hsz : 0 < size)
    (v : Value) (n : Nat) (xs : List Value) (hown : w.ownsRow base e size v n xs)
    (a : Addr) (m c : Nat) (news : List Value) (hl : news.length = m * size) (hnews : ∀ j u, news[j]? = some u → w.cell? (a.add j) = some u) (h1 : ∀ u ∈ news, u.oneCell' = true)
    (h63 : n + m ≤ maxLen) (hbytes : (n + m) * bytes ≤ 140737488355328) (hbase : base ≤ w.heap.size) :
    ∃ v' w', (Builtin.append_ #[t, t] ty #[v, .slice (some a) m c]).run P w = .ok v' w' ∧ w'.ownsRow base e size v' (n + m) (xs ++ news) ∧ w.grownBy w' v.ownBlock ∧ Keeps e size n w w' ∧ KeepsHead e size (xs ++ news) w w' ∧
      (∀ p cap, v = .slice p n cap → cap < n + m ∨ m = 0 → ∀ lim, Keeps e size lim w w') := by
  obtain ⟨v', w', hrun, h2, h3, _⟩ := run_append_own w base t ty e i z size bytes ht hi hz hsize hby hzs hsz v n xs hown a m c news hl hnews h1 h63 hbytes hbase
  refine ⟨v', w', hrun, h2, h3, ?_⟩
  subst hsize
  subst hby
  have hsmall : n + m ≤ 9223372036854775807 := by simp only [maxLen] at h63; omega
  rcases hown.2 with ⟨rfl, rfl⟩ | ⟨g, cap, cur, rfl, hbg, hg, hnc, hcm, hcs, htake⟩
  · by_cases hm : m = 0
    · subst hm
      have hr : (Builtin.append_ #[t, t] ty #[.slice none 0 0, .slice (some a) 0 c]).run P w = .ok (.slice none 0 0) w := by
        simp [Builtin.append_, run_underlying ht, sizeOf, typeInfo, hi, Builtin.lenOf, Builtin.firstCells, loadCells, loadCellsFrom]
      rw [hr] at hrun
      cases hrun
      exact ⟨Keeps.refl _ _ _ _, fun _ _ _ _ h => h, fun _ _ _ _ _ => Keeps.refl _ _ _ _⟩
    · have hr := run_append_nil (P := P) w t ty e i z ht hi hz a m c news hl hnews (by omega) (by omega) (by have hb := hbytes; simp only [Nat.zero_add] at hb; omega)
      rw [hr] at hrun
      cases hrun
      exact ⟨keeps_of_blocks fun k hk => Below.heap_alloc w.drew _ k hk, keepsHead_of_blocks fun k hk => Below.heap_alloc w.drew _ k hk, fun _ _ _ _ _ => keeps_of_blocks fun k hk => Below.heap_alloc w.drew _ k hk⟩
  · by_cases hroom : n + m ≤ cap
    · have hfit : n * i.size + news.length ≤ cur.size := by rw [hl, hcs, ← Nat.add_mul]; exact Nat.mul_le_mul_right _ hroom
      have hr := run_append_room (P := P) w t ty e i ht hi g n cap cur hg a m c news hl hnews h1 hroom hfit
      rw [hr] at hrun
      cases hrun
      have hle : n * i.size ≤ cur.toList.length := by rw [Array.length_toList]; omega
      have hsz' : ((cur.toList.take (n * i.size) ++ news ++ cur.toList.drop (n * i.size + news.length)).toArray).size = cur.size := by
        simp only [List.size_toArray, List.length_append, List.length_take, List.length_drop, Array.length_toList]
        omega
      refine ⟨keeps_setRow hg hsz' ?_, keepsHead_setRow hg hsz' ?_, fun p cap' hv hor lim => ?_⟩
      · rw [List.append_assoc, List.take_left' (by rw [List.length_take]; omega)]
      · rw [htake]
        exact List.take_left
      · cases hv
        obtain rfl : m = 0 := by omega
        obtain rfl : news = [] := List.eq_nil_of_length_eq_zero (by simpa using hl)
        intro base v' m' xs' hm' ho'
        exact keeps_setRow (n := m') hg hsz' (by simp) base v' m' xs' (Nat.le_refl _) ho'
    · have holds : ∀ j u, xs[j]? = some u → w.cell? ((⟨g, 0, none⟩ : Addr).add j) = some u := hown.cells (g := g) rfl
      have hr := run_append_grow (P := P) w t ty e i z ht hi hz ⟨g, 0, none⟩ n cap xs hown.1 holds a m c news hl hnews (by omega) (by omega) (growslice_fits (by omega) hbytes)
      rw [hr] at hrun
      cases hrun
      exact ⟨keeps_of_blocks fun k hk => Below.heap_alloc w.drew _ k hk, keepsHead_of_blocks fun k hk => Below.heap_alloc w.drew _ k hk, fun _ _ _ _ _ => keeps_of_blocks fun k hk => Below.heap_alloc w.drew _ k hk⟩

/-- append, as one operation. -/
theorem Rely.step_append {P : Program} {S : World → Prop} {F : Nat → Value → World → Prop} {R : Nat → World → World → Prop} {k : Nat} {o : Oper} {a : Act} {w : World} {K : Act → Prop} (s x : Operand) (t : TypeId)
    (ho : o.op = .call { callee := .builtin .append, args := #[s, x], argTypes := #[t, t] }) (v vx : Value) (hs : a.eval s = v) (hx : a.eval x = vx) {v' : Value} {w' : World}
    (hr : (Builtin.append_ #[t, t] o.type #[v, vx]).run P w = .ok v' w') (hF : Rely.Fine S F R k v' w w') (hK : K (a.put o.dst v')) : Rely.stepUpon P S F R k o a w K ((execOp a.eval o).run P w) := by
  unfold execOp
  simp only [ho, resolve, invoke, builtin, Sem.run_bind, Sem.run_pure, Result.andThen_ok, List.map_toArray, List.map_cons, List.map_nil, hs, hx, hr]
  exact ⟨hF, hK⟩
/-- a store, as one operation. -/
theorem Rely.step_store {P : Program} {S : World → Prop} {F : Nat → Value → World → Prop} {R : Nat → World → World → Prop} {k : Nat} {o : Oper} {a : Act} {w : World} {K : Act → Prop} (ty : TypeId) (x y : Operand)
    (ho : o.op = .store ty x y) (ad : Addr) (v : Value) (hx : a.eval x = .pointer (some ad)) (hy : a.eval y = v) {w' : World}
    (hr : (storeVar ty ad v).run P w = .ok () w') (hF : Rely.Fine S F R k undef w w') (hK : K (a.put o.dst undef)) : Rely.stepUpon P S F R k o a w K ((execOp a.eval o).run P w) := by
  unfold execOp
  simp only [ho, hx, hy, Instr.storeAt, Instr.sureAddr, Sem.run_bind, Sem.run_pure, Result.andThen_ok, hr]
  exact ⟨hF, hK⟩
/-- who waits for whom, at whatever remove. -/
def Rely.lateC (md : Region.Mode) (ops : Array Oper) : Nat → Nat → Nat → Bool
  | 0, _, _ => false
  | f + 1, j, k => match ops[k]? with
    | none => false
    | some ok => ok.after.any fun e => Region.binds md e && decide (e.on < k) && (e.on == j || Rely.lateC md ops f j e.on)
/-- **THE LAW**, who waits for whom being reckoned. -/
theorem Rely.wp_region {P : Program} {id : Nat} {Q : Exit → Act → World → Prop} {a : Act} {w : World} {l : List Oper} (n : Nat) (S : World → Prop) (F : Nat → Value → World → Prop) (R : Nat → World → World → Prop)
    (hm : P.follows .mixedOrders = true) (hB : Region.lexTailB .any l.toArray n = true) (hdis : distinctB l.toArray = true) (hroom : roomyB l.toArray a.tmps.size = true)
    (hlate : Rely.lateOk .any l.toArray (Rely.lateC .any l.toArray n) = true) (nd : List Nat) (hnd : Rely.noDstB l.toArray nd = true) (hno : ∀ j ∈ nd, ∀ v w, F j v w → F j undef w) (stab : Rely.Outlasts F R (Rely.lateC .any l.toArray n)) (hS : S w.drew)
    (h : Rely.relSeq P l.toArray .any S F R (fun a' => ∀ listed w', S w' → Rely.FactsA l.toArray F listed a' w' → (∀ k, k < n → listed.getD k false = true) → wpList P l.toArray Q (l.drop n) a' w') 0 (l.take n) a) : (Code.region id l.toArray true).wp P Q a w :=
  Rely.wp_region_held_rel n S F R _ hm hB hdis hroom hlate nd hnd hno stab hS h
end Go.Proofs.YtoiaecfiinkmjaaDoor
