/- ident.all over ident.Rising's test; ident.Rising: its contract. -/
import Derived.Test.YtoiaecfiinkmjaaDoorRising
namespace Go.Proofs.YtoiaecfiinkmjaaDoor
open Go.RowKit Go.Shelf Go.Sort
attribute [local go_sem] Oper.semAt_some

theorem kept_ofb {W W' : World} (h : Below W.heap.size W W') : KeepsOthers W W' := ⟨h.size, fun k _ hk _ => by rw [h.block k (Array.getElem?_eq_some_iff.1 hk).1]; exact hk⟩

set_option maxHeartbeats 1000000 in
set_option maxRecDepth 100000 in
theorem all_some (a : Option Addr) (n c : Nat) (L : List Idn) (w : World) (hS : RowS encId 3 w a n L) :
    Calls Tryd.prog 49 #[.slice a n c, .func (.func 50) #[] #[]] w fun e w' =>
      (∃ xs : List Nat, xs = List.range' 1 (L.length - 1) ∧ (∀ x ∈ xs, lessId (atI L (x - 1)) (atI L x) = true) ∧ Ret (.bool true) w e w') ∨
      (∃ k x, k ≤ L.length - 1 ∧ x ∈ List.range' 1 k ∧ lessId (atI L (x - 1)) (atI L x) = false ∧ Ret (.bool false) w e w') := by
  refine (callsIn_wide (n := 10)).1 ?_
  refine callsIn_of_wp_marks Tryd.func49 rfl trivial ?_ rfl
  refine wpIn_wide.2 ?_
  simp only [Tryd.ntmps49, List.size_toArray, List.length_cons, List.length_nil, Nat.reduceAdd, Nat.reduceSub, Array.replicate_succ, Array.replicate_zero, List.push_toArray, List.append_toArray, List.nil_append, List.cons_append]
  go_wp2_with (go_at_call 59; refine (pairs_any _ _ _ _).mono ?_; rintro e w' ⟨rfl, rfl⟩)
  have bF := ((Boxed.new w 63 (.func (.func 50) #[] #[])).alloc (.cells #[.bool false] 4)).alloc (.cells #[.slice a n c] 22)
  have bR := (Boxed.new (w.alloc (.cells #[.func (.func 50) #[] #[]] 63)) 4 (.bool false)).alloc (.cells #[.slice a n c] 22)
  have bS := Boxed.new ((w.alloc (.cells #[.func (.func 50) #[] #[]] 63)).alloc (.cells #[.bool false] 4)) 22 (.slice a n c)
  simp only [World.size_alloc] at bR bS
  have hB0 : Below w.heap.size w (((w.alloc (.cells #[.func (.func 50) #[] #[]] 63)).alloc (.cells #[.bool false] 4)).alloc (.cells #[.slice a n c] 22)) := (((Below.refl _ w).alloc (Nat.le_refl _) _).alloc (by simp) _).alloc (by simp; omega) _
  have hsz : (((w.alloc (.cells #[.func (.func 50) #[] #[]] 63)).alloc (.cells #[.bool false] 4)).alloc (.cells #[.slice a n c] 22)).heap.size = w.heap.size + 3 := by simp
  obtain ⟨W0, hW0⟩ : ∃ W0, ((w.alloc (.cells #[.func (.func 50) #[] #[]] 63)).alloc (.cells #[.bool false] 4)).alloc (.cells #[.slice a n c] 22) = W0 := ⟨_, rfl⟩
  rw [hW0] at bF bR bS hB0 hsz ⊢
  clear hW0
  refine wpIn_wide.1 (wpIn_rangeFunc_ownH (n := 10) rfl (by omega) (gf := 72) (lb := #[.pointer (some ⟨w.heap.size + 1 + 1, 0, none⟩)]) rfl trivial (enters_of Tryd.func72 (by kernel_rfl) rfl)
    (pairs1_stops (10 - 1) (by omega) (w.heap.size + 1 + 1) n c a L W0 bS.cell (by omega) (hS.below hB0)) (fun h k => h.trans k) (fun W l o o' hl ho _ _ => ⟨rfl, rfl, rfl, by simp, fun k hk => World.putObj_heap_other (by omega)⟩) (Below.refl _ _) (fun _ => rfl)
    (fun pre W => (((∀ x ∈ pre, lessId (atI L (x - 1)) (atI L x) = true) ∧ Boxed W (w.heap.size + 1) 4 (.bool false)) ∧ Boxed W w.heap.size 63 (.func (.func 50) #[] #[]) ∧ Boxed W (w.heap.size + 1 + 1) 22 (.slice a n c)) ∧ Below w.heap.size w W)
    (fun e pre W => (e = .ret ∧ (∃ x ∈ pre, lessId (atI L (x - 1)) (atI L x) = false) ∧ Boxed W (w.heap.size + 1) 4 (.bool false)) ∧ Below w.heap.size w W)
    (OwnFrom.and (OwnFrom.and (OwnFrom.and (ownFrom_pure _ _) (Own.from (boxed_own _ _ _) _)) (OwnFrom.and (Own.from (boxed_own _ _ _) _) (Own.from (boxed_own _ _ _) _))) (ownFrom_below (Nat.le_refl _) (by omega)))
    (fun e => OwnFrom.and (OwnFrom.and (ownFrom_pure _ _) (OwnFrom.and (ownFrom_pure _ _) (Own.from (boxed_own _ _ _) _))) (ownFrom_below (Nat.le_refl _) (by omega)))
    ⟨⟨⟨by simp, bR⟩, bF, bS⟩, hB0⟩
    (fun x a' W => ∃ p q, (w.heap.size + 1 + 1 < p ∧ w.heap.size + 1 + 1 < q) ∧ (Blk W p 27 (encId (atI L (x - 1))).toArray ∧ Blk W q 27 (encId (atI L x)).toArray) ∧ a' = { tmps := #[.slice a n c, .func (.func 50) #[] #[], undef, .pointer (some ⟨w.heap.size, 0, none⟩), .pointer (some ⟨w.heap.size + 1, 0, none⟩), .pointer (some ⟨p, 0, none⟩), .pointer (some ⟨q, 0, none⟩), .slice a n c, .func (.func 72) #[] #[.pointer (some ⟨w.heap.size + 1 + 1, 0, none⟩)], (atI L (x - 1)).val, (atI L x).val, undef, undef, undef, undef, undef], defers := [] })
    (fun x a' _ X Y row hs hg hr => by
      obtain ⟨p, q, h1, ⟨h2, h3⟩, h4⟩ := hs
      exact ⟨p, q, h1, ⟨Blk.own p 27 (fun (_ : Unit) => (encId (atI L (x - 1))).toArray) () X Y row h2 hg (fun r e => (hr r e).2), Blk.own q 27 (fun (_ : Unit) => (encId (atI L x)).toArray) () X Y row h3 hg (fun r e => (hr r e).2)⟩, h4⟩)
    ?assign ?body ?done ?stop)
  case assign =>
    rintro l pre x W K ⟨⟨⟨hp, b1⟩, b2, b3⟩, hB1⟩ hK
    gi_wp2
    have hl3 := b3.lt
    exact hK _ _ ((KeepsFrom.trans ((KeepsOthers.alloc _ _).from _) ((KeepsOthers.alloc _ _).from _))) (((Below.refl _ W).alloc (by omega) _).alloc (by simp; omega) _)
      ⟨⟨⟨hp, (b1.alloc _).alloc _⟩, (b2.alloc _).alloc _, (b3.alloc _).alloc _⟩, (hB1.alloc hB1.size _).alloc (by simp; omega) _⟩
      ⟨W.heap.size, W.heap.size + 1, ⟨by omega, by omega⟩, ⟨(Blk.new W 27 _).alloc _, by
        have := Blk.new (W.alloc (.cells (encId (atI L (x - 1))).toArray 27)) 27 (encId (atI L x)).toArray
        rw [World.size_alloc] at this; exact this⟩, rfl⟩
  case body =>
    rintro l pre x a' W hl ⟨r, hr⟩ ⟨⟨⟨hp, b1⟩, b2, b3⟩, hB1⟩ ⟨p, q, ⟨h1, h2⟩, ⟨k1, k2⟩, rfl⟩ hlt
    have cF := b2.cell
    have c0 := k1.cell 0
    have c1 := k1.cell 1
    have c2 := k1.cell 2
    have d0 := k2.cell 0
    have d1 := k2.cell 1
    have d2 := k2.cell 2
    simp [encId] at c0 c1 c2 d0 d1 d2
    have HC := Lib.hid (fun W => Rising1_any (atI L (x - 1)) (atI L x) W)
    have hl3 := b3.lt
    cases hless : lessId (atI L (x - 1)) (atI L x) with
    | true =>
      rw [hless] at HC
      have HLS := Lib.hid hless
      gi_wp2_with fail
      refine ⟨trivial, (CallsIn.inRound l (callsIn_wide.2 (HC.out _))).mono ?_⟩
      rintro e W2 ⟨rfl, hb⟩
      gi_wp2
      exact ⟨(kept_ofb hb).from _, hb.mono (by omega), ⟨⟨fun y hy => by
        rcases List.mem_append.1 hy with h | h
        · exact hp y h
        · obtain rfl : y = x := by simpa using h
          exact HLS.out, (hb.block _ b1.lt).trans b1⟩, (hb.block _ b2.lt).trans b2, (hb.block _ b3.lt).trans b3⟩, hB1.trans (hb.mono hB1.size)⟩
    | false =>
      rw [hless] at HC
      have HLS := Lib.hid hless
      gi_wp2_with fail
      refine ⟨trivial, (CallsIn.inRound l (callsIn_wide.2 (HC.out _))).mono ?_⟩
      rintro e W2 ⟨rfl, hb⟩
      have B1 : Boxed W2 (w.heap.size + 1) 4 (.bool false) := (hb.block _ b1.lt).trans b1
      have g0 := B1.cell
      have g1 := B1.frozen
      gi_wp2
      exact ⟨((kept_ofb hb).from _).trans ((KeepsOthers.setCell _ _ _).from _), ⟨rfl, ⟨x, by simp, HLS.out⟩, B1.set _⟩, (hB1.trans (hb.mono hB1.size)).setCell (p := ⟨w.heap.size + 1, 0, none⟩) (by simp) _⟩
  case done =>
    rintro D ys W hD rfl ⟨⟨⟨hp, b1⟩, b2, b3⟩, hB1⟩ hK
    have g0 := b1.cell
    have g1 := b1.frozen
    go_wp2
    have hK' : (W.setCell ⟨w.heap.size + 1, 0, none⟩ (.bool true)).heap[D]? = some (.deferred (some [])) := (KeepsOthers.setCell _ _ _).same D _ hK rfl
    have hc' := put_cell hK' (World.cell?_setCell_same' W ⟨w.heap.size + 1, 0, none⟩ (.bool true) (by rw [g0]; rfl))
    refine leavesM_col (v := .bool true) hK' (by simp [results, Tryd.results49, go_sem, hc']) (.inl ⟨_, rfl, hp, rfl, put_below (hB1.setCell (p := ⟨w.heap.size + 1, 0, none⟩) (by simp) _) (by omega) hK'⟩)
  case stop =>
    rintro D e pre W hD ⟨k, hk, rfl⟩ ⟨⟨rfl, ⟨x, hx1, hx2⟩, b1⟩, hB1⟩ hK
    refine wpIn_wide.2 ?_
    have g0 := b1.cell
    go_wp2
    have hc' := put_cell hK g0
    refine leavesM_col (v := .bool false) hK (by simp [results, Tryd.results49, go_sem, hc']) (.inr ⟨k, x, hk, hx1, hx2, rfl, put_below hB1 (by omega) hK⟩)

/-- does each stand ahead of the next one? -/
def riseB (L : List Idn) : Bool := (List.range' 1 (L.length - 1)).all fun x => lessId (atI L (x - 1)) (atI L x)
theorem all_any (a : Option Addr) (n c : Nat) (L : List Idn) (w : World) (hS : RowS encId 3 w a n L) :
    Calls Tryd.prog 49 #[.slice a n c, .func (.func 50) #[] #[]] w (Ret (.bool (riseB L)) w) := by
  refine (all_some a n c L w hS).mono ?_
  rintro e w' (⟨xs, rfl, hx, hr⟩ | ⟨k, x, hk, hx, hx2, hr⟩)
  · rw [show riseB L = true from by unfold riseB; rw [List.all_eq_true]; exact hx]; exact hr
  · rw [show riseB L = false from by
      unfold riseB
      rw [List.all_eq_false]
      refine ⟨x, ?_, by rw [hx2]; simp⟩
      simp only [List.mem_range'_1] at hx ⊢
      omega]; exact hr
set_option maxHeartbeats 400000 in
theorem Rising_any (a : Option Addr) (n c : Nat) (L : List Idn) (w : World) (hS : RowS encId 3 w a n L) :
    Calls Tryd.prog 33 #[.slice a n c] w (Ret (.bool (riseB L)) w) := by
  have HC := Lib.hid (fun W h => all_any a n c L W h)
  have HS := Lib.hid hS
  clear hS
  go_enter Tryd.func33, Tryd.ntmps33
  go_wp2_with fail
  refine (HC.out _ HS.out).mono ?_
  rintro e W ⟨rfl, hb⟩
  have HB := Lib.hid hb
  clear hb
  go_wp2_with fail
  go_ret
  exact ⟨rfl, HB.out⟩
end Go.Proofs.YtoiaecfiinkmjaaDoor
