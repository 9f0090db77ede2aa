/- Ids, where no vector is in sight: their values, ident.Check, rows of them, slices.Equal and slices.Clone at them. -/
import Derived.Test.YtoiaecfiinkmjaaDoorKit
import Derived.Shelf.SlicesQ.Equal
import Derived.Laws.CopyOwn
import Derived.StillTailTactics
namespace Go.Proofs.YtoiaecfiinkmjaaDoor
open Go.RowKit Go.Shelf Go.Lib

def maxT : Int := 4611686018427387904
theorem below_drewN {B : Nat} (w : World) (q : Nat) : Below B w (w.drewN q) := ⟨rfl, rfl, rfl, Nat.le_refl _, fun _ _ => rfl⟩
/-- an id's value. -/
abbrev idV (t s q : Int) : Value := .agg #[.int .u64 t, .int .i64 s, .int .u64 q]
def siteB (n : Int) : Bool := decide (1 ≤ n) && decide (n ≤ 8)
/-- is it an id? -/
def okId (t s q : Int) : Bool := decide (1 ≤ t) && decide (t ≤ maxT) && siteB s && decide (1 ≤ q) && decide (q ≤ maxT)
theorem okId_iff (t s q : Int) : okId t s q = true ↔ 1 ≤ t ∧ t ≤ maxT ∧ 1 ≤ s ∧ s ≤ 8 ∧ 1 ≤ q ∧ q ≤ maxT := by
  simp [okId, siteB]; omega

set_option maxHeartbeats 400000 in
theorem site_any (n : Int) (w : World) : Calls Tryd.prog 39 #[.int .i64 n] w fun e w' => e = .returned (.bool (siteB n)) ∧ w = w' := by
  by_cases h1 : 1 ≤ n
  · by_cases h2 : n ≤ 8
    · have hs : siteB n = true := by simp [siteB, h1, h2]
      rw [hs]; clear hs
      go_enter Tryd.func39, Tryd.ntmps39
      go_wp2
      go_ret
      exact ⟨by simp, rfl⟩
    · have hs : siteB n = false := by simp [siteB, h2]
      rw [hs]; clear hs
      have hd : decide (n ≤ 8) = false := by simpa using h2
      go_enter Tryd.func39, Tryd.ntmps39
      go_wp2
      go_ret
      exact ⟨by simp, rfl⟩
  · have hs : siteB n = false := by simp [siteB, h1]
    rw [hs]; clear hs
    have hd : decide (1 ≤ n) = false := by simpa using h1
    go_enter Tryd.func39, Tryd.ntmps39
    go_wp2
    go_ret
    exact ⟨rfl, rfl⟩

theorem Check_id_run (t s q : Int) (w : World) (n : Int)
    (h : (decide (t < 1) = true ∧ n = 210) ∨ (decide (t < 1) = false ∧ decide (4611686018427387904 < t) = true ∧ n = 210) ∨ (decide (t < 1) = false ∧ decide (4611686018427387904 < t) = false ∧ siteB s = false ∧ n = 210)
      ∨ (decide (t < 1) = false ∧ decide (4611686018427387904 < t) = false ∧ siteB s = true ∧ decide (q < 1) = true ∧ n = 210)
      ∨ (decide (t < 1) = false ∧ decide (4611686018427387904 < t) = false ∧ siteB s = true ∧ decide (q < 1) = false ∧ decide (4611686018427387904 < q) = true ∧ n = 210)
      ∨ (decide (t < 1) = false ∧ decide (4611686018427387904 < t) = false ∧ siteB s = true ∧ decide (q < 1) = false ∧ decide (4611686018427387904 < q) = false ∧ n = 0)) :
    Calls Tryd.prog 14 #[idV t s q] w (Ret (.int .i64 n) w) := by
  rcases h with ⟨h1, rfl⟩ | ⟨h1, h2, rfl⟩ | ⟨h1, h2, h3, rfl⟩ | ⟨h1, h2, h3, h4, rfl⟩ | ⟨h1, h2, h3, h4, h5, rfl⟩ | ⟨h1, h2, h3, h4, h5, rfl⟩
  all_goals
    go_enter Tryd.func14, Tryd.ntmps14
    go_wp2_with (go_at_call 39; refine (site_any _ _).mono ?_; rintro e w' ⟨rfl, rfl⟩)
    go_ret
    exact ⟨rfl, (Below.refl _ w).alloc (Nat.le_refl _) _⟩
theorem Check_id_ok (t s q : Int) (h : okId t s q = true) (w : World) : Calls Tryd.prog 14 #[idV t s q] w (Ret (.int .i64 0) w) := by
  obtain ⟨h1, h2, h3, h4, h5, h6⟩ := (okId_iff t s q).1 h
  unfold maxT at h2 h6
  exact Check_id_run t s q w 0 (by simp [siteB]; omega)
theorem Check_id_bad (t s q : Int) (h : okId t s q = false) (w : World) : Calls Tryd.prog 14 #[idV t s q] w (Ret (.int .i64 210) w) := by
  refine Check_id_run t s q w 210 ?_
  by_cases h1 : t < 1
  · exact .inl ⟨by simpa using h1, rfl⟩
  by_cases h2 : 4611686018427387904 < t
  · exact .inr (.inl ⟨by simpa using h1, by simpa using h2, rfl⟩)
  by_cases h3 : siteB s = true
  · by_cases h4 : q < 1
    · exact .inr (.inr (.inr (.inl ⟨by simpa using h1, by simpa using h2, h3, by simpa using h4, rfl⟩)))
    · by_cases h5 : 4611686018427387904 < q
      · exact .inr (.inr (.inr (.inr (.inl ⟨by simpa using h1, by simpa using h2, h3, by simpa using h4, by simpa using h5, rfl⟩))))
      · exfalso
        have : okId t s q = true := by
          simp only [siteB, Bool.and_eq_true, decide_eq_true_eq] at h3
          exact (okId_iff t s q).2 (by unfold maxT; omega)
        rw [this] at h; cases h
  · exact .inr (.inr (.inl ⟨by simpa using h1, by simpa using h2, by simpa using h3, rfl⟩))

/-- an id as three numbers. -/
structure Idn where
  t : Int
  s : Int
  q : Int
def Idn.ok (i : Idn) : Bool := okId i.t i.s i.q
abbrev Idn.val (i : Idn) : Value := idV i.t i.s i.q
/-- a row in memory, as a slice's parts. -/
def RowS {α : Type} (enc : α → List Value) (k : Nat) (W : World) (a : Option Addr) (n : Nat) (L : List α) : Prop :=
  n = L.length ∧ L.length ≤ 9223372036854775807 ∧ (L = [] ∨ ∃ b off, a = some ⟨b, off, none⟩ ∧ b < W.heap.size ∧ ∀ j x, L[j]? = some x → ∀ i v, (enc x)[i]? = some v → W.cell? ⟨b, off + j * k + i, none⟩ = some v)
theorem RowS.below {α : Type} {enc : α → List Value} {k : Nat} {W W' : World} {a : Option Addr} {n : Nat} {L : List α} (h : RowS enc k W a n L) (hb : Below W.heap.size W W') : RowS enc k W' a n L := by
  obtain ⟨h1, h2, h | ⟨b, off, ha, hlt, hv⟩⟩ := h
  · exact ⟨h1, h2, .inl h⟩
  · exact ⟨h1, h2, .inr ⟨b, off, ha, Nat.lt_of_lt_of_le hlt hb.size, fun j x hj i v hi => (hb.cell (p := ⟨b, off + j * k + i, none⟩) hlt).trans (hv j x hj i v hi)⟩⟩

def encId (x : Idn) : List Value := [.int .u64 x.t, .int .i64 x.s, .int .u64 x.q]
instance : Inhabited Idn := ⟨⟨0, 0, 0⟩⟩
def eqId (x y : Idn) : Bool := x.t == y.t && (x.s == y.s && x.q == y.q)
set_option maxRecDepth 100000 in
theorem neqId (x y : Idn) (w : World) : (binOp .neq 27 (.agg (encId x).toArray) (.agg (encId y).toArray)).run Tryd.prog w = .ok (.bool (!eqId x y)) w := by
  have u3 := Tryd.underlying25
  have a3 := Tryd.isAgg25
  have z3 := Tryd.sizeOf25
  have u4 := Tryd.underlying3
  have a4 := Tryd.isAgg3
  have z4 := Tryd.sizeOf3
  have hS : Tryd.prog.underlying 27 = some (.struct (Tryd.prog.fieldsOf 27)) := by kernel_rfl
  have hp : Tryd.prog.stoodInHeld 27 = false := by kernel_rfl
  simp only [encId, eqId]
  rw [run_neq_struct, show (10000 : Nat) = 9999 + 1 from rfl, run_equalIn_agg w 9999 27 _ _ hS hp]
  simp only [Program.fieldsOf, Tryd.underlying27]
  go_simp
  by_cases h1 : x.t = y.t <;> by_cases h2 : x.s = y.s <;> by_cases h3 : x.q = y.q <;> simp [h1, h2, h3]
set_option maxHeartbeats 2000000 in
set_option maxRecDepth 100000 in
theorem EqualId (a1 a2 : Option Addr) (n c m d : Nat) (xs ys : List Idn) (w : World) (h1 : RowS encId 3 w a1 n xs) (h2 : RowS encId 3 w a2 m ys) :
    Calls Tryd.prog 31 #[.slice a1 n c, .slice a2 m d] w fun e w' => e = .returned (.bool (allEq eqId xs ys)) ∧ ∃ q, w' = w.drewN q := by
  obtain ⟨rfl, hb1, h1⟩ := h1
  obtain ⟨rfl, hb2, h2⟩ := h2
  have hne' := neqId
  have mixed : Tryd.prog.follows .mixedOrders = true := rfl
  have aE := Tryd.isAgg27
  have zE := Tryd.sizeOf27
  have hgd' : ∀ (op : BinOp) (a b : Operand) (x y : Idn) (w : World), Sem.run Tryd.prog (eqGuard op 27 a b (.agg (encId x).toArray) (.agg (encId y).toArray)) w = .ok () w := (GuardAt.agg _ (by kernel_rfl))
  by_cases hnm : xs.length = ys.length
  · by_cases he : xs = []
    · subst he
      obtain rfl : ys = [] := List.length_eq_zero_iff.1 hnm.symm
      clear h1 h2
      go_enter Tryd.func31, Tryd.ntmps31
      go_wp2_with fail
      refine wp_loop_rounds 1 ?_
      rw [rounds_succ]
      go_wp2_with fail
      go_ret
      exact ⟨rfl, 0, rfl⟩
    · obtain ⟨b1, o1, rfl, -, hc1⟩ := h1.resolve_left he
      obtain ⟨b2, o2, rfl, -, hc2⟩ := h2.resolve_left (fun e => he (List.length_eq_zero_iff.1 (by rw [hnm, e]; rfl)))
      have hr1 : ∀ j, j < xs.length → ∀ i v, (encId xs[j]!)[i]? = some v → w.cell? ⟨b1, o1 + j * 3 + i, none⟩ = some v := fun j hj => hc1 j _ (by simp [hj])
      have hr2 : ∀ j, j < ys.length → ∀ i v, (encId ys[j]!)[i]? = some v → w.cell? ⟨b2, o2 + j * 3 + i, none⟩ = some v := fun j hj => hc2 j _ (by simp [hj])
      clear hc1 hc2 h1 h2
      generalize hn : xs.length = n at hnm hb1 hr1 ⊢
      rw [← hnm] at hr2 hb2 ⊢
      have HN : Hid (xs.length = n ∧ n = ys.length) := ⟨hn, hnm⟩
      clear hn hnm
      go_enter Tryd.func31, Tryd.ntmps31
      go_wp2_with fail
      go_loopg [13] n (fun g s13 wr => ∃ kk q : Nat, kk ≤ n ∧ n - kk ≤ g ∧ s13 = .int .i64 kk ∧ wr = w.drewN q ∧ Aside (∀ j, j < kk → eqId xs[j]! ys[j]! = true))
      case atStart => exact ⟨0, 0, Nat.zero_le _, by omega, rfl, rfl, fun j hj => absurd hj (Nat.not_lt_zero _)⟩
      case round =>
        obtain ⟨kk, q, hkk, hg, rfl, rfl, A⟩ := hrel
        by_cases hlt : kk < n
        · have g1 : ∀ i v, (encId xs[kk]!)[i]? = some v → (w.drewN q).cell? ⟨b1, o1 + kk * 3 + i, none⟩ = some v := fun i v hv => by rw [World.cell?_drewN]; exact hr1 kk (by omega) i v hv
          have g2 : ∀ i v, (encId ys[kk]!)[i]? = some v → (w.drewN q).cell? ⟨b2, o2 + kk * 3 + i, none⟩ = some v := fun i v hv => by rw [World.cell?_drewN]; exact hr2 kk (by omega) i v hv
          clear hr1 hr2
          generalize hxk : xs[kk]! = x at g1
          generalize hyk : ys[kk]! = y at g2
          generalize hwq : w.drewN q = wq at g1 g2 ⊢
          have B : Aside (xs[kk]! = x ∧ ys[kk]! = y) := ⟨hxk, hyk⟩
          clear hxk hyk
          unfold encId at g1 g2 hne' hgd'
          have x0 := g1 0 _ rfl; have x1 := g1 1 _ rfl; have x2 := g1 2 _ rfl; have y0 := g2 0 _ rfl; have y1 := g2 1 _ rfl; have y2 := g2 2 _ rfl
          try (have x3 := g1 3 _ rfl; have y3 := g2 3 _ rfl)
          try (have x4 := g1 4 _ rfl; have y4 := g2 4 _ rfl)
          try (have x5 := g1 5 _ rfl; have y5 := g2 5 _ rfl)
          try (have x6 := g1 6 _ rfl; have y6 := g2 6 _ rfl)
          try (have x7 := g1 7 _ rfl; have y7 := g2 7 _ rfl)
          try (have x8 := g1 8 _ rfl; have y8 := g2 8 _ rfl)
          rw [Nat.add_zero] at x0 y0
          clear g1 g2
          cases hxy : eqId x y with
          | true =>
            go_wp2_with fail
            go_quiet_o (fail)
            go_wp2
            go_roundg (n - (kk + 1))
            case measure => omega
            case rel =>
              refine ⟨kk + 1, q + nq, by omega, by omega, by go_num, by rw [← hwq, World.drewN_drewN], (show Aside _ from fun j hj => ?_)⟩
              by_cases e : j = kk
              · subst e
                rw [B.out.1, B.out.2]; exact hxy
              · exact A.out j (by omega)
          | false =>
            go_wp2_with fail
            go_quiet_o (fail)
            go_wp2
            go_ret
            refine ⟨?_, q + nq, by rw [← hwq, World.drewN_drewN]⟩
            rw [Lib.allEq_elem eqId xs ys kk (by have := HN.out; omega) (by have := HN.out; omega) (by rw [B.out.1, B.out.2]; exact hxy)]
            rfl
        · have : kk = n := by omega
          subst this
          clear hr1 hr2
          go_wp2
          go_ret
          refine ⟨?_, q, rfl⟩
          rw [Lib.allEq_all eqId xs ys (by have := HN.out; omega) (fun j hj => A.out j (by have := HN.out; omega))]
          rfl
  · have hnm' : ¬ (xs.length : Int) = (ys.length : Int) := by omega
    clear h1 h2
    go_enter Tryd.func31, Tryd.ntmps31
    go_wp2
    go_ret
    refine ⟨?_, 0, rfl⟩
    rw [Lib.allEq_len eqId xs ys hnm]
    rfl
theorem flat_get {α : Type} {enc : α → List Value} {k : Nat} (hk : ∀ x, (enc x).length = k) : ∀ (L : List α) (j : Nat) (x : α), L[j]? = some x → ∀ i v, (enc x)[i]? = some v → (L.flatMap enc)[j * k + i]? = some v
  | [], j, x, h, _, _, _ => by simp at h
  | y :: L, 0, x, h, i, v, hv => by
    obtain rfl : y = x := by simpa using h
    have hi := (List.getElem?_eq_some_iff.1 hv).1
    rw [List.flatMap_cons, Nat.zero_mul, Nat.zero_add, List.getElem?_append_left hi]
    exact hv
  | y :: L, j + 1, x, h, i, v, hv => by
    have h' : L[j]? = some x := by simpa using h
    rw [List.flatMap_cons, List.getElem?_append_right (by rw [hk]; rw [Nat.succ_mul]; omega), hk, show (j + 1) * k + i - k = j * k + i from by rw [Nat.succ_mul]; omega]
    exact flat_get hk L j x h' i v hv
theorem flat_length {α : Type} {enc : α → List Value} {k : Nat} (hk : ∀ x, (enc x).length = k) : ∀ L : List α, (L.flatMap enc).length = L.length * k
  | [] => by simp
  | y :: L => by rw [List.flatMap_cons, List.length_append, hk, flat_length hk L, List.length_cons, Nat.succ_mul, Nat.add_comm]
/-- a row of the call's own, read. -/
theorem rowS_of_own {α : Type} {enc : α → List Value} {k : Nat} (hk : ∀ x, (enc x).length = k) {W : World} {B : Nat} {e : TypeId} {v : Value} {L : List α} (h : W.ownsRow B e k v L.length (L.flatMap enc)) :
    ∃ a c, v = .slice a L.length c ∧ RowS enc k W a L.length L := by
  rcases h.2 with ⟨rfl, h0⟩ | ⟨g, cap, cur, rfl, hg, hgg, h1, h2, h3, h4⟩
  · exact ⟨none, 0, by rw [h0], rfl, by omega, .inl (List.length_eq_zero_iff.1 h0)⟩
  · refine ⟨_, cap, rfl, rfl, by simp only [maxLen] at h2; omega, .inr ⟨g, 0, rfl, (Array.getElem?_eq_some_iff.1 hgg).1, fun j x hj i u hu => ?_⟩⟩
    have hf := flat_get hk L j x hj i u hu
    rw [← h4] at hf
    have hi : j * k + i < L.length * k := by
      have := (List.getElem?_eq_some_iff.1 hf).1
      rw [List.length_take] at this; omega
    rw [List.getElem?_take_of_lt hi] at hf
    rw [cell_of_row W g (0 + j * k + i) cur e (0, 0) hgg, Nat.zero_add]
    simpa using hf
theorem infoId : (Tryd.prog.info? 27).map (fun i => (i.zero, i.size, i.bytes)) = some (some (.agg #[.int .u64 0, .int .i64 0, .int .u64 0]), 3, 24) := by kernel_rfl
abbrev zId : Value := .agg #[.int .u64 0, .int .i64 0, .int .u64 0]
theorem oneId (x : Idn) : ∀ u ∈ encId x, u.oneCell' = true := by intro u hu; simp [encId] at hu; rcases hu with rfl | rfl | rfl <;> rfl

/-- the cells of a row that came in. -/
theorem row_cells {α : Type} {enc : α → List Value} {k : Nat} (hk0 : 0 < k) (hk : ∀ x, (enc x).length = k) {W : World} {b off : Nat} {L : List α}
    (h : ∀ j x, L[j]? = some x → ∀ i v, (enc x)[i]? = some v → W.cell? ⟨b, off + j * k + i, none⟩ = some v) :
    ∀ j u, (L.flatMap enc)[j]? = some u → W.cell? ⟨b, off + j, none⟩ = some u := by
  intro j u hu
  have hj : j < L.length * k := by have := (List.getElem?_eq_some_iff.1 hu).1; rwa [flat_length hk] at this
  have hi : j / k < L.length := (Nat.div_lt_iff_lt_mul hk0).2 hj
  have hr : j % k < k := Nat.mod_lt _ hk0
  have he : j / k * k + j % k = j := by rw [Nat.mul_comm]; exact Nat.div_add_mod j k
  have h1 : L[j / k]? = some L[j / k] := List.getElem?_eq_getElem hi
  have h2 : (enc L[j / k])[j % k]? = some ((enc L[j / k])[j % k]'(by rw [hk]; exact hr)) := List.getElem?_eq_getElem _
  have h3 := flat_get hk L (j / k) _ h1 (j % k) _ h2
  rw [he, hu] at h3
  rw [Option.some.inj h3, show off + j = off + j / k * k + j % k by omega]
  exact h _ _ h1 _ _ h2

theorem own_at {g n c k : Nat} (h : (Value.slice (some ⟨g, 0, none⟩) n c).ownBlock = some k) : g = k := by simpa [Value.ownBlock] using h
/-- a copy of a row. -/
def Cloned {α : Type} (enc : α → List Value) (k n : Nat) (L : List α) (w : World) (e : Ending) (w' : World) : Prop := ∃ a' c', e = .returned (.slice a' n c') ∧ RowS enc k w' a' n L ∧ Below w.heap.size w w'

/-- a copy of a row, of the call's own. -/
def ClonedOwn {α : Type} (enc : α → List Value) (k n : Nat) (E : TypeId) (L : List α) (w : World) (e : Ending) (w' : World) : Prop := ∃ v, e = .returned v ∧ w'.ownsRow w.heap.size E k v n (L.flatMap enc) ∧ Below w.heap.size w w'

set_option maxRecDepth 100000 in
set_option maxHeartbeats 1000000 in
theorem CloneOwnId (a : Option Addr) (n c : Nat) (L : List Idn) (w : World) (hS : RowS encId 3 w a n L) (hlen : L.length ≤ 1000) :
    Calls Tryd.prog 26 #[.slice a n c] w (ClonedOwn encId 3 n 27 L w) := by
  obtain ⟨rfl, hb1, hL⟩ := hS
  obtain ⟨i0, hi, hz0, hz1, hz2⟩ : ∃ i0, Tryd.prog.info? 27 = some i0 ∧ i0.zero = some zId ∧ i0.size = 3 ∧ i0.bytes = 24 := by
    have h := infoId
    cases e : Tryd.prog.info? 27 with
    | none => rw [e] at h; cases h
    | some i0 => rw [e] at h; simp at h; exact ⟨i0, rfl, h⟩
  cases a with
  | none =>
    obtain rfl : L = [] := by
      rcases hL with h | ⟨b, off, h, _⟩
      · exact h
      · cases h
    have hse : ∀ w, (binOp .eql 22 (.slice none 0 c) (.slice none 0 0)).run Tryd.prog w = .ok (.bool true) w := fun w => by simp [binOp, run_equal_slice_nil w 22 _ _ _ _ Tryd.underlying22]
    go_enter Tryd.func26, Tryd.ntmps26
    go_wp2
    go_ret
    exact ⟨_, rfl, World.ownsRow_nil _ _ _ _, Below.refl _ _⟩
  | some p =>
    have hnews : ∀ j u, (L.flatMap encId)[j]? = some u → (w.alloc (.cells #[] 27)).cell? (p.add j) = some u := by
      rcases hL with rfl | ⟨b, off, h, hlt, hv⟩
      · intro j u hu; simp at hu
      · intro j u hu
        cases h
        have := row_cells (k := 3) (by omega) (fun _ => rfl) hv j u hu
        rw [show (⟨b, off, none⟩ : Addr).add j = ⟨b, off + j, none⟩ from by simp [Addr.add]]
        rw [World.cell?_of_block (w := w) (Below.heap_alloc w _ b hlt)]
        exact this
    have hone : ∀ u ∈ L.flatMap encId, u.oneCell' = true := by
      intro u hu
      obtain ⟨x, _, hx⟩ := List.mem_flatMap.1 hu
      exact oneId x u hx
    have hown : (w.alloc (.cells #[] 27)).ownsRow w.heap.size 27 3 (.slice (some ⟨w.heap.size, 0, none⟩) 0 0) 0 [] :=
      ⟨rfl, .inr ⟨w.heap.size, 0, #[], rfl, Nat.le_refl _, World.alloc_heap_new w _, Nat.le_refl _, by simp [maxLen], rfl, rfl⟩⟩
    have HN := Lib.hid hnews
    clear hnews hL
    have hse : ∀ w, (binOp .eql 22 (.slice (some p) L.length c) (.slice none 0 0)).run Tryd.prog w = .ok (.bool false) w := fun w => by simp [binOp, run_equal_slice_nil w 22 _ _ _ _ Tryd.underlying22]
    go_enter Tryd.func26, Tryd.ntmps26
    go_wp2_with (at_builtin; refine wpList_append_own _ rfl _ _ 22 rfl w.heap.size 27 i0 zId 3 24 Tryd.underlying22 hi hz0 hz1 hz2 rfl (by decide) _ _ _ rfl hown p L.length c (L.flatMap encId) rfl (flat_length (enc := encId) (k := 3) (fun _ => rfl) L) HN.out hone (by unfold maxLen; omega) (by omega) (by simp) ?_; intro v' w1 hown' hgrow' hnil'; rw [Nat.zero_add, List.nil_append] at hown'; have HR := Lib.hid hown'; have HB : Hid (Below w.heap.size w w1) := ((Below.refl w.heap.size w).alloc (Nat.le_refl _) _).grown hgrow' (by simp) (fun k e => Nat.le_of_eq (own_at e)); clear hown' hgrow' hnil')
    go_ret
    exact ⟨v', rfl, HR.out, HB.out⟩
theorem CloneId (a : Option Addr) (n c : Nat) (L : List Idn) (w : World) (hS : RowS encId 3 w a n L) (hlen : L.length ≤ 1000) :
    Calls Tryd.prog 26 #[.slice a n c] w (Cloned encId 3 n L w) :=
  (CloneOwnId a n c L w hS hlen).mono fun e w' ⟨v, he, ho, hb⟩ => by
    have hn := hS.1
    subst hn
    obtain ⟨a', c', rfl, hr⟩ := rowS_of_own (enc := encId) (k := 3) (fun _ => rfl) ho
    exact ⟨a', c', he, hr, hb⟩
end Go.Proofs.YtoiaecfiinkmjaaDoor
