/- slices.Equal at rows of stretches, of vectors, of ids. -/
import Derived.Shelf.SlicesQ.Equal
import Derived.Test.YtoiaecfiinkmjaaLacks
import Derived.Test.YtoiaecfiinkmjaaEq
import Derived.Test.YtoiaecfiinkmjaaWith2
namespace Go.Proofs.Ytoiaecfiinkmjaa
open Go.RowKit Go.Shelf Go.Lib

/-- a row in memory, as a slice's parts. -/
def RowS {α : Type} (enc : α → List Value) (k : Nat) (W : World) (a : Option Addr) (n : Nat) (L : List α) : Prop :=
  n = L.length ∧ L.length ≤ 9223372036854775807 ∧ (L = [] ∨ ∃ b off, a = some ⟨b, off, none⟩ ∧ b < W.heap.size ∧ ∀ j x, L[j]? = some x → ∀ i v, (enc x)[i]? = some v → W.cell? ⟨b, off + j * k + i, none⟩ = some v)
theorem RowS.below {α : Type} {enc : α → List Value} {k : Nat} {W W' : World} {a : Option Addr} {n : Nat} {L : List α} (h : RowS enc k W a n L) (hb : Below W.heap.size W W') : RowS enc k W' a n L := by
  obtain ⟨h1, h2, h | ⟨b, off, ha, hlt, hv⟩⟩ := h
  · exact ⟨h1, h2, .inl h⟩
  · exact ⟨h1, h2, .inr ⟨b, off, ha, Nat.lt_of_lt_of_le hlt hb.size, fun j x hj i v hi => (hb.cell (p := ⟨b, off + j * k + i, none⟩) hlt).trans (hv j x hj i v hi)⟩⟩

def encStr (x : Str) : List Value := [.int .i64 x.s, .int .u64 x.a, .int .u64 x.b]
def encVec (f : Nat → Int) : List Value := [.int .u64 (f 0), .int .u64 (f 1), .int .u64 (f 2), .int .u64 (f 3), .int .u64 (f 4), .int .u64 (f 5), .int .u64 (f 6), .int .u64 (f 7), .int .u64 (f 8)]
def encId (x : Idn) : List Value := [.int .u64 x.t, .int .i64 x.s, .int .u64 x.q]
instance : Inhabited Str := ⟨⟨0, 0, 0⟩⟩
instance : Inhabited Idn := ⟨⟨0, 0, 0⟩⟩
def eqStr (x y : Str) : Bool := x.s == y.s && (x.a == y.a && x.b == y.b)
def eqVec (f g : Nat → Int) : Bool := f 0 == g 0 && (f 1 == g 1 && (f 2 == g 2 && (f 3 == g 3 && (f 4 == g 4 && (f 5 == g 5 && (f 6 == g 6 && (f 7 == g 7 && (f 8 == g 8))))))))
def eqId (x y : Idn) : Bool := x.t == y.t && (x.s == y.s && x.q == y.q)

set_option maxRecDepth 100000 in
theorem neqStr (x y : Str) (w : World) : (binOp .neq 36 (.agg (encStr x).toArray) (.agg (encStr y).toArray)).run Try.prog w = .ok (.bool (!eqStr x y)) w := by
  have u3 := Try.underlying22
  have a3 := Try.isAgg22
  have z3 := Try.sizeOf22
  have u4 := Try.underlying3
  have a4 := Try.isAgg3
  have z4 := Try.sizeOf3
  have hS : Try.prog.underlying 36 = some (.struct (Try.prog.fieldsOf 36)) := by kernel_rfl
  have hp : Try.prog.stoodInHeld 36 = false := by kernel_rfl
  simp only [encStr, eqStr]
  rw [run_neq_struct, show (10000 : Nat) = 9999 + 1 from rfl, run_equalIn_agg w 9999 36 _ _ hS hp]
  simp only [Program.fieldsOf, Try.underlying36]
  go_simp
  by_cases h1 : x.s = y.s <;> by_cases h2 : x.a = y.a <;> by_cases h3 : x.b = y.b <;> simp [h1, h2, h3]
set_option maxRecDepth 100000 in
theorem neqId (x y : Idn) (w : World) : (binOp .neq 38 (.agg (encId x).toArray) (.agg (encId y).toArray)).run Try.prog w = .ok (.bool (!eqId x y)) w := by
  have u3 := Try.underlying22
  have a3 := Try.isAgg22
  have z3 := Try.sizeOf22
  have u4 := Try.underlying3
  have a4 := Try.isAgg3
  have z4 := Try.sizeOf3
  have hS : Try.prog.underlying 38 = some (.struct (Try.prog.fieldsOf 38)) := by kernel_rfl
  have hp : Try.prog.stoodInHeld 38 = false := by kernel_rfl
  simp only [encId, eqId]
  rw [run_neq_struct, show (10000 : Nat) = 9999 + 1 from rfl, run_equalIn_agg w 9999 38 _ _ hS hp]
  simp only [Program.fieldsOf, Try.underlying38]
  go_simp
  by_cases h1 : x.t = y.t <;> by_cases h2 : x.s = y.s <;> by_cases h3 : x.q = y.q <;> simp [h1, h2, h3]
set_option maxRecDepth 100000 in
theorem neqVec (x y : Nat → Int) (w : World) : (binOp .neq 24 (.agg (encVec x).toArray) (.agg (encVec y).toArray)).run Try.prog w = .ok (.bool (!eqVec x y)) w := by
  rw [run_neq_struct]
  simp only [encVec, eqVec, run_eq_vec, Result.andThen_ok]

set_option maxHeartbeats 2000000 in
set_option maxRecDepth 100000 in
theorem EqualStr (a1 a2 : Option Addr) (n c m d : Nat) (xs ys : List Str) (w : World) (h1 : RowS encStr 3 w a1 n xs) (h2 : RowS encStr 3 w a2 m ys) :
    Calls Try.prog 23 #[.slice a1 n c, .slice a2 m d] w fun e w' => e = .returned (.bool (allEq eqStr xs ys)) ∧ ∃ q, w' = w.drewN q := by
  obtain ⟨rfl, hb1, h1⟩ := h1
  obtain ⟨rfl, hb2, h2⟩ := h2
  have hne' := neqStr
  have mixed : Try.prog.follows .mixedOrders = true := rfl
  have aE := Try.isAgg36
  have zE := Try.sizeOf36
  have hgd' : ∀ (op : BinOp) (a b : Operand) (x y : Str) (w : World), Sem.run Try.prog (eqGuard op 36 a b (.agg (encStr x).toArray) (.agg (encStr y).toArray)) w = .ok () w := (GuardAt.agg _ (by kernel_rfl))
  by_cases hnm : xs.length = ys.length
  · by_cases he : xs = []
    · subst he
      obtain rfl : ys = [] := List.length_eq_zero_iff.1 hnm.symm
      clear h1 h2
      go_enter Try.func23, Try.ntmps23
      go_wp2_with fail
      refine wp_loop_rounds 1 ?_
      rw [rounds_succ]
      go_wp2_with fail
      go_ret
      exact ⟨rfl, 0, rfl⟩
    · obtain ⟨b1, o1, rfl, -, hc1⟩ := h1.resolve_left he
      obtain ⟨b2, o2, rfl, -, hc2⟩ := h2.resolve_left (fun e => he (List.length_eq_zero_iff.1 (by rw [hnm, e]; rfl)))
      have hr1 : ∀ j, j < xs.length → ∀ i v, (encStr xs[j]!)[i]? = some v → w.cell? ⟨b1, o1 + j * 3 + i, none⟩ = some v := fun j hj => hc1 j _ (by simp [hj])
      have hr2 : ∀ j, j < ys.length → ∀ i v, (encStr ys[j]!)[i]? = some v → w.cell? ⟨b2, o2 + j * 3 + i, none⟩ = some v := fun j hj => hc2 j _ (by simp [hj])
      clear hc1 hc2 h1 h2
      generalize hn : xs.length = n at hnm hb1 hr1 ⊢
      rw [← hnm] at hr2 hb2 ⊢
      have HN : Hid (xs.length = n ∧ n = ys.length) := ⟨hn, hnm⟩
      clear hn hnm
      go_enter Try.func23, Try.ntmps23
      go_wp2_with fail
      go_loopg [13] n (fun g s13 wr => ∃ kk q : Nat, kk ≤ n ∧ n - kk ≤ g ∧ s13 = .int .i64 kk ∧ wr = w.drewN q ∧ Aside (∀ j, j < kk → eqStr xs[j]! ys[j]! = true))
      case atStart => exact ⟨0, 0, Nat.zero_le _, by omega, rfl, rfl, fun j hj => absurd hj (Nat.not_lt_zero _)⟩
      case round =>
        obtain ⟨kk, q, hkk, hg, rfl, rfl, A⟩ := hrel
        by_cases hlt : kk < n
        · have g1 : ∀ i v, (encStr xs[kk]!)[i]? = some v → (w.drewN q).cell? ⟨b1, o1 + kk * 3 + i, none⟩ = some v := fun i v hv => by rw [World.cell?_drewN]; exact hr1 kk (by omega) i v hv
          have g2 : ∀ i v, (encStr ys[kk]!)[i]? = some v → (w.drewN q).cell? ⟨b2, o2 + kk * 3 + i, none⟩ = some v := fun i v hv => by rw [World.cell?_drewN]; exact hr2 kk (by omega) i v hv
          clear hr1 hr2
          generalize hxk : xs[kk]! = x at g1
          generalize hyk : ys[kk]! = y at g2
          generalize hwq : w.drewN q = wq at g1 g2 ⊢
          have B : Aside (xs[kk]! = x ∧ ys[kk]! = y) := ⟨hxk, hyk⟩
          clear hxk hyk
          unfold encStr at g1 g2 hne' hgd'
          have x0 := g1 0 _ rfl; have x1 := g1 1 _ rfl; have x2 := g1 2 _ rfl; have y0 := g2 0 _ rfl; have y1 := g2 1 _ rfl; have y2 := g2 2 _ rfl
          try (have x3 := g1 3 _ rfl; have y3 := g2 3 _ rfl)
          try (have x4 := g1 4 _ rfl; have y4 := g2 4 _ rfl)
          try (have x5 := g1 5 _ rfl; have y5 := g2 5 _ rfl)
          try (have x6 := g1 6 _ rfl; have y6 := g2 6 _ rfl)
          try (have x7 := g1 7 _ rfl; have y7 := g2 7 _ rfl)
          try (have x8 := g1 8 _ rfl; have y8 := g2 8 _ rfl)
          rw [Nat.add_zero] at x0 y0
          clear g1 g2
          cases hxy : eqStr x y with
          | true =>
            go_wp2_with fail
            go_quiet_o (fail)
            go_wp2
            go_roundg (n - (kk + 1))
            case measure => omega
            case rel =>
              refine ⟨kk + 1, q + nq, by omega, by omega, by go_num, by rw [← hwq, World.drewN_drewN], (show Aside _ from fun j hj => ?_)⟩
              by_cases e : j = kk
              · subst e
                rw [B.out.1, B.out.2]; exact hxy
              · exact A.out j (by omega)
          | false =>
            go_wp2_with fail
            go_quiet_o (fail)
            go_wp2
            go_ret
            refine ⟨?_, q + nq, by rw [← hwq, World.drewN_drewN]⟩
            rw [Lib.allEq_elem eqStr xs ys kk (by have := HN.out; omega) (by have := HN.out; omega) (by rw [B.out.1, B.out.2]; exact hxy)]
            rfl
        · have : kk = n := by omega
          subst this
          clear hr1 hr2
          go_wp2
          go_ret
          refine ⟨?_, q, rfl⟩
          rw [Lib.allEq_all eqStr xs ys (by have := HN.out; omega) (fun j hj => A.out j (by have := HN.out; omega))]
          rfl
  · have hnm' : ¬ (xs.length : Int) = (ys.length : Int) := by omega
    clear h1 h2
    go_enter Try.func23, Try.ntmps23
    go_wp2
    go_ret
    refine ⟨?_, 0, rfl⟩
    rw [Lib.allEq_len eqStr xs ys hnm]
    rfl
set_option maxHeartbeats 2000000 in
set_option maxRecDepth 100000 in
theorem EqualVec (a1 a2 : Option Addr) (n c m d : Nat) (xs ys : List (Nat → Int)) (w : World) (h1 : RowS encVec 9 w a1 n xs) (h2 : RowS encVec 9 w a2 m ys) :
    Calls Try.prog 25 #[.slice a1 n c, .slice a2 m d] w fun e w' => e = .returned (.bool (allEq eqVec xs ys)) ∧ ∃ q, w' = w.drewN q := by
  obtain ⟨rfl, hb1, h1⟩ := h1
  obtain ⟨rfl, hb2, h2⟩ := h2
  have hne' := neqVec
  have mixed : Try.prog.follows .mixedOrders = true := rfl
  have aE := Try.isAgg24
  have zE := Try.sizeOf24
  have hgd' : ∀ (op : BinOp) (a b : Operand) (x y : (Nat → Int)) (w : World), Sem.run Try.prog (eqGuard op 24 a b (.agg (encVec x).toArray) (.agg (encVec y).toArray)) w = .ok () w := (GuardAt.agg _ (by kernel_rfl))
  by_cases hnm : xs.length = ys.length
  · by_cases he : xs = []
    · subst he
      obtain rfl : ys = [] := List.length_eq_zero_iff.1 hnm.symm
      clear h1 h2
      go_enter Try.func25, Try.ntmps25
      go_wp2_with fail
      refine wp_loop_rounds 1 ?_
      rw [rounds_succ]
      go_wp2_with fail
      go_ret
      exact ⟨rfl, 0, rfl⟩
    · obtain ⟨b1, o1, rfl, -, hc1⟩ := h1.resolve_left he
      obtain ⟨b2, o2, rfl, -, hc2⟩ := h2.resolve_left (fun e => he (List.length_eq_zero_iff.1 (by rw [hnm, e]; rfl)))
      have hr1 : ∀ j, j < xs.length → ∀ i v, (encVec xs[j]!)[i]? = some v → w.cell? ⟨b1, o1 + j * 9 + i, none⟩ = some v := fun j hj => hc1 j _ (by simp [hj])
      have hr2 : ∀ j, j < ys.length → ∀ i v, (encVec ys[j]!)[i]? = some v → w.cell? ⟨b2, o2 + j * 9 + i, none⟩ = some v := fun j hj => hc2 j _ (by simp [hj])
      clear hc1 hc2 h1 h2
      generalize hn : xs.length = n at hnm hb1 hr1 ⊢
      rw [← hnm] at hr2 hb2 ⊢
      have HN : Hid (xs.length = n ∧ n = ys.length) := ⟨hn, hnm⟩
      clear hn hnm
      go_enter Try.func25, Try.ntmps25
      go_wp2_with fail
      go_loopg [13] n (fun g s13 wr => ∃ kk q : Nat, kk ≤ n ∧ n - kk ≤ g ∧ s13 = .int .i64 kk ∧ wr = w.drewN q ∧ Aside (∀ j, j < kk → eqVec xs[j]! ys[j]! = true))
      case atStart => exact ⟨0, 0, Nat.zero_le _, by omega, rfl, rfl, fun j hj => absurd hj (Nat.not_lt_zero _)⟩
      case round =>
        obtain ⟨kk, q, hkk, hg, rfl, rfl, A⟩ := hrel
        by_cases hlt : kk < n
        · have g1 : ∀ i v, (encVec xs[kk]!)[i]? = some v → (w.drewN q).cell? ⟨b1, o1 + kk * 9 + i, none⟩ = some v := fun i v hv => by rw [World.cell?_drewN]; exact hr1 kk (by omega) i v hv
          have g2 : ∀ i v, (encVec ys[kk]!)[i]? = some v → (w.drewN q).cell? ⟨b2, o2 + kk * 9 + i, none⟩ = some v := fun i v hv => by rw [World.cell?_drewN]; exact hr2 kk (by omega) i v hv
          clear hr1 hr2
          generalize hxk : xs[kk]! = x at g1
          generalize hyk : ys[kk]! = y at g2
          generalize hwq : w.drewN q = wq at g1 g2 ⊢
          have B : Aside (xs[kk]! = x ∧ ys[kk]! = y) := ⟨hxk, hyk⟩
          clear hxk hyk
          unfold encVec at g1 g2 hne' hgd'
          have x0 := g1 0 _ rfl; have x1 := g1 1 _ rfl; have x2 := g1 2 _ rfl; have y0 := g2 0 _ rfl; have y1 := g2 1 _ rfl; have y2 := g2 2 _ rfl
          try (have x3 := g1 3 _ rfl; have y3 := g2 3 _ rfl)
          try (have x4 := g1 4 _ rfl; have y4 := g2 4 _ rfl)
          try (have x5 := g1 5 _ rfl; have y5 := g2 5 _ rfl)
          try (have x6 := g1 6 _ rfl; have y6 := g2 6 _ rfl)
          try (have x7 := g1 7 _ rfl; have y7 := g2 7 _ rfl)
          try (have x8 := g1 8 _ rfl; have y8 := g2 8 _ rfl)
          rw [Nat.add_zero] at x0 y0
          clear g1 g2
          cases hxy : eqVec x y with
          | true =>
            go_wp2_with fail
            go_quiet_o (fail)
            go_wp2
            go_roundg (n - (kk + 1))
            case measure => omega
            case rel =>
              refine ⟨kk + 1, q + nq, by omega, by omega, by go_num, by rw [← hwq, World.drewN_drewN], (show Aside _ from fun j hj => ?_)⟩
              by_cases e : j = kk
              · subst e
                rw [B.out.1, B.out.2]; exact hxy
              · exact A.out j (by omega)
          | false =>
            go_wp2_with fail
            go_quiet_o (fail)
            go_wp2
            go_ret
            refine ⟨?_, q + nq, by rw [← hwq, World.drewN_drewN]⟩
            rw [Lib.allEq_elem eqVec xs ys kk (by have := HN.out; omega) (by have := HN.out; omega) (by rw [B.out.1, B.out.2]; exact hxy)]
            rfl
        · have : kk = n := by omega
          subst this
          clear hr1 hr2
          go_wp2
          go_ret
          refine ⟨?_, q, rfl⟩
          rw [Lib.allEq_all eqVec xs ys (by have := HN.out; omega) (fun j hj => A.out j (by have := HN.out; omega))]
          rfl
  · have hnm' : ¬ (xs.length : Int) = (ys.length : Int) := by omega
    clear h1 h2
    go_enter Try.func25, Try.ntmps25
    go_wp2
    go_ret
    refine ⟨?_, 0, rfl⟩
    rw [Lib.allEq_len eqVec xs ys hnm]
    rfl
set_option maxHeartbeats 2000000 in
set_option maxRecDepth 100000 in
theorem EqualId (a1 a2 : Option Addr) (n c m d : Nat) (xs ys : List Idn) (w : World) (h1 : RowS encId 3 w a1 n xs) (h2 : RowS encId 3 w a2 m ys) :
    Calls Try.prog 32 #[.slice a1 n c, .slice a2 m d] w fun e w' => e = .returned (.bool (allEq eqId xs ys)) ∧ ∃ q, w' = w.drewN q := by
  obtain ⟨rfl, hb1, h1⟩ := h1
  obtain ⟨rfl, hb2, h2⟩ := h2
  have hne' := neqId
  have mixed : Try.prog.follows .mixedOrders = true := rfl
  have aE := Try.isAgg38
  have zE := Try.sizeOf38
  have hgd' : ∀ (op : BinOp) (a b : Operand) (x y : Idn) (w : World), Sem.run Try.prog (eqGuard op 38 a b (.agg (encId x).toArray) (.agg (encId y).toArray)) w = .ok () w := (GuardAt.agg _ (by kernel_rfl))
  by_cases hnm : xs.length = ys.length
  · by_cases he : xs = []
    · subst he
      obtain rfl : ys = [] := List.length_eq_zero_iff.1 hnm.symm
      clear h1 h2
      go_enter Try.func32, Try.ntmps32
      go_wp2_with fail
      refine wp_loop_rounds 1 ?_
      rw [rounds_succ]
      go_wp2_with fail
      go_ret
      exact ⟨rfl, 0, rfl⟩
    · obtain ⟨b1, o1, rfl, -, hc1⟩ := h1.resolve_left he
      obtain ⟨b2, o2, rfl, -, hc2⟩ := h2.resolve_left (fun e => he (List.length_eq_zero_iff.1 (by rw [hnm, e]; rfl)))
      have hr1 : ∀ j, j < xs.length → ∀ i v, (encId xs[j]!)[i]? = some v → w.cell? ⟨b1, o1 + j * 3 + i, none⟩ = some v := fun j hj => hc1 j _ (by simp [hj])
      have hr2 : ∀ j, j < ys.length → ∀ i v, (encId ys[j]!)[i]? = some v → w.cell? ⟨b2, o2 + j * 3 + i, none⟩ = some v := fun j hj => hc2 j _ (by simp [hj])
      clear hc1 hc2 h1 h2
      generalize hn : xs.length = n at hnm hb1 hr1 ⊢
      rw [← hnm] at hr2 hb2 ⊢
      have HN : Hid (xs.length = n ∧ n = ys.length) := ⟨hn, hnm⟩
      clear hn hnm
      go_enter Try.func32, Try.ntmps32
      go_wp2_with fail
      go_loopg [13] n (fun g s13 wr => ∃ kk q : Nat, kk ≤ n ∧ n - kk ≤ g ∧ s13 = .int .i64 kk ∧ wr = w.drewN q ∧ Aside (∀ j, j < kk → eqId xs[j]! ys[j]! = true))
      case atStart => exact ⟨0, 0, Nat.zero_le _, by omega, rfl, rfl, fun j hj => absurd hj (Nat.not_lt_zero _)⟩
      case round =>
        obtain ⟨kk, q, hkk, hg, rfl, rfl, A⟩ := hrel
        by_cases hlt : kk < n
        · have g1 : ∀ i v, (encId xs[kk]!)[i]? = some v → (w.drewN q).cell? ⟨b1, o1 + kk * 3 + i, none⟩ = some v := fun i v hv => by rw [World.cell?_drewN]; exact hr1 kk (by omega) i v hv
          have g2 : ∀ i v, (encId ys[kk]!)[i]? = some v → (w.drewN q).cell? ⟨b2, o2 + kk * 3 + i, none⟩ = some v := fun i v hv => by rw [World.cell?_drewN]; exact hr2 kk (by omega) i v hv
          clear hr1 hr2
          generalize hxk : xs[kk]! = x at g1
          generalize hyk : ys[kk]! = y at g2
          generalize hwq : w.drewN q = wq at g1 g2 ⊢
          have B : Aside (xs[kk]! = x ∧ ys[kk]! = y) := ⟨hxk, hyk⟩
          clear hxk hyk
          unfold encId at g1 g2 hne' hgd'
          have x0 := g1 0 _ rfl; have x1 := g1 1 _ rfl; have x2 := g1 2 _ rfl; have y0 := g2 0 _ rfl; have y1 := g2 1 _ rfl; have y2 := g2 2 _ rfl
          try (have x3 := g1 3 _ rfl; have y3 := g2 3 _ rfl)
          try (have x4 := g1 4 _ rfl; have y4 := g2 4 _ rfl)
          try (have x5 := g1 5 _ rfl; have y5 := g2 5 _ rfl)
          try (have x6 := g1 6 _ rfl; have y6 := g2 6 _ rfl)
          try (have x7 := g1 7 _ rfl; have y7 := g2 7 _ rfl)
          try (have x8 := g1 8 _ rfl; have y8 := g2 8 _ rfl)
          rw [Nat.add_zero] at x0 y0
          clear g1 g2
          cases hxy : eqId x y with
          | true =>
            go_wp2_with fail
            go_quiet_o (fail)
            go_wp2
            go_roundg (n - (kk + 1))
            case measure => omega
            case rel =>
              refine ⟨kk + 1, q + nq, by omega, by omega, by go_num, by rw [← hwq, World.drewN_drewN], (show Aside _ from fun j hj => ?_)⟩
              by_cases e : j = kk
              · subst e
                rw [B.out.1, B.out.2]; exact hxy
              · exact A.out j (by omega)
          | false =>
            go_wp2_with fail
            go_quiet_o (fail)
            go_wp2
            go_ret
            refine ⟨?_, q + nq, by rw [← hwq, World.drewN_drewN]⟩
            rw [Lib.allEq_elem eqId xs ys kk (by have := HN.out; omega) (by have := HN.out; omega) (by rw [B.out.1, B.out.2]; exact hxy)]
            rfl
        · have : kk = n := by omega
          subst this
          clear hr1 hr2
          go_wp2
          go_ret
          refine ⟨?_, q, rfl⟩
          rw [Lib.allEq_all eqId xs ys (by have := HN.out; omega) (fun j hj => A.out j (by have := HN.out; omega))]
          rfl
  · have hnm' : ¬ (xs.length : Int) = (ys.length : Int) := by omega
    clear h1 h2
    go_enter Try.func32, Try.ntmps32
    go_wp2
    go_ret
    refine ⟨?_, 0, rfl⟩
    rw [Lib.allEq_len eqId xs ys hnm]
    rfl
end Go.Proofs.Ytoiaecfiinkmjaa
