/- slices.Equal, slices.Clone at uint64: their contracts. -/
import Derived.Test.YtoiaecfiinkmjaaDoorClock3
namespace Go.Proofs.YtoiaecfiinkmjaaDoor
open Go.RowKit Go.Shelf Go.Lib

def eqU (x y : Int) : Bool := x == y
theorem infoU : (Tryd.prog.info? 25).map (fun i => (i.zero, i.size, i.bytes)) = some (some (.int .u64 0), 1, 8) := by kernel_rfl
abbrev zU : Value := .int .u64 0
theorem oneU (x : Int) : ∀ u ∈ encU x, u.oneCell' = true := by intro u hu; simp [encU] at hu; subst hu; rfl
set_option maxHeartbeats 2000000 in
set_option maxRecDepth 100000 in
theorem EqualU (a1 a2 : Option Addr) (n c m d : Nat) (xs ys : List Int) (w : World) (h1 : RowS encU 1 w a1 n xs) (h2 : RowS encU 1 w a2 m ys) :
    Calls Tryd.prog 24 #[.slice a1 n c, .slice a2 m d] w fun e w' => e = .returned (.bool (allEq eqU xs ys)) ∧ ∃ q, w' = w.drewN q := by
  obtain ⟨rfl, hb1, h1⟩ := h1
  obtain ⟨rfl, hb2, h2⟩ := h2
  have mixed : Tryd.prog.follows .mixedOrders = true := rfl
  have aE := Tryd.isAgg25
  have zE := Tryd.sizeOf25
  by_cases hnm : xs.length = ys.length
  · by_cases he : xs = []
    · subst he
      obtain rfl : ys = [] := List.length_eq_zero_iff.1 hnm.symm
      clear h1 h2
      go_enter Tryd.func24, Tryd.ntmps24
      go_wp2_with fail
      refine wp_loop_rounds 1 ?_
      rw [rounds_succ]
      go_wp2_with fail
      go_ret
      exact ⟨rfl, 0, rfl⟩
    · obtain ⟨b1, o1, rfl, -, hc1⟩ := h1.resolve_left he
      obtain ⟨b2, o2, rfl, -, hc2⟩ := h2.resolve_left (fun e => he (List.length_eq_zero_iff.1 (by rw [hnm, e]; rfl)))
      have hr1 : ∀ j, j < xs.length → ∀ i v, (encU xs[j]!)[i]? = some v → w.cell? ⟨b1, o1 + j * 1 + i, none⟩ = some v := fun j hj => hc1 j _ (by simp [hj])
      have hr2 : ∀ j, j < ys.length → ∀ i v, (encU ys[j]!)[i]? = some v → w.cell? ⟨b2, o2 + j * 1 + i, none⟩ = some v := fun j hj => hc2 j _ (by simp [hj])
      clear hc1 hc2 h1 h2
      generalize hn : xs.length = n at hnm hb1 hr1 ⊢
      rw [← hnm] at hr2 hb2 ⊢
      have HN : Hid (xs.length = n ∧ n = ys.length) := ⟨hn, hnm⟩
      clear hn hnm
      go_enter Tryd.func24, Tryd.ntmps24
      go_wp2_with fail
      go_loopg [13] n (fun g s13 wr => ∃ kk q : Nat, kk ≤ n ∧ n - kk ≤ g ∧ s13 = .int .i64 kk ∧ wr = w.drewN q ∧ Aside (∀ j, j < kk → eqU xs[j]! ys[j]! = true))
      case atStart => exact ⟨0, 0, Nat.zero_le _, by omega, rfl, rfl, fun j hj => absurd hj (Nat.not_lt_zero _)⟩
      case round =>
        obtain ⟨kk, q, hkk, hg, rfl, rfl, A⟩ := hrel
        by_cases hlt : kk < n
        · have g1 : ∀ i v, (encU xs[kk]!)[i]? = some v → (w.drewN q).cell? ⟨b1, o1 + kk * 1 + i, none⟩ = some v := fun i v hv => by rw [World.cell?_drewN]; exact hr1 kk (by omega) i v hv
          have g2 : ∀ i v, (encU ys[kk]!)[i]? = some v → (w.drewN q).cell? ⟨b2, o2 + kk * 1 + i, none⟩ = some v := fun i v hv => by rw [World.cell?_drewN]; exact hr2 kk (by omega) i v hv
          clear hr1 hr2
          generalize hxk : xs[kk]! = x at g1
          generalize hyk : ys[kk]! = y at g2
          generalize hwq : w.drewN q = wq at g1 g2 ⊢
          have B : Aside (xs[kk]! = x ∧ ys[kk]! = y) := ⟨hxk, hyk⟩
          clear hxk hyk
          unfold encU at g1 g2
          have x0 := g1 0 _ rfl
          have y0 := g2 0 _ rfl
          rw [Nat.add_zero, Nat.mul_one] at x0 y0
          clear g1 g2
          cases hxy : eqU x y with
          | true =>
            have hxn : (x != y) = false := by simpa [eqU] using hxy
            go_wp2_with fail
            go_quiet_o (fail)
            go_wp2
            go_roundg (n - (kk + 1))
            case measure => omega
            case rel =>
              refine ⟨kk + 1, q + nq, by omega, by omega, by go_num, by rw [← hwq, World.drewN_drewN], (show Aside _ from fun j hj => ?_)⟩
              by_cases e : j = kk
              · subst e
                rw [B.out.1, B.out.2]; exact hxy
              · exact A.out j (by omega)
          | false =>
            have hxn : (x != y) = true := by simpa [eqU] using hxy
            go_wp2_with fail
            go_quiet_o (fail)
            go_wp2
            go_ret
            refine ⟨?_, q + nq, by rw [← hwq, World.drewN_drewN]⟩
            rw [Lib.allEq_elem eqU xs ys kk (by have := HN.out; omega) (by have := HN.out; omega) (by rw [B.out.1, B.out.2]; exact hxy)]
            rfl
        · have : kk = n := by omega
          subst this
          clear hr1 hr2
          go_wp2
          go_ret
          refine ⟨?_, q, rfl⟩
          rw [Lib.allEq_all eqU xs ys (by have := HN.out; omega) (fun j hj => A.out j (by have := HN.out; omega))]
          rfl
  · have hnm' : ¬ (xs.length : Int) = (ys.length : Int) := by omega
    clear h1 h2
    go_enter Tryd.func24, Tryd.ntmps24
    go_wp2
    go_ret
    refine ⟨?_, 0, rfl⟩
    rw [Lib.allEq_len eqU xs ys hnm]
    rfl
set_option maxRecDepth 100000 in
set_option maxHeartbeats 1000000 in
theorem CloneOwnU (a : Option Addr) (n c : Nat) (L : List Int) (w : World) (hS : RowS encU 1 w a n L) (hlen : L.length ≤ 1000) :
    Calls Tryd.prog 15 #[.slice a n c] w (ClonedOwn encU 1 n 25 L w) := by
  obtain ⟨rfl, hb1, hL⟩ := hS
  obtain ⟨i0, hi, hz0, hz1, hz2⟩ : ∃ i0, Tryd.prog.info? 25 = some i0 ∧ i0.zero = some zU ∧ i0.size = 1 ∧ i0.bytes = 8 := by
    have h := infoU
    cases e : Tryd.prog.info? 25 with
    | none => rw [e] at h; cases h
    | some i0 => rw [e] at h; simp at h; exact ⟨i0, rfl, h⟩
  cases a with
  | none =>
    obtain rfl : L = [] := by
      rcases hL with h | ⟨b, off, h, _⟩
      · exact h
      · cases h
    have hse : ∀ w, (binOp .eql 38 (.slice none 0 c) (.slice none 0 0)).run Tryd.prog w = .ok (.bool true) w := fun w => by simp [binOp, run_equal_slice_nil w 38 _ _ _ _ Tryd.underlying38]
    go_enter Tryd.func15, Tryd.ntmps15
    go_wp2
    go_ret
    exact ⟨_, rfl, World.ownsRow_nil _ _ _ _, Below.refl _ _⟩
  | some p =>
    have hnews : ∀ j u, (L.flatMap encU)[j]? = some u → (w.alloc (.cells #[] 25)).cell? (p.add j) = some u := by
      rcases hL with rfl | ⟨b, off, h, hlt, hv⟩
      · intro j u hu; simp at hu
      · intro j u hu
        cases h
        have := row_cells (k := 1) (by omega) (fun _ => rfl) hv j u hu
        rw [show (⟨b, off, none⟩ : Addr).add j = ⟨b, off + j, none⟩ from by simp [Addr.add]]
        rw [World.cell?_of_block (w := w) (Below.heap_alloc w _ b hlt)]
        exact this
    have hone : ∀ u ∈ L.flatMap encU, u.oneCell' = true := by
      intro u hu
      obtain ⟨x, _, hx⟩ := List.mem_flatMap.1 hu
      exact oneU x u hx
    have hown : (w.alloc (.cells #[] 25)).ownsRow w.heap.size 25 1 (.slice (some ⟨w.heap.size, 0, none⟩) 0 0) 0 [] :=
      ⟨rfl, .inr ⟨w.heap.size, 0, #[], rfl, Nat.le_refl _, World.alloc_heap_new w _, Nat.le_refl _, by simp [maxLen], rfl, rfl⟩⟩
    have HN := Lib.hid hnews
    clear hnews hL
    have hse : ∀ w, (binOp .eql 38 (.slice (some p) L.length c) (.slice none 0 0)).run Tryd.prog w = .ok (.bool false) w := fun w => by simp [binOp, run_equal_slice_nil w 38 _ _ _ _ Tryd.underlying38]
    go_enter Tryd.func15, Tryd.ntmps15
    go_wp2_with (at_builtin; refine wpList_append_own _ rfl _ _ 38 rfl w.heap.size 25 i0 zU 1 8 Tryd.underlying38 hi hz0 hz1 hz2 rfl (by decide) _ _ _ rfl hown p L.length c (L.flatMap encU) rfl (flat_length (enc := encU) (k := 1) (fun _ => rfl) L) HN.out hone (by unfold maxLen; omega) (by omega) (by simp) ?_; intro v' w1 hown' hgrow' hnil'; rw [Nat.zero_add, List.nil_append] at hown'; have HR := Lib.hid hown'; have HB : Hid (Below w.heap.size w w1) := ((Below.refl w.heap.size w).alloc (Nat.le_refl _) _).grown hgrow' (by simp) (fun k e => Nat.le_of_eq (own_at e)); clear hown' hgrow' hnil')
    go_ret
    exact ⟨v', rfl, HR.out, HB.out⟩
theorem CloneU (a : Option Addr) (n c : Nat) (L : List Int) (w : World) (hS : RowS encU 1 w a n L) (hlen : L.length ≤ 1000) :
    Calls Tryd.prog 15 #[.slice a n c] w (Cloned encU 1 n L w) :=
  (CloneOwnU a n c L w hS hlen).mono fun e w' ⟨v, he, ho, hb⟩ => by
    have hn := hS.1
    subst hn
    obtain ⟨a', c', rfl, hr⟩ := rowS_of_own (enc := encU) (k := 1) (fun _ => rfl) ho
    exact ⟨a', c', he, hr, hb⟩
end Go.Proofs.YtoiaecfiinkmjaaDoor
