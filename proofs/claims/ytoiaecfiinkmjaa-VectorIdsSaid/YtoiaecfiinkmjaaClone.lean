/- slices.Clone at rows of vectors, of ids. -/
import Derived.Test.YtoiaecfiinkmjaaMany
namespace Go.Proofs.Ytoiaecfiinkmjaa
open Go.RowKit Go.Shelf

theorem infoVec : (Try.prog.info? 24).map (fun i => (i.zero, i.size, i.bytes)) = some (some (.agg #[.int .u64 0, .int .u64 0, .int .u64 0, .int .u64 0, .int .u64 0, .int .u64 0, .int .u64 0, .int .u64 0, .int .u64 0]), 9, 72) := by kernel_rfl
theorem infoId : (Try.prog.info? 38).map (fun i => (i.zero, i.size, i.bytes)) = some (some (.agg #[.int .u64 0, .int .i64 0, .int .u64 0]), 3, 24) := by kernel_rfl
abbrev zVec : Value := .agg #[.int .u64 0, .int .u64 0, .int .u64 0, .int .u64 0, .int .u64 0, .int .u64 0, .int .u64 0, .int .u64 0, .int .u64 0]
abbrev zId : Value := .agg #[.int .u64 0, .int .i64 0, .int .u64 0]
theorem oneVec (f : Nat → Int) : ∀ u ∈ encVec f, u.oneCell' = true := by intro u hu; simp [encVec] at hu; rcases hu with rfl | rfl | rfl | rfl | rfl | rfl | rfl | rfl | rfl <;> rfl
theorem oneId (x : Idn) : ∀ u ∈ encId x, u.oneCell' = true := by intro u hu; simp [encId] at hu; rcases hu with rfl | rfl | rfl <;> rfl

/-- the cells of a row that came in. -/
theorem row_cells {α : Type} {enc : α → List Value} {k : Nat} (hk0 : 0 < k) (hk : ∀ x, (enc x).length = k) {W : World} {b off : Nat} {L : List α}
    (h : ∀ j x, L[j]? = some x → ∀ i v, (enc x)[i]? = some v → W.cell? ⟨b, off + j * k + i, none⟩ = some v) :
    ∀ j u, (L.flatMap enc)[j]? = some u → W.cell? ⟨b, off + j, none⟩ = some u := by
  intro j u hu
  have hj : j < L.length * k := by have := (List.getElem?_eq_some_iff.1 hu).1; rwa [flat_length hk] at this
  have hi : j / k < L.length := (Nat.div_lt_iff_lt_mul hk0).2 hj
  have hr : j % k < k := Nat.mod_lt _ hk0
  have he : j / k * k + j % k = j := by rw [Nat.mul_comm]; exact Nat.div_add_mod j k
  have h1 : L[j / k]? = some L[j / k] := List.getElem?_eq_getElem hi
  have h2 : (enc L[j / k])[j % k]? = some ((enc L[j / k])[j % k]'(by rw [hk]; exact hr)) := List.getElem?_eq_getElem _
  have h3 := flat_get hk L (j / k) _ h1 (j % k) _ h2
  rw [he, hu] at h3
  rw [Option.some.inj h3, show off + j = off + j / k * k + j % k by omega]
  exact h _ _ h1 _ _ h2

theorem own_at {g n c k : Nat} (h : (Value.slice (some ⟨g, 0, none⟩) n c).ownBlock = some k) : g = k := by simpa [Value.ownBlock] using h
/-- a copy of a row. -/
def Cloned {α : Type} (enc : α → List Value) (k n : Nat) (L : List α) (w : World) (e : Ending) (w' : World) : Prop := ∃ a' c', e = .returned (.slice a' n c') ∧ RowS enc k w' a' n L ∧ Below w.heap.size w w'

/-- a copy of a row, of the call's own. -/
def ClonedOwn {α : Type} (enc : α → List Value) (k n : Nat) (E : TypeId) (L : List α) (w : World) (e : Ending) (w' : World) : Prop := ∃ v, e = .returned v ∧ w'.ownsRow w.heap.size E k v n (L.flatMap enc) ∧ Below w.heap.size w w'

set_option maxRecDepth 100000 in
set_option maxHeartbeats 1000000 in
theorem CloneOwnVec (a : Option Addr) (n c : Nat) (L : List (Nat → Int)) (w : World) (hS : RowS encVec 9 w a n L) (hlen : L.length ≤ 1000) :
    Calls Try.prog 18 #[.slice a n c] w (ClonedOwn encVec 9 n 24 L w) := by
  obtain ⟨rfl, hb1, hL⟩ := hS
  obtain ⟨i0, hi, hz0, hz1, hz2⟩ : ∃ i0, Try.prog.info? 24 = some i0 ∧ i0.zero = some zVec ∧ i0.size = 9 ∧ i0.bytes = 72 := by
    have h := infoVec
    cases e : Try.prog.info? 24 with
    | none => rw [e] at h; cases h
    | some i0 => rw [e] at h; simp at h; exact ⟨i0, rfl, h⟩
  cases a with
  | none =>
    obtain rfl : L = [] := by
      rcases hL with h | ⟨b, off, h, _⟩
      · exact h
      · cases h
    have hse : ∀ w, (binOp .eql 42 (.slice none 0 c) (.slice none 0 0)).run Try.prog w = .ok (.bool true) w := fun w => by simp [binOp, run_equal_slice_nil w 42 _ _ _ _ Try.underlying42]
    go_enter Try.func18, Try.ntmps18
    go_wp2
    go_ret
    exact ⟨_, rfl, World.ownsRow_nil _ _ _ _, Below.refl _ _⟩
  | some p =>
    have hnews : ∀ j u, (L.flatMap encVec)[j]? = some u → (w.alloc (.cells #[] 24)).cell? (p.add j) = some u := by
      rcases hL with rfl | ⟨b, off, h, hlt, hv⟩
      · intro j u hu; simp at hu
      · intro j u hu
        cases h
        have := row_cells (k := 9) (by omega) (fun _ => rfl) hv j u hu
        rw [show (⟨b, off, none⟩ : Addr).add j = ⟨b, off + j, none⟩ from by simp [Addr.add]]
        rw [World.cell?_of_block (w := w) (Below.heap_alloc w _ b hlt)]
        exact this
    have hone : ∀ u ∈ L.flatMap encVec, u.oneCell' = true := by
      intro u hu
      obtain ⟨x, _, hx⟩ := List.mem_flatMap.1 hu
      exact oneVec x u hx
    have hown : (w.alloc (.cells #[] 24)).ownsRow w.heap.size 24 9 (.slice (some ⟨w.heap.size, 0, none⟩) 0 0) 0 [] :=
      ⟨rfl, .inr ⟨w.heap.size, 0, #[], rfl, Nat.le_refl _, World.alloc_heap_new w _, Nat.le_refl _, by simp [maxLen], rfl, rfl⟩⟩
    have HN := Lib.hid hnews
    clear hnews hL
    have hse : ∀ w, (binOp .eql 42 (.slice (some p) L.length c) (.slice none 0 0)).run Try.prog w = .ok (.bool false) w := fun w => by simp [binOp, run_equal_slice_nil w 42 _ _ _ _ Try.underlying42]
    go_enter Try.func18, Try.ntmps18
    go_wp2_with (at_builtin; refine wpList_append_own _ rfl _ _ 42 rfl w.heap.size 24 i0 zVec 9 72 Try.underlying42 hi hz0 hz1 hz2 rfl (by decide) _ _ _ rfl hown p L.length c (L.flatMap encVec) rfl (flat_length (enc := encVec) (k := 9) (fun _ => rfl) L) HN.out hone (by unfold maxLen; omega) (by omega) (by simp) ?_; intro v' w1 hown' hgrow' hnil'; rw [Nat.zero_add, List.nil_append] at hown'; have HR := Lib.hid hown'; have HB : Hid (Below w.heap.size w w1) := ((Below.refl w.heap.size w).alloc (Nat.le_refl _) _).grown hgrow' (by simp) (fun k e => Nat.le_of_eq (own_at e)); clear hown' hgrow' hnil')
    go_ret
    exact ⟨v', rfl, HR.out, HB.out⟩
theorem CloneVec (a : Option Addr) (n c : Nat) (L : List (Nat → Int)) (w : World) (hS : RowS encVec 9 w a n L) (hlen : L.length ≤ 1000) :
    Calls Try.prog 18 #[.slice a n c] w (Cloned encVec 9 n L w) :=
  (CloneOwnVec a n c L w hS hlen).mono fun e w' ⟨v, he, ho, hb⟩ => by
    have hn := hS.1
    subst hn
    obtain ⟨a', c', rfl, hr⟩ := rowS_of_own (enc := encVec) (k := 9) (fun _ => rfl) ho
    exact ⟨a', c', he, hr, hb⟩
set_option maxRecDepth 100000 in
set_option maxHeartbeats 1000000 in
theorem CloneOwnId (a : Option Addr) (n c : Nat) (L : List Idn) (w : World) (hS : RowS encId 3 w a n L) (hlen : L.length ≤ 1000) :
    Calls Try.prog 26 #[.slice a n c] w (ClonedOwn encId 3 n 38 L w) := by
  obtain ⟨rfl, hb1, hL⟩ := hS
  obtain ⟨i0, hi, hz0, hz1, hz2⟩ : ∃ i0, Try.prog.info? 38 = some i0 ∧ i0.zero = some zId ∧ i0.size = 3 ∧ i0.bytes = 24 := by
    have h := infoId
    cases e : Try.prog.info? 38 with
    | none => rw [e] at h; cases h
    | some i0 => rw [e] at h; simp at h; exact ⟨i0, rfl, h⟩
  cases a with
  | none =>
    obtain rfl : L = [] := by
      rcases hL with h | ⟨b, off, h, _⟩
      · exact h
      · cases h
    have hse : ∀ w, (binOp .eql 50 (.slice none 0 c) (.slice none 0 0)).run Try.prog w = .ok (.bool true) w := fun w => by simp [binOp, run_equal_slice_nil w 50 _ _ _ _ Try.underlying50]
    go_enter Try.func26, Try.ntmps26
    go_wp2
    go_ret
    exact ⟨_, rfl, World.ownsRow_nil _ _ _ _, Below.refl _ _⟩
  | some p =>
    have hnews : ∀ j u, (L.flatMap encId)[j]? = some u → (w.alloc (.cells #[] 38)).cell? (p.add j) = some u := by
      rcases hL with rfl | ⟨b, off, h, hlt, hv⟩
      · intro j u hu; simp at hu
      · intro j u hu
        cases h
        have := row_cells (k := 3) (by omega) (fun _ => rfl) hv j u hu
        rw [show (⟨b, off, none⟩ : Addr).add j = ⟨b, off + j, none⟩ from by simp [Addr.add]]
        rw [World.cell?_of_block (w := w) (Below.heap_alloc w _ b hlt)]
        exact this
    have hone : ∀ u ∈ L.flatMap encId, u.oneCell' = true := by
      intro u hu
      obtain ⟨x, _, hx⟩ := List.mem_flatMap.1 hu
      exact oneId x u hx
    have hown : (w.alloc (.cells #[] 38)).ownsRow w.heap.size 38 3 (.slice (some ⟨w.heap.size, 0, none⟩) 0 0) 0 [] :=
      ⟨rfl, .inr ⟨w.heap.size, 0, #[], rfl, Nat.le_refl _, World.alloc_heap_new w _, Nat.le_refl _, by simp [maxLen], rfl, rfl⟩⟩
    have HN := Lib.hid hnews
    clear hnews hL
    have hse : ∀ w, (binOp .eql 50 (.slice (some p) L.length c) (.slice none 0 0)).run Try.prog w = .ok (.bool false) w := fun w => by simp [binOp, run_equal_slice_nil w 50 _ _ _ _ Try.underlying50]
    go_enter Try.func26, Try.ntmps26
    go_wp2_with (at_builtin; refine wpList_append_own _ rfl _ _ 50 rfl w.heap.size 38 i0 zId 3 24 Try.underlying50 hi hz0 hz1 hz2 rfl (by decide) _ _ _ rfl hown p L.length c (L.flatMap encId) rfl (flat_length (enc := encId) (k := 3) (fun _ => rfl) L) HN.out hone (by unfold maxLen; omega) (by omega) (by simp) ?_; intro v' w1 hown' hgrow' hnil'; rw [Nat.zero_add, List.nil_append] at hown'; have HR := Lib.hid hown'; have HB : Hid (Below w.heap.size w w1) := ((Below.refl w.heap.size w).alloc (Nat.le_refl _) _).grown hgrow' (by simp) (fun k e => Nat.le_of_eq (own_at e)); clear hown' hgrow' hnil')
    go_ret
    exact ⟨v', rfl, HR.out, HB.out⟩
theorem CloneId (a : Option Addr) (n c : Nat) (L : List Idn) (w : World) (hS : RowS encId 3 w a n L) (hlen : L.length ≤ 1000) :
    Calls Try.prog 26 #[.slice a n c] w (Cloned encId 3 n L w) :=
  (CloneOwnId a n c L w hS hlen).mono fun e w' ⟨v, he, ho, hb⟩ => by
    have hn := hS.1
    subst hn
    obtain ⟨a', c', rfl, hr⟩ := rowS_of_own (enc := encId) (k := 3) (fun _ => rfl) ho
    exact ⟨a', c', he, hr, hb⟩
end Go.Proofs.Ytoiaecfiinkmjaa
