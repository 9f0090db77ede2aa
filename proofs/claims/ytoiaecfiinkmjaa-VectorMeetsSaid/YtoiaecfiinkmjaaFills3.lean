/- gessolaw13.VectorFills: the walk where there are at most 60 ids. -/
import Derived.Test.YtoiaecfiinkmjaaFills2
namespace Go.Proofs.Ytoiaecfiinkmjaa
open Go.RowKit Go.Shelf

theorem okVec_set {A : Nat → Int} (hA : okVec A = true) {k : Nat} (hk : 1 ≤ k) {x : Int} (hx : x ≤ maxT) : okVec (setV A k x) = true := by
  obtain ⟨h0, h1⟩ := (okVec_iff A).1 hA
  refine (okVec_iff _).2 ⟨by unfold setV; rw [if_neg (by omega)]; exact h0, fun j a b => ?_⟩
  unfold setV
  split
  · exact hx
  · exact h1 j a b
theorem posV_set {A : Nat → Int} (hA : posV A) {k : Nat} {x : Int} (hx : 0 ≤ x) : posV (setV A k x) := by
  intro j
  unfold setV
  split
  · exact hx
  · exact hA j
theorem fill_ok : ∀ (l : List Str) (A : Nat → Int), okVec A = true → posV A → (∀ x ∈ l, goodStr x ∧ 1 ≤ x.s.toNat) → okVec (fillV A l) = true ∧ posV (fillV A l)
  | [], A, h1, h2, _ => ⟨h1, h2⟩
  | x :: l, A, h1, h2, h => by
    obtain ⟨hx, hs⟩ := h x (by simp)
    unfold goodStr at hx
    exact fill_ok l _ (okVec_set h1 hs hx.2.2) (posV_set h2 (by omega)) (fun y hy => h y (by simp [hy]))

theorem lid_agg (s q : Int) (w : World) : Calls Try.prog 14 #[.int .i64 s, .int .u64 q] w (Ret (.agg #[.int .u64 9, .int .i64 s, .int .u64 q]) w) := lid_any s q w

/-- what a round's callees answer: the id s of site k, where A has what stands ahead of it. -/
structure Round (B1 B2 g : Nat → Int) (k : Nat) (s : Int) : Prop where
  has : ∀ W, Calls Try.prog 15 #[vec B1, idV 9 (k : Int) s] W (Ret (.bool false) W)
  next : ∀ W, Calls Try.prog 16 #[vec B1, idV 9 (k : Int) s] W (Ret (.bool true) W)
  hasg : ∀ W, Calls Try.prog 15 #[vec g, idV 9 (k : Int) s] W (Ret (.bool true) W)
  with_ : ∀ a c W, IdSl W a 1 [⟨9, (k : Int), s⟩] → Calls Try.prog 17 #[vec B1, .slice a 1 c] W (Ret (.tuple #[vec B2, .int .i64 0]) W)
  hasn : ∀ W, Calls Try.prog 15 #[vec B2, idV 9 (k : Int) s] W (Ret (.bool true) W)
  cov : ∀ W, Calls Try.prog 10 #[vec B2, vec B1] W (Ret (.bool true) W)

theorem round_of {A g : Nat → Int} {k : Nat} {s : Int} (hA : okVec A = true) (hpA : posV A) (hg : okVec g = true) (hpg : posV g) (hk : 1 ≤ k) (hk9 : k < 9) (hs : 1 ≤ s) (hsg : s ≤ g k) : Round (setV A k (s - 1)) (setV A k s) g k s := by
  have hgm := okVec_le hg hk9
  have hid : okId 9 (k : Int) s = true := (okId_iff _ _ _).2 ⟨by omega, by unfold maxT; omega, by omega, by omega, hs, by omega⟩
  have o1 : okVec (setV A k (s - 1)) = true := okVec_set hA hk (by omega)
  have o2 : okVec (setV A k s) = true := okVec_set hA hk (by omega)
  have p1 : posV (setV A k (s - 1)) := posV_set hpA (by omega)
  have p2 : posV (setV A k s) := posV_set hpA (by omega)
  have t : ((k : Int)).toNat = k := Int.toNat_natCast k
  refine ⟨fun W => ?_, fun W => ?_, fun W => ?_, fun a c W h => ?_, fun W => ?_, fun W => ?_⟩
  · have := Has_any _ p1 9 (k : Int) s W
    rwa [show hasB (setV A k (s - 1)) 9 (k : Int) s = false by simp [hasB, o1, hid, setV_at]; omega] at this
  · have := Next_any _ p1 9 (k : Int) s W
    rwa [show nextB (setV A k (s - 1)) 9 (k : Int) s = true by simp [nextB, o1, hid, setV_at]] at this
  · have := Has_any _ hpg 9 (k : Int) s W
    rwa [show hasB g 9 (k : Int) s = true by simp [hasB, hg, hid]; exact hsg] at this
  · have := With_any _ p1 a 1 c _ W h
    rwa [show withV (setV A k (s - 1)) [⟨9, (k : Int), s⟩] = (0, setV A k s) by
      rw [withV, if_pos o1]
      unfold withS
      simp only [Idn.ok, hid, t, setV_at]
      rw [if_neg (by simp), if_neg (by omega), if_pos (by omega)]
      unfold withS
      rw [upd_setV]
      congr 2
      omega] at this
  · have := Has_any _ p2 9 (k : Int) s W
    rwa [show hasB (setV A k s) 9 (k : Int) s = true by simp [hasB, o2, hid, setV_at]] at this
  · have := Covers_any (setV A k s) (setV A k (s - 1)) W
    rwa [(covB_iff _ _).2 ⟨o2, o1, fun j _ => by unfold setV; split <;> omega⟩] at this

/-- what a round reads. -/
def InL (W : World) (qa q1 p9 p11 : Nat) (A g : Nat → Int) (k : Nat) (s a b : Int) : Prop :=
  Blk W qa 24 (vecC A) ∧ Blk W q1 24 (vecC g) ∧ Blk W p9 36 #[.int .i64 (k : Int), .int .u64 a, .int .u64 b] ∧ Blk W p11 38 #[.int .u64 9, .int .i64 (k : Int), .int .u64 s]
theorem InL.below {W W' : World} {qa q1 p9 p11 : Nat} {A g : Nat → Int} {k : Nat} {s a b : Int} (H : InL W qa q1 p9 p11 A g k s a b) (hb : Below W.heap.size W W') : InL W' qa q1 p9 p11 A g k s a b :=
  ⟨H.1.below hb H.1.lt, H.2.1.below hb H.2.1.lt, H.2.2.1.below hb H.2.2.1.lt, H.2.2.2.below hb H.2.2.2.lt⟩
theorem sum_take {L : List Str} (h : ∀ x ∈ L, goodStr x) (k : Nat) : 0 ≤ sumOf (L.take k) ∧ sumOf (L.take k) ≤ sumOf L := by
  have h0 := sum_nonneg (L.take k) 0 (fun y hy => h y (List.mem_of_mem_take hy)) (Int.le_refl _)
  refine ⟨h0, ?_⟩
  have e : sumOf L = (L.drop k).foldl (fun s x => s + (x.b - x.a + 1)) (sumOf (L.take k)) := by
    show L.foldl _ 0 = _
    conv => lhs; rw [← List.take_append_drop k L]
    rw [List.foldl_append]
    rfl
  rw [e]
  exact sum_nonneg _ _ (fun y hy => h y (List.mem_of_mem_drop hy)) h0
/-- what is known of the stretch k. -/
theorem stretch_at {f g : Nat → Int} (hpf : posV f) (hf : okVec f = true) (hg : okVec g = true) {k : Nat} {x : Str} (hx : (lackR f g)[k]? = some x) :
    ∃ k0 : Nat, 1 ≤ k0 ∧ k0 < 9 ∧ f k0 < g k0 ∧ x = ⟨(k0 : Int), f k0 + 1, g k0⟩ ∧ fillV f ((lackR f g).take k) k0 = f k0 ∧ okVec (fillV f ((lackR f g).take k)) = true ∧ posV (fillV f ((lackR f g).take k)) := by
  have hgood := lackR_good (f := f) (g := g) hpf
  have hL : lackR f g = lackOf f g [1,2,3,4,5,6,7,8] := if_pos ⟨hf, hg⟩
  have hmem := List.mem_of_getElem? hx
  rw [hL] at hmem
  obtain ⟨k0, hk0, hlt, rfl⟩ := lackOf_mem hmem
  have hk : 1 ≤ k0 ∧ k0 < 9 := by simp at hk0; omega
  have hnd := lackOf_nodup f g [1,2,3,4,5,6,7,8] (by decide)
  rw [← hL] at hnd
  have hout := fillV_out ((lackR f g).take k) f k0 (fun y hy => by simpa using nodup_take hnd hx y hy)
  have hfill := fill_ok ((lackR f g).take k) f hf hpf (fun y hy => by
    have hy' := List.mem_of_mem_take hy
    refine ⟨hgood y hy', ?_⟩
    rw [hL] at hy'
    obtain ⟨j, hj, _, rfl⟩ := lackOf_mem hy'
    simp at hj ⊢
    omega)
  exact ⟨k0, hk.1, hk.2, hlt, rfl, hout, hfill.1, hfill.2⟩
theorem fill_eq {f g : Nat → Int} (hpf : posV f) (hf : okVec f = true) (hg : okVec g = true) : eqVec (fillV f (lackR f g)) (fun k => max (f k) (g k)) = true := by
  have hL : lackR f g = lackOf f g [1,2,3,4,5,6,7,8] := if_pos ⟨hf, hg⟩
  have h0 : g 0 = 0 := ((okVec_iff g).1 hg).1
  have hp := hpf 0
  have h : ∀ j, j < 9 → fillV f (lackR f g) j = max (f j) (g j) := by
    intro j hj
    rw [hL, fillV_lack f g j _ f (.inl rfl)]
    split
    · rfl
    · rename_i hn
      have : j = 0 := by simp at hn; omega
      subst this
      omega
  unfold eqVec
  simp only [h 0 (by omega), h 1 (by omega), h 2 (by omega), h 3 (by omega), h 4 (by omega), h 5 (by omega), h 6 (by omega), h 7 (by omega), h 8 (by omega), beq_self_eq_true, Bool.and_self]
end Go.Proofs.Ytoiaecfiinkmjaa
