/- vector.Join, vector.Meet, vector.Covers: their contracts. -/
import Derived.Test.YtoiaecfiinkmjaaJoin
import Derived.Test.YtoiaecfiinkmjaaEq
import Derived.Deep.DeepMust
namespace Go.Proofs.Ytoiaecfiinkmjaa
open Go.RowKit Go.Shelf

theorem results_ct {P : Program} {fn : Func} {p u : Tmp} {ty : TypeId} (h : fn.results = #[.cell p ty, .tmp u]) (tmps : Array Value) (w : World) {a : Addr} {v x : Value}
    (hp : tmps.getD p undef = .pointer (some a)) (hv : (loadVar ty a).run P w = .ok v w) (hu : tmps.getD u undef = x) : (results fn tmps).run P w = .ok (.tuple #[v, x]) w := by
  have hp' : tmps[p]?.getD undef = .pointer (some a) := by simpa using hp
  have hu' : tmps[u]?.getD undef = x := by simpa using hu
  simp [results, h, hp', hu', asAddr, hv]

set_option maxRecDepth 100000 in
set_option maxHeartbeats 1000000 in
theorem Join_run (f r : Nat → Int) (x : Int) (a : Option Addr) (n cap : Nat) (w : World)
    (hcall : ∀ W, Below w.heap.size w W → ∀ p q, Blk W p 24 (vecC f) → Blk W q 42 #[.slice a n cap] → Calls Try.prog 33 #[.func (.func 34) #[] #[.pointer (some ⟨p, 0, none⟩), .pointer (some ⟨q, 0, none⟩)]] W (Ret (.tuple #[vec r, .int .i64 x]) W)) :
    Calls Try.prog 8 #[vec f, .slice a n cap] w (Ret (.tuple #[vec r, .int .i64 x]) w) := by
  have hmf : ∀ (fn : Fn) (first cap : Array Value) (w : World), (Instr.makeFunc fn first cap).run Try.prog w = .ok (.func fn first cap) w := fun _ _ _ _ => rfl
  have b0 := ((Blk.new w 24 (vecC f)).alloc (.cells #[.slice a n cap] 42)).alloc (.cells (vecC fun _ => 0) 24)
  have b1 := (Blk.new (w.alloc (.cells (vecC f) 24)) 42 #[.slice a n cap]).alloc (.cells (vecC fun _ => 0) 24)
  have b2 := Blk.new ((w.alloc (.cells (vecC f) 24)).alloc (.cells #[.slice a n cap] 42)) 24 (vecC fun _ => 0)
  rw [World.size_alloc] at b1
  rw [World.size_alloc, World.size_alloc] at b2
  have hB : Below w.heap.size w (((w.alloc (.cells (vecC f) 24)).alloc (.cells #[.slice a n cap] 42)).alloc (.cells (vecC fun _ => 0) 24)) := by go_grown
  have hs : w.heap.size + 2 < (((w.alloc (.cells (vecC f) 24)).alloc (.cells #[.slice a n cap] 42)).alloc (.cells (vecC fun _ => 0) 24)).heap.size := by simp
  have HC := Lib.hid (hcall _ hB _ _ b0 b1)
  have HB0 := Lib.hid hB
  have HB2 := Lib.hid b2
  have HS := Lib.hid hs
  clear hcall hB b0 b1 b2 hs
  go_enter Try.func8, Try.ntmps8
  unfold vec
  go_wp2_with (first | (refine L_vstore (.tmp 4) (.tmp 8) r rfl rfl HK.out ?_) | (go_at_call 33; refine HC.out.mono ?_; rintro e W ⟨rfl, hb⟩; have HK := Lib.hid (HB2.out.below hb HS.out); have HB : Hid (Below w.heap.size w W) := HB0.out.trans (hb.mono (by simp; omega)); clear hb))
  exact bodyPost_ret (v := .tuple #[vec r, .int .i64 x]) (results_ct rfl _ _ rfl (HK.out.row (vecC r)).vload rfl) rfl ⟨rfl, below_setRow HB.out (by omega) _⟩

theorem Join_ok (f : Nat → Int) (a : Option Addr) (n cap : Nat) (L : List (Nat → Int)) (w : World) (hS : VSl w a n L) (hok : okVecs f L = true) :
    Calls Try.prog 8 #[vec f, .slice a n cap] w (Ret (.tuple #[vec fun k => L.foldl (fun x l => max x (l k)) (f k), .int .i64 0]) w) :=
  Join_run f _ 0 a n cap w fun W hW p q hp hq => tries_ret 34 _ (enters_of Try.func34 (by kernel_rfl) rfl) _ W fun W' hW' =>
    Join1_ok p q cap _ _ f a n L W' (hp.below hW' hp.lt) (hq.below hW' hq.lt) ((hS.below hW).below hW') hok
theorem Join_bad (f : Nat → Int) (a : Option Addr) (n cap : Nat) (L : List (Nat → Int)) (w : World) (hS : VSl w a n L) (hok : okVecs f L = false) :
    Calls Try.prog 8 #[vec f, .slice a n cap] w (Ret (.tuple #[vec fun _ => 0, .int .i64 230]) w) :=
  Join_run f _ 230 a n cap w fun W hW p q hp hq => tries_panic 34 _ (enters_of Try.func34 (by kernel_rfl) rfl) _ W fun W' hW' =>
    Join1_bad p q cap _ _ f a n L W' (hp.below hW' hp.lt) (hq.below hW' hq.lt) ((hS.below hW).below hW') hok

set_option maxRecDepth 100000 in
set_option maxHeartbeats 1000000 in
theorem Meet_run (f r : Nat → Int) (x : Int) (a : Option Addr) (n cap : Nat) (w : World)
    (hcall : ∀ W, Below w.heap.size w W → ∀ p q, Blk W p 24 (vecC f) → Blk W q 42 #[.slice a n cap] → Calls Try.prog 33 #[.func (.func 38) #[] #[.pointer (some ⟨p, 0, none⟩), .pointer (some ⟨q, 0, none⟩)]] W (Ret (.tuple #[vec r, .int .i64 x]) W)) :
    Calls Try.prog 9 #[vec f, .slice a n cap] w (Ret (.tuple #[vec r, .int .i64 x]) w) := by
  have hmf : ∀ (fn : Fn) (first cap : Array Value) (w : World), (Instr.makeFunc fn first cap).run Try.prog w = .ok (.func fn first cap) w := fun _ _ _ _ => rfl
  have b0 := ((Blk.new w 24 (vecC f)).alloc (.cells #[.slice a n cap] 42)).alloc (.cells (vecC fun _ => 0) 24)
  have b1 := (Blk.new (w.alloc (.cells (vecC f) 24)) 42 #[.slice a n cap]).alloc (.cells (vecC fun _ => 0) 24)
  have b2 := Blk.new ((w.alloc (.cells (vecC f) 24)).alloc (.cells #[.slice a n cap] 42)) 24 (vecC fun _ => 0)
  rw [World.size_alloc] at b1
  rw [World.size_alloc, World.size_alloc] at b2
  have hB : Below w.heap.size w (((w.alloc (.cells (vecC f) 24)).alloc (.cells #[.slice a n cap] 42)).alloc (.cells (vecC fun _ => 0) 24)) := by go_grown
  have hs : w.heap.size + 2 < (((w.alloc (.cells (vecC f) 24)).alloc (.cells #[.slice a n cap] 42)).alloc (.cells (vecC fun _ => 0) 24)).heap.size := by simp
  have HC := Lib.hid (hcall _ hB _ _ b0 b1)
  have HB0 := Lib.hid hB
  have HB2 := Lib.hid b2
  have HS := Lib.hid hs
  clear hcall hB b0 b1 b2 hs
  go_enter Try.func9, Try.ntmps9
  unfold vec
  go_wp2_with (first | (refine L_vstore (.tmp 4) (.tmp 8) r rfl rfl HK.out ?_) | (go_at_call 33; refine HC.out.mono ?_; rintro e W ⟨rfl, hb⟩; have HK := Lib.hid (HB2.out.below hb HS.out); have HB : Hid (Below w.heap.size w W) := HB0.out.trans (hb.mono (by simp; omega)); clear hb))
  exact bodyPost_ret (v := .tuple #[vec r, .int .i64 x]) (results_ct rfl _ _ rfl (HK.out.row (vecC r)).vload rfl) rfl ⟨rfl, below_setRow HB.out (by omega) _⟩

theorem Meet_ok (f : Nat → Int) (a : Option Addr) (n cap : Nat) (L : List (Nat → Int)) (w : World) (hS : VSl w a n L) (hok : okVecs f L = true) :
    Calls Try.prog 9 #[vec f, .slice a n cap] w (Ret (.tuple #[vec fun k => L.foldl (fun x l => min x (l k)) (f k), .int .i64 0]) w) :=
  Meet_run f _ 0 a n cap w fun W hW p q hp hq => tries_ret 38 _ (enters_of Try.func38 (by kernel_rfl) rfl) _ W fun W' hW' =>
    Meet1_ok p q cap _ _ f a n L W' (hp.below hW' hp.lt) (hq.below hW' hq.lt) ((hS.below hW).below hW') hok
theorem Meet_bad (f : Nat → Int) (a : Option Addr) (n cap : Nat) (L : List (Nat → Int)) (w : World) (hS : VSl w a n L) (hok : okVecs f L = false) :
    Calls Try.prog 9 #[vec f, .slice a n cap] w (Ret (.tuple #[vec fun _ => 0, .int .i64 230]) w) :=
  Meet_run f _ 230 a n cap w fun W hW p q hp hq => tries_panic 38 _ (enters_of Try.func38 (by kernel_rfl) rfl) _ W fun W' hW' =>
    Meet1_bad p q cap _ _ f a n L W' (hp.below hW' hp.lt) (hq.below hW' hq.lt) ((hS.below hW).below hW') hok

theorem Vecs_one {W : World} {b : Nat} {T : TypeId} {g : Nat → Int} (h : Blk W b T (vecC g)) : Vecs W b 0 [g] := fun i f hi k hk => by
  obtain rfl : i = 0 := by have := (List.getElem?_eq_some_iff.1 hi).1; simp at this; exact this
  simp only [List.getElem?_cons_zero, Option.some.injEq] at hi
  subst hi
  rw [show 0 + 0 * 9 + k = k by omega, h.cell k, vecC_get _ hk]
theorem VSl_one {W : World} {b : Nat} {T : TypeId} {g : Nat → Int} (h : Blk W b T (vecC g)) : VSl W (some ⟨b, 0, none⟩) 1 [g] :=
  ⟨rfl, by simp, .inr ⟨b, 0, rfl, h.lt, Vecs_one h⟩⟩

/-- does one cover another one? -/
def covB (f g : Nat → Int) : Bool := okVec f && (okVec g && (List.range 9).all fun k => decide (g k ≤ f k))
theorem covB_iff (f g : Nat → Int) : covB f g = true ↔ okVec f = true ∧ okVec g = true ∧ ∀ k, k < 9 → g k ≤ f k := by
  simp [covB, List.all_eq_true]

set_option maxRecDepth 100000 in
set_option maxHeartbeats 1000000 in
theorem Covers_ok (f g : Nat → Int) (w : World) (hf : okVec f = true) (hg : okVec g = true) :
    Calls Try.prog 10 #[vec f, vec g] w (Ret (.bool (covB f g)) w) := by
  have hcov : (max (f 0) (g 0) == f 0 && (max (f 1) (g 1) == f 1 && (max (f 2) (g 2) == f 2 && (max (f 3) (g 3) == f 3 && (max (f 4) (g 4) == f 4 && (max (f 5) (g 5) == f 5 && (max (f 6) (g 6) == f 6 && (max (f 7) (g 7) == f 7 && max (f 8) (g 8) == f 8)))))))) = covB f g := by
    rw [Bool.eq_iff_iff, covB_iff]
    simp only [hf, hg, true_and, Bool.and_eq_true, beq_iff_eq]
    constructor
    · rintro ⟨h0, h1, h2, h3, h4, h5, h6, h7, h8⟩ k hk
      rcases lt9 hk with rfl | rfl | rfl | rfl | rfl | rfl | rfl | rfl | rfl <;> omega
    · intro h
      have h0 := h 0 (by omega); have h1 := h 1 (by omega); have h2 := h 2 (by omega); have h3 := h 3 (by omega); have h4 := h 4 (by omega); have h5 := h 5 (by omega); have h6 := h 6 (by omega); have h7 := h 7 (by omega); have h8 := h 8 (by omega)
      refine ⟨?_, ?_, ?_, ?_, ?_, ?_, ?_, ?_, ?_⟩ <;> omega
  have HV := Lib.hid hcov
  clear hcov
  have b0 := Blk.new ((w.alloc (.cells (vecC f) 24)).alloc (.cells (vecC g) 24)) 24 (vecC g)
  rw [World.size_alloc, World.size_alloc] at b0
  have HJ := Lib.hid (Join_ok f _ 1 1 [g] _ (VSl_one b0) (by simp [okVecs, hf, hg]))
  have HB : Hid (Below w.heap.size w (((w.alloc (.cells (vecC f) 24)).alloc (.cells (vecC g) 24)).alloc (.cells (vecC g) 24))) := by show Below _ _ _; go_grown
  have k0 := ((Blk.new w 24 (vecC f)).alloc (.cells (vecC g) 24)).alloc (.cells (vecC g) 24)
  have HK := Lib.hid k0
  have hs : w.heap.size < (((w.alloc (.cells (vecC f) 24)).alloc (.cells (vecC g) 24)).alloc (.cells (vecC g) 24)).heap.size := by simp; omega
  have HS := Lib.hid hs
  clear b0 k0 hs
  go_enter Try.func10, Try.ntmps10
  unfold vec
  go_wp2_with (first | (go_at_call 8; refine HJ.out.mono ?_; rintro e W ⟨rfl, hb⟩; have HB2 : Hid (Below w.heap.size w W) := HB.out.trans (hb.mono (by simp; omega)); have hc := ((HK.out.below hb HS.out).alloc (.cells (vecC fun k => max (f k) (g k)) 24)).cell; clear hb; have c0 := hc 0; have c1 := hc 1; have c2 := hc 2; have c3 := hc 3; have c4 := hc 4; have c5 := hc 5; have c6 := hc 6; have c7 := hc 7; have c8 := hc 8; clear hc; simp [vecC] at c0 c1 c2 c3 c4 c5 c6 c7 c8; unfold vec) | (refine L_vstore_new (.tmp 5) (.tmp 12) (fun k => max (f k) (g k)) rfl rfl ?_; unfold vecC))
  go_ret
  rw [← HV.out]
  exact ⟨rfl, HB2.out.alloc (by have := HB2.out.size; omega) _⟩

set_option maxRecDepth 100000 in
set_option maxHeartbeats 1000000 in
theorem Covers_bad (f g : Nat → Int) (w : World) (hbad : (okVec f && okVec g) = false) :
    Calls Try.prog 10 #[vec f, vec g] w (Ret (.bool (covB f g)) w) := by
  have hcov : covB f g = false := by
    cases hf : okVec f <;> cases hg : okVec g <;> simp_all [covB]
  rw [hcov]
  clear hcov
  have b0 := Blk.new ((w.alloc (.cells (vecC f) 24)).alloc (.cells (vecC g) 24)) 24 (vecC g)
  rw [World.size_alloc, World.size_alloc] at b0
  have HJ := Lib.hid (Join_bad f _ 1 1 [g] _ (VSl_one b0) (by simpa [okVecs] using hbad))
  have HB : Hid (Below w.heap.size w (((w.alloc (.cells (vecC f) 24)).alloc (.cells (vecC g) 24)).alloc (.cells (vecC g) 24))) := by show Below _ _ _; go_grown
  clear b0 hbad
  go_enter Try.func10, Try.ntmps10
  unfold vec
  go_wp2_with (first | (go_at_call 8; refine HJ.out.mono ?_; rintro e W ⟨rfl, hb⟩; have HB2 : Hid (Below w.heap.size w W) := HB.out.trans (hb.mono (by simp; omega)); clear hb; unfold vec) | (refine L_vstore_new (.tmp 5) (.tmp 12) (fun k => 0) rfl rfl ?_; unfold vecC))
  go_ret
  exact ⟨rfl, HB2.out.alloc (by have := HB2.out.size; omega) _⟩

theorem Covers_any (f g : Nat → Int) (w : World) : Calls Try.prog 10 #[vec f, vec g] w (Ret (.bool (covB f g)) w) := by
  cases h : (okVec f && okVec g)
  · exact Covers_bad f g w h
  · rw [Bool.and_eq_true] at h
    exact Covers_ok f g w h.1 h.2
end Go.Proofs.Ytoiaecfiinkmjaa
