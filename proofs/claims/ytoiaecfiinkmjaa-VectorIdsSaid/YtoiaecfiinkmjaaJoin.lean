/- vector.Join, vector.Meet, vector.Covers: their contracts. -/
import Derived.Test.YtoiaecfiinkmjaaMerged2
namespace Go.Proofs.Ytoiaecfiinkmjaa
open Go.RowKit Go.Shelf

/-- a row of vectors in memory, as a slice's parts. -/
def VSl (W : World) (a : Option Addr) (n : Nat) (L : List (Nat → Int)) : Prop := n = L.length ∧ L.length ≤ 15637498706136 ∧ (L = [] ∨ ∃ b off, a = some ⟨b, off, none⟩ ∧ b < W.heap.size ∧ Vecs W b off L)
theorem VSl.below {W W' : World} {a : Option Addr} {n : Nat} {L : List (Nat → Int)} (h : VSl W a n L) (hb : Below W.heap.size W W') : VSl W' a n L := by
  obtain ⟨h1, h2, h | ⟨b, off, ha, hlt, hv⟩⟩ := h
  · exact ⟨h1, h2, .inl h⟩
  · exact ⟨h1, h2, .inr ⟨b, off, ha, Nat.lt_of_lt_of_le hlt hb.size, fun i f hi k hk => (hb.cell (p := ⟨b, off + i * 9 + k, none⟩) hlt).trans (hv i f hi k hk)⟩⟩
/-- all are vectors. -/
def okVecs (f : Nat → Int) (L : List (Nat → Int)) : Bool := okVec f && L.all okVec

theorem merged_ok (F : FuncId) (op : Int → Int → Int) (hent : ∀ args w, (callFunc F args).run Try.prog w = .ok (.enter F args) w)
    (hop : ∀ m n W, Calls Try.prog F #[.int .u64 m, .int .u64 n] W fun e w' => e = .returned (.int .u64 (op m n)) ∧ W = w')
    (f : Nat → Int) (a : Option Addr) (n cap : Nat) (L : List (Nat → Int)) (w : World) (hS : VSl w a n L) (hok : okVecs f L = true) :
    Calls Try.prog 35 #[vec f, .slice a n cap, .func (.func F) #[] #[], .func (.func 37) #[] #[]] w (Ret (vec fun k => L.foldl (fun x l => op x (l k)) (f k)) w) := by
  simp only [okVecs, Bool.and_eq_true, List.all_eq_true] at hok
  obtain ⟨rfl, h2, rfl | ⟨b, off, rfl, hlt, hv⟩⟩ := hS
  · exact merged_nil F f cap a w hok.1
  · exact merged_any F op hent hop f b off cap L w hlt hv h2 hok.1 hok.2
theorem merged_bad (F : FuncId) (f : Nat → Int) (a : Option Addr) (n cap : Nat) (L : List (Nat → Int)) (w : World) (hS : VSl w a n L) (hbad : okVecs f L = false) :
    Calls Try.prog 35 #[vec f, .slice a n cap, .func (.func F) #[] #[], .func (.func 37) #[] #[]] w (Panics 230 w) := by
  by_cases h0 : okVec f = true
  · simp only [okVecs, h0, Bool.true_and, List.all_eq_false] at hbad
    obtain ⟨rfl, h2, rfl | ⟨b, off, rfl, hlt, hv⟩⟩ := hS
    · obtain ⟨x, hx, _⟩ := hbad; cases hx
    · exact merged_bad1 F f b off cap L w hlt hv h2 h0 (by obtain ⟨x, hx, hy⟩ := hbad; exact ⟨x, hx, by simpa using hy⟩)
  · exact merged_bad0 F f a n cap w (by simpa using h0)

/-- the one result, a vector in a variable of its own. -/
theorem Blk.sload {W : World} {g : Nat} {T : TypeId} {a : Option Addr} {n cap : Nat} (h : Blk W g T #[.slice a n cap]) : W.cell? ⟨g, 0, none⟩ = some (.slice a n cap) := by
  simpa using h.cell 0

set_option maxRecDepth 100000 in
set_option maxHeartbeats 1000000 in
theorem Join1_ok (p q cap : Nat) (T U : TypeId) (f : Nat → Int) (a : Option Addr) (n : Nat) (L : List (Nat → Int)) (w : World) (hp : Blk w p T (vecC f)) (hq : Blk w q U #[.slice a n cap]) (hS : VSl w a n L) (hok : okVecs f L = true) :
    Calls Try.prog 34 #[.pointer (some ⟨p, 0, none⟩), .pointer (some ⟨q, 0, none⟩)] w (Ret (vec fun k => L.foldl (fun x l => max x (l k)) (f k)) w) := by
  have hs := (hq.alloc (.cells (vecC fun _ => 0) 24)).sload
  have HP := Lib.hid (hp.alloc (.cells (vecC fun _ => 0) 24))
  have HC := Lib.hid (merged_ok 36 max (enters_of Try.func36 (by kernel_rfl) rfl) max_any f a n cap L (w.alloc (.cells (vecC fun _ => 0) 24)) (hS.below ((Below.refl _ w).alloc (Nat.le_refl _) _)) hok)
  clear hp hq
  generalize (fun k => L.foldl (fun x l => max x (l k)) (f k)) = r at HC ⊢
  unfold vecC at hs
  go_enter Try.func34, Try.ntmps34
  go_wp2_with (first | (refine L_vload 3 (.tmp 0) rfl HP.out ?_) | (refine L_vstore (.tmp 2) (.tmp 5) r rfl rfl HK.out ?_) | (go_at_call 35; refine HC.out.mono ?_; rintro e W ⟨rfl, hb⟩; have HK := Lib.hid ((Blk.new w 24 (vecC fun _ => 0)).below hb (by simp)); have HB : Hid (Below w.heap.size w W) := Below.trans (by go_grown) (hb.mono (by simp)); clear hb))
  exact bodyPost_ret (v := vec r) (results_cell1 rfl _ _ rfl (HK.out.row (vecC r)).vload) rfl ⟨rfl, below_setRow HB.out (Nat.le_refl _) _⟩

set_option maxRecDepth 100000 in
set_option maxHeartbeats 1000000 in
theorem Join1_bad (p q cap : Nat) (T U : TypeId) (f : Nat → Int) (a : Option Addr) (n : Nat) (L : List (Nat → Int)) (w : World) (hp : Blk w p T (vecC f)) (hq : Blk w q U #[.slice a n cap]) (hS : VSl w a n L) (hok : okVecs f L = false) :
    Calls Try.prog 34 #[.pointer (some ⟨p, 0, none⟩), .pointer (some ⟨q, 0, none⟩)] w (Panics 230 w) := by
  have hs := (hq.alloc (.cells (vecC fun _ => 0) 24)).sload
  have HP := Lib.hid (hp.alloc (.cells (vecC fun _ => 0) 24))
  have HC := Lib.hid (merged_bad 36 f a n cap L (w.alloc (.cells (vecC fun _ => 0) 24)) (hS.below ((Below.refl _ w).alloc (Nat.le_refl _) _)) hok)
  clear hp hq
  unfold vecC at hs
  go_enter Try.func34, Try.ntmps34
  go_wp2_with (first | (refine L_vload 3 (.tmp 0) rfl HP.out ?_) | (go_at_call 35; refine HC.out.mono ?_; rintro e W ⟨rfl, hb⟩))
  exact ⟨rfl, rfl, Below.trans (by go_grown) (hb.mono (by simp))⟩

set_option maxRecDepth 100000 in
set_option maxHeartbeats 1000000 in
theorem Meet1_ok (p q cap : Nat) (T U : TypeId) (f : Nat → Int) (a : Option Addr) (n : Nat) (L : List (Nat → Int)) (w : World) (hp : Blk w p T (vecC f)) (hq : Blk w q U #[.slice a n cap]) (hS : VSl w a n L) (hok : okVecs f L = true) :
    Calls Try.prog 38 #[.pointer (some ⟨p, 0, none⟩), .pointer (some ⟨q, 0, none⟩)] w (Ret (vec fun k => L.foldl (fun x l => min x (l k)) (f k)) w) := by
  have hs := (hq.alloc (.cells (vecC fun _ => 0) 24)).sload
  have HP := Lib.hid (hp.alloc (.cells (vecC fun _ => 0) 24))
  have HC := Lib.hid (merged_ok 39 min (enters_of Try.func39 (by kernel_rfl) rfl) min_any f a n cap L (w.alloc (.cells (vecC fun _ => 0) 24)) (hS.below ((Below.refl _ w).alloc (Nat.le_refl _) _)) hok)
  clear hp hq
  generalize (fun k => L.foldl (fun x l => min x (l k)) (f k)) = r at HC ⊢
  unfold vecC at hs
  go_enter Try.func38, Try.ntmps38
  go_wp2_with (first | (refine L_vload 3 (.tmp 0) rfl HP.out ?_) | (refine L_vstore (.tmp 2) (.tmp 5) r rfl rfl HK.out ?_) | (go_at_call 35; refine HC.out.mono ?_; rintro e W ⟨rfl, hb⟩; have HK := Lib.hid ((Blk.new w 24 (vecC fun _ => 0)).below hb (by simp)); have HB : Hid (Below w.heap.size w W) := Below.trans (by go_grown) (hb.mono (by simp)); clear hb))
  exact bodyPost_ret (v := vec r) (results_cell1 rfl _ _ rfl (HK.out.row (vecC r)).vload) rfl ⟨rfl, below_setRow HB.out (Nat.le_refl _) _⟩

set_option maxRecDepth 100000 in
set_option maxHeartbeats 1000000 in
theorem Meet1_bad (p q cap : Nat) (T U : TypeId) (f : Nat → Int) (a : Option Addr) (n : Nat) (L : List (Nat → Int)) (w : World) (hp : Blk w p T (vecC f)) (hq : Blk w q U #[.slice a n cap]) (hS : VSl w a n L) (hok : okVecs f L = false) :
    Calls Try.prog 38 #[.pointer (some ⟨p, 0, none⟩), .pointer (some ⟨q, 0, none⟩)] w (Panics 230 w) := by
  have hs := (hq.alloc (.cells (vecC fun _ => 0) 24)).sload
  have HP := Lib.hid (hp.alloc (.cells (vecC fun _ => 0) 24))
  have HC := Lib.hid (merged_bad 39 f a n cap L (w.alloc (.cells (vecC fun _ => 0) 24)) (hS.below ((Below.refl _ w).alloc (Nat.le_refl _) _)) hok)
  clear hp hq
  unfold vecC at hs
  go_enter Try.func38, Try.ntmps38
  go_wp2_with (first | (refine L_vload 3 (.tmp 0) rfl HP.out ?_) | (go_at_call 35; refine HC.out.mono ?_; rintro e W ⟨rfl, hb⟩))
  exact ⟨rfl, rfl, Below.trans (by go_grown) (hb.mono (by simp))⟩

end Go.Proofs.Ytoiaecfiinkmjaa
