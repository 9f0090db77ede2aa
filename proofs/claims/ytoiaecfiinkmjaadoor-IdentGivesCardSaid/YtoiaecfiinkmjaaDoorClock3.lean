/- ident.Next, ident.See: their contracts. -/
import Derived.Test.YtoiaecfiinkmjaaDoorClock2
import Derived.Test.YtoiaecfiinkmjaaDoorAppend
namespace Go.Proofs.YtoiaecfiinkmjaaDoor
open Go.RowKit Go.Shelf

set_option maxRecDepth 100000 in
set_option maxHeartbeats 1000000 in
theorem Next1_ok (h g : Nat) (T Tg : TypeId) (s t q : Int) {a0 a1 a2 : Value} (w : World) (hh : Blk w h T (clkC s t q)) (hg : Blk w g Tg #[a0, a1, a2]) (hgh : g < h) (ht0 : 0 ≤ t) (hq0 : 0 ≤ q) (ht : t < maxT) (hq : q < maxT) :
    Calls Tryd.prog 41 #[.pointer (some ⟨h, 0, none⟩), .pointer (some ⟨g, 0, none⟩)] w fun e w' => e = .returned (.tuple #[]) ∧ Blk w' h T (clkC s (t + 1) (q + 1)) ∧ Blk w' g Tg #[.int .u64 (t + 1), .int .i64 s, .int .u64 (q + 1)] ∧ BelowBut h g w w' := by
  have HC := Lib.hid (next_ok h T s t q w hh ht0 hq0 ht hq)
  have HG := Lib.hid hg
  clear hh hg ht hq ht0 hq0
  go_enter Tryd.func41, Tryd.ntmps41
  go_wp2_with fail
  refine HC.out.mono ?_
  rintro e W ⟨rfl, hk, hb⟩
  have HK := Lib.hid hk
  have HG2 := Lib.hid (HG.out.below hb hgh)
  have HB := Lib.hid hb
  have hne : h ≠ g := by omega
  clear hk hb HC
  go_wp2_with (refine L_istoreV (.tmp 1) (.tmp 4) (t + 1) s (q + 1) rfl rfl HG2.out ?_)
  go_end0
  exact ⟨rfl, HK.out.row_other hne _, HG2.out.row _, (below_but HB.out g).trans (but_setRow h g W _)⟩
set_option maxRecDepth 100000 in
set_option maxHeartbeats 1000000 in
theorem Next1_late (h g : Nat) (T : TypeId) (s t q : Int) (w : World) (hh : Blk w h T (clkC s t q)) (hl : ¬ (t < maxT ∧ q < maxT)) :
    Calls Tryd.prog 41 #[.pointer (some ⟨h, 0, none⟩), .pointer (some ⟨g, 0, none⟩)] w (Panics 212 w) := by
  have HC := Lib.hid (next_late h T s t q w hh hl)
  clear hh hl
  go_enter Tryd.func41, Tryd.ntmps41
  go_wp2_with fail
  refine HC.out.mono ?_
  rintro e W ⟨rfl, hb⟩
  exact ⟨rfl, rfl, hb⟩

theorem results_cct {P : Program} {fn : Func} {p q u : Tmp} {ty uy : TypeId} (h : fn.results = #[.cell p ty, .cell q uy, .tmp u]) (tmps : Array Value) (w : World) {a b : Addr} {v x y : Value}
    (hp : tmps.getD p undef = .pointer (some a)) (hq : tmps.getD q undef = .pointer (some b)) (hv : (loadVar ty a).run P w = .ok v w) (hx : (loadVar uy b).run P w = .ok x w) (hu : tmps.getD u undef = y) :
    (results fn tmps).run P w = .ok (.tuple #[v, x, y]) w := by
  have hp' : tmps[p]?.getD undef = .pointer (some a) := by simpa using hp
  have hq' : tmps[q]?.getD undef = .pointer (some b) := by simpa using hq
  have hu' : tmps[u]?.getD undef = y := by simpa using hu
  simp [results, h, hp', hq', hu', asAddr, hv, hx]

/-- the two stores. -/
def nxF (p q : Nat) (s t r i0 i1 i2 : Int) : Nat → Value → World → Prop := fun k _ W => match k with
  | 3 => Blk W p 41 (clkC s t r)
  | 4 => Blk W q 27 #[.int .u64 i0, .int .i64 i1, .int .u64 i2]
  | _ => True
def nxR (p : Nat) : Nat → World → World → Prop := fun k W W' => match k with
  | 3 => True
  | 4 => ∀ T cs, Blk W p T cs → Blk W' p T cs
  | _ => W' = W
theorem nx_no {p q : Nat} {s t r i0 i1 i2 : Int} : ∀ j ∈ [3, 4], ∀ v w, nxF p q s t r i0 i1 i2 j v w → nxF p q s t r i0 i1 i2 j undef w := by
  intro j hj v w h
  simp at hj
  rcases hj with rfl | rfl <;> exact h
theorem nx_stab {late : Nat → Nat → Bool} {p q : Nat} {s t r i0 i1 i2 : Int} (h34 : late 3 4 = true) : Rely.Outlasts (nxF p q s t r i0 i1 i2) (nxR p) late := by
  intro j k v w w' hl hne hR hF
  unfold nxR at hR
  split at hR
  · unfold nxF at hF ⊢
    split
    · exact absurd rfl hne
    · rw [h34] at hl; cases hl
    · trivial
  · unfold nxF at hF ⊢
    split
    · exact hR _ _ hF
    · exact absurd rfl hne
    · trivial
  · subst hR; exact hF

set_option maxRecDepth 100000 in
set_option maxHeartbeats 1000000 in
theorem Next_run (s t q s' t' q' i0 i1 i2 x : Int) (w : World)
    (hcall : ∀ W g, Below w.heap.size w W → Blk W g 27 #[.int .u64 0, .int .i64 0, .int .u64 0] → w.heap.size ≤ g → Calls Tryd.prog 40 #[clkV s t q, .func (.func 41) #[] #[.pointer (some ⟨g, 0, none⟩)]] W fun e W' => e = .returned (.tuple #[clkV s' t' q', .int .i64 x]) ∧ Blk W' g 27 #[.int .u64 i0, .int .i64 i1, .int .u64 i2] ∧ BelowBut W.heap.size g W W') :
    Calls Tryd.prog 20 #[clkV s t q] w (Ret (.tuple #[clkV s' t' q', idV i0 i1 i2, .int .i64 x]) w) := by
  have hmf : ∀ (fn : Fn) (first cap : Array Value) (w : World), (Instr.makeFunc fn first cap).run Tryd.prog w = .ok (.func fn first cap) w := fun _ _ _ _ => rfl
  have H := Lib.hid hcall
  have hz1 : (w.alloc (.cells (clkC s t q) 41)).heap.size = w.heap.size + 1 := by simp
  have hz2 : ((w.alloc (.cells (clkC s t q) 41)).alloc (.cells (clkC 0 0 0) 41)).heap.size = w.heap.size + 1 + 1 := by simp
  have hz3 : (((w.alloc (.cells (clkC s t q) 41)).alloc (.cells (clkC 0 0 0) 41)).alloc (.cells #[.int .u64 0, .int .i64 0, .int .u64 0] 27)).heap.size = w.heap.size + 1 + 1 + 1 := by simp
  have B0 := Lib.hid ((((Blk.new w 41 (clkC s t q)).alloc (.cells (clkC 0 0 0) 41)).alloc (.cells #[.int .u64 0, .int .i64 0, .int .u64 0] 27)).alloc (.cells #[.int .u64 0, .int .i64 0, .int .u64 0] 27))
  have b1 := ((Blk.new (w.alloc (.cells (clkC s t q) 41)) 41 (clkC 0 0 0)).alloc (.cells #[.int .u64 0, .int .i64 0, .int .u64 0] 27)).alloc (.cells #[.int .u64 0, .int .i64 0, .int .u64 0] 27)
  rw [hz1] at b1
  have b2 := (Blk.new ((w.alloc (.cells (clkC s t q) 41)).alloc (.cells (clkC 0 0 0) 41)) 27 #[.int .u64 0, .int .i64 0, .int .u64 0]).alloc (.cells #[.int .u64 0, .int .i64 0, .int .u64 0] 27)
  rw [hz2] at b2
  have b3 := Blk.new (((w.alloc (.cells (clkC s t q) 41)).alloc (.cells (clkC 0 0 0) 41)).alloc (.cells #[.int .u64 0, .int .i64 0, .int .u64 0] 27)) 27 #[.int .u64 0, .int .i64 0, .int .u64 0]
  rw [hz3] at b3
  have HB : Hid (Below w.heap.size w ((((w.alloc (.cells (clkC s t q) 41)).alloc (.cells (clkC 0 0 0) 41)).alloc (.cells #[.int .u64 0, .int .i64 0, .int .u64 0] 27)).alloc (.cells #[.int .u64 0, .int .i64 0, .int .u64 0] 27))) := by show Below _ _ _; go_grown
  have B1 := Lib.hid b1
  have B2 := Lib.hid b2
  have B3 := Lib.hid b3
  clear hcall hz1 hz2 hz3 b1 b2 b3
  go_enter Tryd.func20, Tryd.ntmps20
  go_upto_region 2 with fail
  generalize (((w.alloc (.cells (clkC s t q) 41)).alloc (.cells (clkC 0 0 0) 41)).alloc (.cells #[.int .u64 0, .int .i64 0, .int .u64 0] 27)).alloc (.cells #[.int .u64 0, .int .i64 0, .int .u64 0] 27) = X at B0 B1 B2 B3 HB ⊢
  have c0 := B0.out.cell 0
  have c1 := B0.out.cell 1
  have c2 := B0.out.cell 2
  simp at c0 c1 c2
  go_wp2_with fail
  refine (H.out X (w.heap.size + 1 + 1 + 1) HB.out B3.out (by omega)).mono ?_
  rintro e W ⟨rfl, hg, hbut⟩
  have n1 : w.heap.size + 1 < X.heap.size := B1.out.lt
  have n2 : w.heap.size + 1 + 1 < X.heap.size := B2.out.lt
  replace B1 := Lib.hid (B1.out.but hbut n1 (by omega))
  replace B2 := Lib.hid (B2.out.but hbut n2 (by omega))
  replace HB := Lib.hid (HB.out.trans ((hbut.mono HB.out.size).below (by omega)))
  replace B3 := Lib.hid hg
  clear hg hbut c0 c1 c2 B0 n1 n2 H
  go_upto_region 3 with (refine L_kstore (.tmp 6) (.tmp 12) s' t' q' rfl rfl (Blk.new _ _ _) ?_)
  have hnz := B3.out.lt
  have b6 := (Blk.new W 41 (clkC 0 0 0)).row (clkC s' t' q')
  have b1 := (B1.out.alloc (.cells (clkC 0 0 0) 41)).row_other (k := W.heap.size) (by omega) (clkC s' t' q')
  have b2 := (B2.out.alloc (.cells (clkC 0 0 0) 41)).row_other (k := W.heap.size) (by omega) (clkC s' t' q')
  have b3 := (B3.out.alloc (.cells (clkC 0 0 0) 41)).row_other (k := W.heap.size) (by omega) (clkC s' t' q')
  have hb := below_setRowK (HB.out.alloc HB.out.size (.cells (clkC 0 0 0) 41)) HB.out.size (clkC s' t' q')
  replace HB := Lib.hid hb
  replace B1 := Lib.hid b1
  replace B2 := Lib.hid b2
  replace B3 := Lib.hid b3
  have B6 := Lib.hid b6
  clear hb b1 b2 b3 b6
  generalize (W.alloc (.cells (clkC 0 0 0) 41)).setRow W.heap.size (clkC s' t' q') = Y at HB B1 B2 B3 B6 ⊢
  have hp6 : w.heap.size + 1 + 1 + 1 < W.heap.size := hnz
  generalize W.heap.size = p6 at B6 hp6 ⊢
  clear hnz
  obtain ⟨S, hS⟩ : ∃ S : World → Prop, S = fun Z => Blk Z p6 41 (clkC s' t' q') ∧ Blk Z (w.heap.size + 1 + 1 + 1) 27 #[.int .u64 i0, .int .i64 i1, .int .u64 i2] ∧ (∃ a b c, Blk Z (w.heap.size + 1) 41 #[a, b, c]) ∧ (∃ a b c, Blk Z (w.heap.size + 1 + 1) 27 #[a, b, c]) ∧ Below w.heap.size w Z := ⟨_, rfl⟩
  have HS : Hid (∀ Z, S Z ↔ Blk Z p6 41 (clkC s' t' q') ∧ Blk Z (w.heap.size + 1 + 1 + 1) 27 #[.int .u64 i0, .int .i64 i1, .int .u64 i2] ∧ (∃ a b c, Blk Z (w.heap.size + 1) 41 #[a, b, c]) ∧ (∃ a b c, Blk Z (w.heap.size + 1 + 1) 27 #[a, b, c]) ∧ Below w.heap.size w Z) := by intro Z; rw [hS]
  have hS0 : S Y.drew := (HS.out _).2 ⟨B6.out.drew, B3.out.drew, ⟨_, _, _, B1.out.drew⟩, ⟨_, _, _, B2.out.drew⟩, HB.out.drew⟩
  clear hS HB B1 B2 B3 B6
  refine Rely.wp_region 5 S (nxF (w.heap.size + 1) (w.heap.size + 1 + 1) s' t' q' i0 i1 i2) (nxR (w.heap.size + 1)) (by kernel_rfl) (by kernel_rfl) (by kernel_rfl) (by kernel_rfl) (by kernel_rfl) [3, 4] (by kernel_rfl) nx_no (nx_stab (by kernel_rfl)) hS0 ?_
  clear hS0
  simp only [List.take_succ_cons, List.take_zero, List.drop_succ_cons, List.drop_zero]
  refine Rely.relSeq_on rfl (fun K hK w1 hS1 hD1 => ?_)
  obtain ⟨k6, k3, kr⟩ := (HS.out w1).1 hS1
  have c0 := k6.cell 0
  have c1 := k6.cell 1
  have c2 := k6.cell 2
  simp at c0 c1 c2
  go_simp
  refine ⟨⟨trivial, hS1, rfl⟩, hK _ ?_⟩
  clear hK hD1 hS1 K c0 c1 c2 k6 k3 kr w1
  refine Rely.relSeq_on rfl (fun K hK w1 hS1 hD1 => ?_)
  obtain ⟨k6, k3, kr⟩ := (HS.out w1).1 hS1
  have c0 := k3.cell 0
  have c1 := k3.cell 1
  have c2 := k3.cell 2
  simp at c0 c1 c2
  go_simp
  refine ⟨⟨trivial, hS1, rfl⟩, hK _ ?_⟩
  clear hK hD1 hS1 K c0 c1 c2 k6 k3 kr w1
  refine Rely.relSeq_on rfl (fun K hK w1 hS1 hD1 => ?_)
  go_simp
  refine ⟨⟨trivial, hS1, rfl⟩, hK _ ?_⟩
  clear hK hD1 hS1 K w1
  refine Rely.relSeq_on rfl (fun K hK w1 hS1 hD1 => ?_)
  obtain ⟨k6, k3, ⟨a, b, c, k1⟩, ⟨a', b', c', k2⟩, kb⟩ := (HS.out w1).1 hS1
  refine Rely.step_store 41 (.tmp 2) (.tmp 14) rfl _ _ rfl rfl (k1.store (cs' := clkC s' t' q') (by kernel_rfl) rfl (by simp [Value.oneCell'])) ⟨k1.row _, (HS.out _).2 ⟨k6.row_other (by omega) _, k3.row_other (by omega) _, ⟨_, _, _, k1.row _⟩, ⟨_, _, _, k2.row_other (by omega) _⟩, below_setRowK kb (by omega) _⟩, trivial⟩ (hK _ ?_)
  clear hK hD1 hS1 K k6 k3 k1 k2 kb w1
  refine Rely.relSeq_on rfl (fun K hK w1 hS1 hD1 => ?_)
  obtain ⟨k6, k3, ⟨a, b, c, k1⟩, ⟨a', b', c', k2⟩, kb⟩ := (HS.out w1).1 hS1
  refine Rely.step_store 27 (.tmp 3) (.tmp 15) rfl _ _ rfl rfl (k2.store (cs' := #[.int .u64 i0, .int .i64 i1, .int .u64 i2]) (by kernel_rfl) rfl (by simp [Value.oneCell'])) ⟨k2.row _, (HS.out _).2 ⟨k6.row_other (by omega) _, k3.row_other (by omega) _, ⟨_, _, _, k1.row_other (by omega) _⟩, ⟨_, _, _, k2.row _⟩, below_setRowK kb (by omega) _⟩, fun T cs hk => hk.row_other (by omega) _⟩ (hK _ ?_)
  clear hK hD1 hS1 K k6 k3 k1 k2 kb w1
  refine Rely.relSeq_nil ?_
  intro listed Z hSZ hFZ hlZ
  have B1 : Hid (Blk Z (w.heap.size + 1) 41 (clkC s' t' q')) := hFZ.2 3 _ rfl rfl (hlZ 3 (by omega))
  have B2 : Hid (Blk Z (w.heap.size + 1 + 1) 27 #[.int .u64 i0, .int .i64 i1, .int .u64 i2]) := hFZ.2 4 _ rfl rfl (hlZ 4 (by omega))
  have HB := Lib.hid ((HS.out Z).1 hSZ).2.2.2.2
  clear hSZ hFZ hlZ HS
  go_wp2
  refine bodyPost_ret (v := .tuple #[clkV s' t' q', idV i0 i1 i2, .int .i64 x]) (results_cct rfl _ _ rfl rfl B1.out.kload B2.out.iload rfl) rfl ⟨rfl, HB.out⟩

/-- what a clock gives. -/
def nextE (s t q : Int) : Int := if okClk s t q = true then (if t < maxT ∧ q < maxT then 0 else 212) else 211
theorem Next_ok (s t q : Int) (ht0 : 0 ≤ t) (hq0 : 0 ≤ q) (h : nextE s t q = 0) (w : World) :
    Calls Tryd.prog 20 #[clkV s t q] w (Ret (.tuple #[clkV s (t + 1) (q + 1), idV (t + 1) s (q + 1), .int .i64 0]) w) := by
  unfold nextE at h
  split at h
  case isFalse => omega
  rename_i hok
  split at h
  case isFalse => omega
  rename_i hl
  refine Next_run s t q _ _ _ _ _ _ _ w fun W g _ hg _ => ?_
  exact ktries_ret 41 _ (enters_of Tryd.func41 (by kernel_rfl) rfl) s t q s (t + 1) (q + 1) hok g _ _ _ W hg fun W' hb hh hgg _ hge => Next1_ok hb g _ _ s t q W' hh hgg (Nat.lt_of_lt_of_le hg.lt hge) ht0 hq0 hl.1 hl.2
theorem Next_bad (s t q : Int) (h : nextE s t q ≠ 0) (w : World) :
    Calls Tryd.prog 20 #[clkV s t q] w (Ret (.tuple #[clkV 0 0 0, idV 0 0 0, .int .i64 (nextE s t q)]) w) := by
  refine Next_run s t q _ _ _ _ _ _ _ w fun W g _ hg _ => ?_
  refine (ktries_panic 41 _ (enters_of Tryd.func41 (by kernel_rfl) rfl) s t q (nextE s t q) W (fun hok W' hb hh hbel _ => ?_) (fun hok => by unfold nextE; rw [if_neg (by rw [hok]; simp)])).mono fun e W' he => ⟨he.1, hg.below he.2 hg.lt, below_but he.2 g⟩
  unfold nextE at h ⊢
  rw [if_pos hok] at h ⊢
  split at h
  · omega
  · rename_i hl
    rw [if_neg hl]
    exact (Next1_late hb g _ s t q W' hh hl).mono fun e W2 he => ⟨he.1, he.2.mono (Nat.le_of_lt hh.lt)⟩

/-! times, in a row -/
def encU (x : Int) : List Value := [.int .u64 x]
/-- the latest of times. -/
def maxL (t : Int) (L : List Int) : Int := L.foldl max t
theorem maxL_snoc (t : Int) (L : List Int) (x : Int) : maxL t (L ++ [x]) = max (maxL t L) x := by simp [maxL, List.foldl_append]

set_option maxRecDepth 100000 in
set_option maxHeartbeats 2000000 in
theorem See1_any (h g c : Nat) (T Tg : TypeId) (s t q : Int) (a : Option Addr) (n : Nat) (L : List Int) (w : World) (hh : Blk w h T (clkC s t q)) (hg : Blk w g Tg #[.slice a n c]) (hS : RowS encU 1 w a n L) (hlow : L = [] ∨ ∃ b off, a = some ⟨b, off, none⟩ ∧ b < h) :
    Calls Tryd.prog 43 #[.pointer (some ⟨h, 0, none⟩), .pointer (some ⟨g, 0, none⟩)] w fun e w' =>
      ((∀ x ∈ L, x ≤ maxT) ∧ e = .returned (.tuple #[]) ∧ Blk w' h T (clkC s (maxL t L) q) ∧ Below h w w') ∨ ((∃ x ∈ L, ¬ x ≤ maxT) ∧ e = .panicked [{ v := .iface 29 (.int .i64 2), recovered := false }] ∧ Below h w w') := by
  obtain ⟨rfl, hbig, hL⟩ := hS
  have hmf : ∀ (fn : Fn) (first cap : Array Value) (w : World), (Instr.makeFunc fn first cap).run Tryd.prog w = .ok (.func fn first cap) w := fun _ _ _ _ => rfl
  have c0 := hg.cell 0
  simp at c0
  have HL := Lib.hid hL
  have HH := Lib.hid hh
  have HLOW := Lib.hid hlow
  clear hL hh hg hlow
  go_enter Tryd.func43, Tryd.ntmps43
  go_wp2_with fail
  clear c0
  go_loopw [10] (fun i wr => ∃ k : Nat, k ≤ L.length ∧ i = .int .i64 k ∧ Hid (∀ x ∈ L.take k, x ≤ maxT) ∧ Blk wr h T (clkC s (maxL t (L.take k)) q) ∧ Below h w wr) (fun i _ => L.length - (intOf i).toNat)
  case atStart => exact ⟨0, Nat.zero_le _, rfl, (fun x hx => by simp at hx), HH.out, Below.refl _ _⟩
  case round =>
    obtain ⟨k, hk, rfl, HA, hbk, hB⟩ := hrel
    clear HH
    by_cases hlt : k < L.length
    · obtain ⟨b, off, rfl, hbl, hv⟩ := HL.out.resolve_left (fun e => by rw [e] at hlt; simp at hlt)
      obtain ⟨x, hx⟩ : ∃ x, L[k]? = some x := ⟨_, List.getElem?_eq_getElem hlt⟩
      have hbh : b < h := by
        rcases HLOW.out with e | ⟨b', off', e, hbh⟩
        · rw [e] at hlt; simp at hlt
        · simp at e; obtain ⟨rfl, rfl⟩ := e; exact hbh
      have x0 : wr.cell? ⟨b, off + k, none⟩ = some (.int .u64 x) := (hB.cell (p := ⟨b, off + k, none⟩) hbh).trans (by have := hv k x hx 0 _ rfl; rwa [Nat.mul_one] at this)
      have HTK : Hid (L.take (k + 1) = L.take k ++ [x]) := by show _ = _; rw [List.take_add_one, hx]; rfl
      have HXM : Hid (x ∈ L) := List.mem_of_getElem? hx
      have HB := Lib.hid hB
      have HK := Lib.hid hbk
      clear hB hbk hv hx
      by_cases hxm : x ≤ maxT
      · have HC := Lib.hid (fun t' (hk' : Blk wr h T (clkC s t' q)) => see_ok h T s t' q x wr hk' hxm)
        have HX := Lib.hid hxm
        clear hxm
        go_wp2_with fail
        refine (HC.out _ HK.out).mono ?_
        rintro e W ⟨rfl, hk2, hb2⟩
        have HK2 := Lib.hid hk2
        have HB2 := Lib.hid (HB.out.trans hb2)
        clear hk2 hb2
        go_wp2_with fail
        go_roundw
        case rel =>
          refine ⟨k + 1, by omega, by go_num, ?_, ?_, HB2.out⟩
          · show ∀ y ∈ L.take (k + 1), y ≤ maxT
            intro y hy
            rw [HTK.out] at hy
            rcases List.mem_append.1 hy with hy | hy
            · exact HA.out y hy
            · obtain rfl : y = x := by simpa using hy
              exact HX.out
          · rw [HTK.out, maxL_snoc]; exact HK2.out
        case measure => simp [intOf]; omega
      · have HC := Lib.hid (see_bad h x wr hxm)
        have HX := Lib.hid hxm
        clear hxm
        go_wp2_with fail
        refine HC.out.mono ?_
        rintro e W ⟨rfl, hb2⟩
        exact ⟨rfl, .inr ⟨⟨x, HXM.out, by have := HX.out; omega⟩, rfl, HB.out.trans (hb2.mono (Nat.le_of_lt HK.out.lt))⟩⟩
    · obtain rfl : k = L.length := by omega
      rw [List.take_length] at hbk
      have HA2 : Hid (∀ x ∈ L, x ≤ maxT) := by have := HA.out; rwa [List.take_length] at this
      have HB := Lib.hid hB
      have HK := Lib.hid hbk
      clear hB hbk HA
      go_wp2_with fail
      go_end0
      exact .inl ⟨HA2.out, rfl, HK.out, HB.out⟩

set_option maxRecDepth 100000 in
set_option maxHeartbeats 1000000 in
theorem See_run (s t q s' t' q' x : Int) (a : Option Addr) (n c : Nat) (w : World)
    (hcall : ∀ W g, Below w.heap.size w W → Blk W g 38 #[.slice a n c] → w.heap.size ≤ g → Calls Tryd.prog 40 #[clkV s t q, .func (.func 43) #[] #[.pointer (some ⟨g, 0, none⟩)]] W fun e W' => e = .returned (.tuple #[clkV s' t' q', .int .i64 x]) ∧ BelowBut W.heap.size g W W') :
    Calls Tryd.prog 21 #[clkV s t q, .slice a n c] w (Ret (.tuple #[clkV s' t' q', .int .i64 x]) w) := by
  have hmf : ∀ (fn : Fn) (first cap : Array Value) (w : World), (Instr.makeFunc fn first cap).run Tryd.prog w = .ok (.func fn first cap) w := fun _ _ _ _ => rfl
  have H := Lib.hid hcall
  have hz1 : (w.alloc (.cells (clkC s t q) 41)).heap.size = w.heap.size + 1 := by simp
  have hz2 : ((w.alloc (.cells (clkC s t q) 41)).alloc (.cells #[.slice a n c] 38)).heap.size = w.heap.size + 1 + 1 := by simp
  have B0 := Lib.hid (((Blk.new w 41 (clkC s t q)).alloc (.cells #[.slice a n c] 38)).alloc (.cells (clkC 0 0 0) 41))
  have b1 := (Blk.new (w.alloc (.cells (clkC s t q) 41)) 38 #[.slice a n c]).alloc (.cells (clkC 0 0 0) 41)
  rw [hz1] at b1
  have b2 := Blk.new ((w.alloc (.cells (clkC s t q) 41)).alloc (.cells #[.slice a n c] 38)) 41 (clkC 0 0 0)
  rw [hz2] at b2
  have HB : Hid (Below w.heap.size w (((w.alloc (.cells (clkC s t q) 41)).alloc (.cells #[.slice a n c] 38)).alloc (.cells (clkC 0 0 0) 41))) := by show Below _ _ _; go_grown
  have B1 := Lib.hid b1
  have B2 := Lib.hid b2
  clear hcall hz1 hz2 b1 b2
  go_enter Tryd.func21, Tryd.ntmps21
  go_upto_region 1 with fail
  generalize ((w.alloc (.cells (clkC s t q) 41)).alloc (.cells #[.slice a n c] 38)).alloc (.cells (clkC 0 0 0) 41) = X at B0 B1 B2 HB ⊢
  have c0 := B0.out.cell 0
  have c1 := B0.out.cell 1
  have c2 := B0.out.cell 2
  simp at c0 c1 c2
  go_wp2_with fail
  refine (H.out X (w.heap.size + 1) HB.out B1.out (by omega)).mono ?_
  rintro e W ⟨rfl, hbut⟩
  have n2 : w.heap.size + 1 + 1 < X.heap.size := B2.out.lt
  replace B2 := Lib.hid (B2.out.but hbut n2 (by omega))
  replace HB := Lib.hid (HB.out.trans ((hbut.mono HB.out.size).below (by omega)))
  clear hbut c0 c1 c2 B0 B1 n2 H
  go_wp2_with (refine L_kstore (.tmp 4) (.tmp 9) s' t' q' rfl rfl B2.out ?_)
  exact bodyPost_ret (v := .tuple #[clkV s' t' q', .int .i64 x]) (results_ctR rfl _ _ rfl (B2.out.row (clkC s' t' q')).kload rfl) rfl ⟨rfl, below_setRowK HB.out (by omega) _⟩

def seeE (s t q : Int) (L : List Int) : Int := if okClk s t q = true then (if (∀ x ∈ L, x ≤ maxT) then 0 else 2) else 211
theorem RowS.low {W : World} {a : Option Addr} {n : Nat} {L : List Int} (h : RowS encU 1 W a n L) : L = [] ∨ ∃ b off, a = some ⟨b, off, none⟩ ∧ b < W.heap.size := by
  rcases h.2.2 with e | ⟨b, off, ea, hb, _⟩
  · exact .inl e
  · exact .inr ⟨b, off, ea, hb⟩
theorem See_ok (s t q : Int) (a : Option Addr) (n c : Nat) (L : List Int) (w : World) (hS : RowS encU 1 w a n L) (h : seeE s t q L = 0) :
    Calls Tryd.prog 21 #[clkV s t q, .slice a n c] w (Ret (.tuple #[clkV s (maxL t L) q, .int .i64 0]) w) := by
  unfold seeE at h
  split at h
  case isFalse => omega
  rename_i hok
  split at h
  case isFalse => omega
  rename_i hl
  refine See_run s t q _ _ _ _ a n c w fun W g hW hg _ => ?_
  have hSW := hS.below hW
  have hlow := hSW.low
  refine (ktries_ret 43 #[.pointer (some ⟨g, 0, none⟩)] (enters_of Tryd.func43 (by kernel_rfl) rfl) s t q s (maxL t L) q hok g 38 #[.slice a n c] #[.slice a n c] W hg fun W' hb hh hgg hbel hge => ?_).mono fun e W' he => ⟨he.1, he.2.2⟩
  refine (See1_any hb g c _ _ s t q a n L W' hh hgg (hSW.below hbel) (hlow.imp id fun ⟨b, off, ea, hlt⟩ => ⟨b, off, ea, Nat.lt_of_lt_of_le hlt hge⟩)).mono fun e W2 he => ?_
  rcases he with ⟨_, e1, hk, hb2⟩ | ⟨⟨x, hx, hn⟩, _⟩
  · exact ⟨e1, hk, hgg.below hb2 (Nat.lt_of_lt_of_le hg.lt hge), below_but hb2 g⟩
  · exact absurd (hl x hx) hn
theorem See_bad (s t q : Int) (a : Option Addr) (n c : Nat) (L : List Int) (w : World) (hS : RowS encU 1 w a n L) (h : seeE s t q L ≠ 0) :
    Calls Tryd.prog 21 #[clkV s t q, .slice a n c] w (Ret (.tuple #[clkV 0 0 0, .int .i64 (seeE s t q L)]) w) := by
  refine See_run s t q _ _ _ _ a n c w fun W g hW hg _ => ?_
  have hSW := hS.below hW
  have hlow := hSW.low
  refine (ktries_panic 43 #[.pointer (some ⟨g, 0, none⟩)] (enters_of Tryd.func43 (by kernel_rfl) rfl) s t q (seeE s t q L) W (fun hok W' hb hh hbel hge => ?_) (fun hok => by unfold seeE; rw [if_neg (by rw [hok]; simp)])).mono fun e W' he => ⟨he.1, below_but he.2 g⟩
  unfold seeE at h ⊢
  rw [if_pos hok] at h ⊢
  split at h
  · omega
  · rename_i hl
    rw [if_neg hl]
    refine (See1_any hb g c _ _ s t q a n L W' hh (hg.below hbel hg.lt) (hSW.below hbel) (hlow.imp id fun ⟨b, off, ea, hlt⟩ => ⟨b, off, ea, Nat.lt_of_lt_of_le hlt hge⟩)).mono fun e W2 he => ?_
    rcases he with ⟨hl2, _⟩ | ⟨_, e1, hb2⟩
    · exact absurd hl2 hl
    · exact ⟨e1, hb2⟩
end Go.Proofs.YtoiaecfiinkmjaaDoor
