/- ident.tries and its deferred closure; ident.Next, ident.See: their contracts. -/
import Derived.Test.YtoiaecfiinkmjaaDoorClock
namespace Go.Proofs.YtoiaecfiinkmjaaDoor
open Go.RowKit Go.Shelf

/-- below block B all is as it was, but block g. -/
structure BelowBut (B g : Nat) (w w' : World) : Prop where
  os : w'.os = w.os
  tape : w'.tape = w.tape
  output : w'.output = w.output
  size : w.heap.size ≤ w'.heap.size
  block : ∀ k, k < B → k ≠ g → w'.heap[k]? = w.heap[k]?
theorem below_but {B : Nat} {w w' : World} (h : Below B w w') (g : Nat) : BelowBut B g w w' := ⟨h.os, h.tape, h.output, h.size, fun k hk _ => h.block k hk⟩
theorem BelowBut.trans {B g : Nat} {a b c : World} (h : BelowBut B g a b) (k : BelowBut B g b c) : BelowBut B g a c :=
  ⟨k.os.trans h.os, k.tape.trans h.tape, k.output.trans h.output, Nat.le_trans h.size k.size, fun i hi hg => (k.block i hi hg).trans (h.block i hi hg)⟩
theorem BelowBut.mono {B B' g : Nat} {w w' : World} (h : BelowBut B g w w') (hB : B' ≤ B) : BelowBut B' g w w' := ⟨h.os, h.tape, h.output, h.size, fun k hk => h.block k (Nat.lt_of_lt_of_le hk hB)⟩
theorem BelowBut.below {B g : Nat} {w w' : World} (h : BelowBut B g w w') (hg : B ≤ g) : Below B w w' := ⟨h.os, h.tape, h.output, h.size, fun k hk => h.block k hk (by omega)⟩
theorem Blk.but {W W' : World} {k g B : Nat} {T : TypeId} {cs : Array Value} (h : Blk W k T cs) (hb : BelowBut B g W W') (hk : k < B) (hg : k ≠ g) : Blk W' k T cs := (hb.block k hk hg).trans h
theorem but_setRow (B g : Nat) (w : World) (cs : Array Value) : BelowBut B g w (w.setRow g cs) := ⟨rfl, rfl, rfl, by simp [World.setRow], fun k _ hg => setRow_other w g k cs hg⟩

set_option maxHeartbeats 400000 in
theorem kcatch_idle (p q : Addr) (w : World) :
    CallsD Tryd.prog 53 #[.pointer (some p), .pointer (some q)] .returning w fun e u' w' => e = .returned (.tuple #[]) ∧ u' = .returning ∧ w' = w := by
  refine callsD_of_wpS Tryd.func53 rfl fun c₀ cs hu => ?_
  simp only [Tryd.ntmps53, List.size_toArray, List.length_cons, List.length_nil, Nat.reduceAdd, Nat.reduceSub, Array.replicate_succ, Array.replicate_zero, List.push_toArray, List.append_toArray, List.nil_append, List.cons_append]
  apply wpS_seq
  apply wpS_region
  simp [wpOpsS, go_sem, recoverD, hu, Exit.thenS]
  refine wpS_of_wp ?_
  go_wp2
  cases c₀
  simp_all [bodyPostS, results, Tryd.results53]

theorem krun_assert_errno (n : Int) (w : World) : (Instr.typeAssert (.iface 29 (.int .i64 n)) 20 29 true).run Tryd.prog w = .ok (.tuple #[.int .i64 n, .bool true]) w := by kernel_rfl
theorem Blk.keload {W : World} {g : Nat} {T : TypeId} {x : Int} (h : Blk W g T #[.int .i64 x]) : (loadVar 29 ⟨g, 0, none⟩).run Tryd.prog W = .ok (.int .i64 x) W := by
  have hc := h.cell 0
  simp at hc
  simp [go_sem, hc]

set_option maxRecDepth 100000 in
set_option maxHeartbeats 1000000 in
theorem kcatch_panicking (p q B : Nat) (n x : Int) (w : World) (T : TypeId) {t0 s0 q0 : Value} (hpq : p ≠ q) (hBp : B ≤ p) (hBq : B ≤ q)
    (hc : Blk w p T #[t0, s0, q0]) (hq : Blk w q 29 #[.int .i64 x]) :
    CallsD Tryd.prog 53 #[.pointer (some ⟨p, 0, none⟩), .pointer (some ⟨q, 0, none⟩)] (.panicking [{ v := .iface 29 (.int .i64 n), recovered := false }]) w fun e u' w' =>
      e = .returned (.tuple #[]) ∧ u' = .panicking [{ v := .iface 29 (.int .i64 n), recovered := true }] ∧ Blk w' p T (clkC 0 0 0) ∧ Blk w' q 29 #[.int .i64 n] ∧ Below B w w' := by
  have hq1 := hq.row_other (Ne.symm hpq) (clkC 0 0 0)
  have hq0 := hq1.cell 0
  have hqf0 := hq1.frozen 0
  have HB := Lib.hid hc
  have HQ := Lib.hid hq1
  clear hc hq hq1
  simp at hq0 hqf0
  have hta := krun_assert_errno n
  refine callsD_of_wpS Tryd.func53 rfl fun c₀ cs hu => ?_
  simp only [Tryd.ntmps53, List.size_toArray, List.length_cons, List.length_nil, Nat.reduceAdd, Nat.reduceSub, Array.replicate_succ, Array.replicate_zero, List.push_toArray, List.append_toArray, List.nil_append, List.cons_append]
  apply wpS_seq
  apply wpS_region
  simp [wpOpsS, go_sem, recoverD, hu, Exit.thenS]
  refine wpS_of_wp ?_
  go_wp2_with (refine L_kstore (.tmp 0) (.tmp 16) 0 0 0 rfl rfl HB.out ?_)
  refine ⟨rfl, _, rfl, .tuple #[], by simp [results, Tryd.results53], rfl, rfl, (HB.out.row (clkC 0 0 0)).set_other hpq _, HQ.out.set 0 _, ?_⟩
  exact (below_setRowK (Below.refl B w) hBp _).setCell (p := ⟨q, 0, none⟩) hBq _

/-- the two results in memory. -/
theorem results_cell2K {P : Program} {fn : Func} {p q : Tmp} {ty uy : TypeId} (h : fn.results = #[.cell p ty, .cell q uy]) (tmps : Array Value) (w : World) {a b : Addr} {v u : Value}
    (hp : tmps.getD p undef = .pointer (some a)) (hq : tmps.getD q undef = .pointer (some b)) (hv : (loadVar ty a).run P w = .ok v w) (hu : (loadVar uy b).run P w = .ok u w) :
    (results fn tmps).run P w = .ok (.tuple #[v, u]) w := results_cell2 h tmps w hp hq hv hu

set_option maxRecDepth 100000 in
set_option maxHeartbeats 1000000 in
theorem ktries_ret (clo : FuncId) (cap : Array Value) (hent : ∀ args w, (callFunc clo args).run Tryd.prog w = .ok (.enter clo args) w) (s t q s' t' q' : Int) (hok : okClk s t q = true) (g : Nat) (Tg : TypeId) (cs cs' : Array Value) (w : World) (hg : Blk w g Tg cs)
    (h : ∀ W hb, Blk W hb 92 (clkC s t q) → Blk W g Tg cs → Below w.heap.size w W → w.heap.size ≤ hb → Calls Tryd.prog clo (#[.pointer (some ⟨hb, 0, none⟩)] ++ cap) W fun e W' => e = .returned (.tuple #[]) ∧ Blk W' hb 92 (clkC s' t' q') ∧ Blk W' g Tg cs' ∧ BelowBut hb g W W') :
    Calls Tryd.prog 40 #[clkV s t q, .func (.func clo) #[] cap] w fun e w' => e = .returned (.tuple #[clkV s' t' q', .int .i64 0]) ∧ Blk w' g Tg cs' ∧ BelowBut w.heap.size g w w' := by
  have hgl := hg.lt
  have H := Lib.hid h
  have HC : Hid (∀ W, Calls Tryd.prog 17 #[clkV s t q] W (Ret (.int .i64 0) W)) := fun W => by have := CheckClock_any s t q W; rwa [if_pos hok] at this
  have hz : ((w.alloc (.cells (clkC s t q) 41)).alloc (.cells (clkC 0 0 0) 41)).heap.size = w.heap.size + 1 + 1 := by simp
  have B1 : Hid (Blk (((w.alloc (.cells (clkC s t q) 41)).alloc (.cells (clkC 0 0 0) 41)).alloc (.cells #[.int .i64 0] 29)) (w.heap.size + 1) 41 (clkC 0 0 0)) := by
    have := (Blk.new (w.alloc (.cells (clkC s t q) 41)) 41 (clkC 0 0 0)).alloc (.cells #[.int .i64 0] 29)
    rw [World.size_alloc] at this; exact this
  have B2 : Hid (Blk (((w.alloc (.cells (clkC s t q) 41)).alloc (.cells (clkC 0 0 0) 41)).alloc (.cells #[.int .i64 0] 29)) (w.heap.size + 1 + 1) 29 #[.int .i64 0]) := by
    have := Blk.new ((w.alloc (.cells (clkC s t q) 41)).alloc (.cells (clkC 0 0 0) 41)) 29 #[.int .i64 0]
    rw [hz] at this; exact this
  have B0 : Hid (Blk (((w.alloc (.cells (clkC s t q) 41)).alloc (.cells (clkC 0 0 0) 41)).alloc (.cells #[.int .i64 0] 29)) w.heap.size 41 (clkC s t q)) := ((Blk.new w 41 (clkC s t q)).alloc _).alloc _
  have HG : Hid (Blk (((w.alloc (.cells (clkC s t q) 41)).alloc (.cells (clkC 0 0 0) 41)).alloc (.cells #[.int .i64 0] 29)) g Tg cs) := ((hg.alloc _).alloc _).alloc _
  have HB : Hid (Below w.heap.size w (((w.alloc (.cells (clkC s t q) 41)).alloc (.cells (clkC 0 0 0) 41)).alloc (.cells #[.int .i64 0] 29))) := by show Below _ _ _; go_grown
  clear h hg hz hok
  have hmf : ∀ (fn : Fn) (first cap : Array Value) (w : World), (Instr.makeFunc fn first cap).run Tryd.prog w = .ok (.func fn first cap) w := fun _ _ _ _ => rfl
  go_enter_defers Tryd.func40, Tryd.ntmps40
  go_upto_region 2 with fail
  generalize ((w.alloc (.cells (clkC s t q) 41)).alloc (.cells (clkC 0 0 0) 41)).alloc (.cells #[.int .i64 0] 29) = X at B0 B1 B2 HG HB ⊢
  have c0 := B0.out.cell 0
  have c1 := B0.out.cell 1
  have c2 := B0.out.cell 2
  simp at c0 c1 c2
  go_wp2_with fail
  refine (HC.out _).mono ?_
  rintro e W ⟨rfl, hb⟩
  replace B0 := Lib.hid (B0.out.below hb B0.out.lt)
  replace B1 := Lib.hid (B1.out.below hb B1.out.lt)
  replace B2 := Lib.hid (B2.out.below hb B2.out.lt)
  replace HG := Lib.hid (HG.out.below hb HG.out.lt)
  replace HB := Lib.hid (HB.out.trans (hb.mono HB.out.size))
  clear hb c0 c1 c2
  have c0 := B0.out.cell 0
  have c1 := B0.out.cell 1
  have c2 := B0.out.cell 2
  simp at c0 c1 c2
  go_wp2_with fail
  refine (ineed_true _ _).mono ?_
  rintro e w' ⟨rfl, rfl⟩
  have hWz := HB.out.size
  go_wp2_with fail
  refine (H.out _ W.heap.size (Blk.new W 92 (clkC s t q)) (HG.out.alloc _) (HB.out.alloc hWz _) hWz).mono ?_
  rintro e W2 ⟨rfl, hh, hg2, hbut⟩
  have hp1 : w.heap.size + 1 < W.heap.size := B1.out.lt
  have hp2 : w.heap.size + 1 + 1 < W.heap.size := B2.out.lt
  replace B1 := Lib.hid ((B1.out.alloc (.cells (clkC s t q) 92)).but hbut hp1 (by omega))
  replace B2 := Lib.hid ((B2.out.alloc (.cells (clkC s t q) 92)).but hbut hp2 (by omega))
  have HBB : Hid (BelowBut w.heap.size g w W2) := (below_but (HB.out.alloc hWz (.cells (clkC s t q) 92)) g).trans (hbut.mono hWz)
  have HH2 := Lib.hid hh
  have HG2 := Lib.hid hg2
  have c3 := (B2.out.row_other (k := w.heap.size + 1) (by omega) (clkC s' t' q')).cell 0
  have f3 := (B2.out.row_other (k := w.heap.size + 1) (by omega) (clkC s' t' q')).frozen 0
  have h0 := HH2.out.cell 0
  have h1 := HH2.out.cell 1
  have h2 := HH2.out.cell 2
  simp at h0 h1 h2 c3
  clear hh hg2 hbut c0 c1 c2 B0 HG HB
  generalize W.heap.size = hbk at h0 h1 h2 HH2 ⊢
  clear HH2
  go_wp2_with (refine L_kstore (.tmp 4) (.tmp 21) s' t' q' rfl rfl B1.out ?_)
  refine leaves_cons (f := 53) (args := #[.pointer (some ⟨w.heap.size + 1, 0, none⟩), .pointer (some ⟨w.heap.size + 1 + 1, 0, none⟩)]) (by simp) (by simp [go_sem]) ?_
  refine (kcatch_idle _ _ _).mono ?_
  rintro e u' w'' ⟨rfl, rfl, rfl⟩
  have hne : g ≠ w.heap.size + 1 := by omega
  have hne2 : g ≠ w.heap.size + 1 + 1 := by omega
  refine ⟨_, results_cell2 (P := Tryd.prog) rfl _ _ rfl rfl (((B1.out.row (clkC s' t' q')).set_other (p := ⟨w.heap.size + 1 + 1, 0, none⟩) (by simp) _).kload) (((B2.out.row_other (k := w.heap.size + 1) (by omega) (clkC s' t' q')).set 0 (.int .i64 0)).keload), rfl, (HG2.out.row_other hne _).set_other (p := ⟨w.heap.size + 1 + 1, 0, none⟩) hne2 _, ?_⟩
  have hst : Below w.heap.size W2 ((W2.setRow (w.heap.size + 1) (clkC s' t' q')).setCell ⟨w.heap.size + 1 + 1, 0, none⟩ (.int .i64 0)) := (below_setRowK (Below.refl _ _) (by omega) _).setCell (p := ⟨w.heap.size + 1 + 1, 0, none⟩) (by simp; omega) _
  exact HBB.out.trans (below_but hst g)

set_option maxRecDepth 100000 in
set_option maxHeartbeats 1000000 in
theorem ktries_panic (clo : FuncId) (cap : Array Value) (hent : ∀ args w, (callFunc clo args).run Tryd.prog w = .ok (.enter clo args) w) (s t q n : Int) (w : World)
    (h : okClk s t q = true → ∀ W hb, Blk W hb 92 (clkC s t q) → Below w.heap.size w W → w.heap.size ≤ hb → Calls Tryd.prog clo (#[.pointer (some ⟨hb, 0, none⟩)] ++ cap) W fun e W' => e = .panicked [{ v := .iface 29 (.int .i64 n), recovered := false }] ∧ Below hb W W') (hn : okClk s t q = false → n = 211) :
    Calls Tryd.prog 40 #[clkV s t q, .func (.func clo) #[] cap] w (Ret (.tuple #[clkV 0 0 0, .int .i64 n]) w) := by
  have H := Lib.hid h
  have HCC := Lib.hid (fun W => CheckClock_any s t q W)
  have HN := Lib.hid hn
  have hz : ((w.alloc (.cells (clkC s t q) 41)).alloc (.cells (clkC 0 0 0) 41)).heap.size = w.heap.size + 1 + 1 := by simp
  have B1 : Hid (Blk (((w.alloc (.cells (clkC s t q) 41)).alloc (.cells (clkC 0 0 0) 41)).alloc (.cells #[.int .i64 0] 29)) (w.heap.size + 1) 41 (clkC 0 0 0)) := by
    have := (Blk.new (w.alloc (.cells (clkC s t q) 41)) 41 (clkC 0 0 0)).alloc (.cells #[.int .i64 0] 29)
    rw [World.size_alloc] at this; exact this
  have B2 : Hid (Blk (((w.alloc (.cells (clkC s t q) 41)).alloc (.cells (clkC 0 0 0) 41)).alloc (.cells #[.int .i64 0] 29)) (w.heap.size + 1 + 1) 29 #[.int .i64 0]) := by
    have := Blk.new ((w.alloc (.cells (clkC s t q) 41)).alloc (.cells (clkC 0 0 0) 41)) 29 #[.int .i64 0]
    rw [hz] at this; exact this
  have B0 : Hid (Blk (((w.alloc (.cells (clkC s t q) 41)).alloc (.cells (clkC 0 0 0) 41)).alloc (.cells #[.int .i64 0] 29)) w.heap.size 41 (clkC s t q)) := ((Blk.new w 41 (clkC s t q)).alloc _).alloc _
  have HB : Hid (Below w.heap.size w (((w.alloc (.cells (clkC s t q) 41)).alloc (.cells (clkC 0 0 0) 41)).alloc (.cells #[.int .i64 0] 29))) := by show Below _ _ _; go_grown
  clear h hz hn
  have hmf : ∀ (fn : Fn) (first cap : Array Value) (w : World), (Instr.makeFunc fn first cap).run Tryd.prog w = .ok (.func fn first cap) w := fun _ _ _ _ => rfl
  go_enter_defers Tryd.func40, Tryd.ntmps40
  go_upto_region 2 with fail
  generalize ((w.alloc (.cells (clkC s t q) 41)).alloc (.cells (clkC 0 0 0) 41)).alloc (.cells #[.int .i64 0] 29) = X at B0 B1 B2 HB ⊢
  cases hok : okClk s t q with
  | false =>
    have HC : Hid (∀ W, Calls Tryd.prog 17 #[clkV s t q] W (Ret (.int .i64 211) W)) := fun W => by have := HCC.out W; rwa [hok] at this
    obtain rfl := HN.out hok
    clear hok HCC
    have c0 := B0.out.cell 0
    have c1 := B0.out.cell 1
    have c2 := B0.out.cell 2
    simp at c0 c1 c2
    go_wp2_with fail
    refine (HC.out _).mono ?_
    rintro e W ⟨rfl, hb⟩
    replace B0 := Lib.hid (B0.out.below hb B0.out.lt)
    replace B1 := Lib.hid (B1.out.below hb B1.out.lt)
    replace B2 := Lib.hid (B2.out.below hb B2.out.lt)
    replace HB := Lib.hid (HB.out.trans (hb.mono HB.out.size))
    clear hb c0 c1 c2
    have c0 := B0.out.cell 0
    have c1 := B0.out.cell 1
    have c2 := B0.out.cell 2
    simp at c0 c1 c2
    go_wp2_with fail
    refine (ineed_false _ _).mono ?_
    rintro e w' ⟨rfl, rfl⟩
    refine leaves_cons (f := 53) (args := #[.pointer (some ⟨w.heap.size + 1, 0, none⟩), .pointer (some ⟨w.heap.size + 1 + 1, 0, none⟩)]) (by simp) (by simp [go_sem]) ?_
    refine (kcatch_panicking (w.heap.size + 1) (w.heap.size + 1 + 1) w.heap.size 211 0 _ _ (by omega) (by omega) (by omega) B1.out B2.out).mono ?_
    rintro e u' w'' ⟨rfl, rfl, k0, k1, hk⟩
    exact ⟨_, results_cell2 (P := Tryd.prog) rfl _ _ rfl rfl k0.kload k1.keload, rfl, HB.out.trans hk⟩
  | true =>
    have HC : Hid (∀ W, Calls Tryd.prog 17 #[clkV s t q] W (Ret (.int .i64 0) W)) := fun W => by have := HCC.out W; rwa [hok] at this
    have H1 := Lib.hid (H.out hok)
    clear hok HCC H
    have c0 := B0.out.cell 0
    have c1 := B0.out.cell 1
    have c2 := B0.out.cell 2
    simp at c0 c1 c2
    go_wp2_with fail
    refine (HC.out _).mono ?_
    rintro e W ⟨rfl, hb⟩
    replace B0 := Lib.hid (B0.out.below hb B0.out.lt)
    replace B1 := Lib.hid (B1.out.below hb B1.out.lt)
    replace B2 := Lib.hid (B2.out.below hb B2.out.lt)
    replace HB := Lib.hid (HB.out.trans (hb.mono HB.out.size))
    clear hb c0 c1 c2
    have c0 := B0.out.cell 0
    have c1 := B0.out.cell 1
    have c2 := B0.out.cell 2
    simp at c0 c1 c2
    go_wp2_with fail
    refine (ineed_true _ _).mono ?_
    rintro e w' ⟨rfl, rfl⟩
    have hWz := HB.out.size
    go_wp2_with fail
    refine (H1.out _ W.heap.size (Blk.new W 92 (clkC s t q)) (HB.out.alloc hWz _) hWz).mono ?_
    rintro e W2 ⟨rfl, hb⟩
    have hby : Below W.heap.size W W2 := Below.trans ((Below.refl _ _).alloc (Nat.le_refl _) _) hb
    replace B1 := Lib.hid (B1.out.below hby B1.out.lt)
    replace B2 := Lib.hid (B2.out.below hby B2.out.lt)
    replace HB := Lib.hid (HB.out.trans (hby.mono HB.out.size))
    clear hb hby c0 c1 c2
    refine leaves_cons (f := 53) (args := #[.pointer (some ⟨w.heap.size + 1, 0, none⟩), .pointer (some ⟨w.heap.size + 1 + 1, 0, none⟩)]) (by simp) (by simp [go_sem]) ?_
    refine (kcatch_panicking (w.heap.size + 1) (w.heap.size + 1 + 1) w.heap.size n 0 _ _ (by omega) (by omega) (by omega) B1.out B2.out).mono ?_
    rintro e u' w'' ⟨rfl, rfl, k0, k1, hk⟩
    exact ⟨_, results_cell2 (P := Tryd.prog) rfl _ _ rfl rfl k0.kload k1.keload, rfl, HB.out.trans hk⟩
end Go.Proofs.YtoiaecfiinkmjaaDoor
