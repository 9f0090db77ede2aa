/- Words for gessolaw11.IdentGives: the ids given as a map's keys; nine clocks, nine ids, as cells; what holds between rounds. -/
import Derived.Test.YtoiaecfiinkmjaaDoorRowC
import Derived.Test.YtoiaecfiinkmjaaDoorOpenAny
import Derived.Test.YtoiaecfiinkmjaaDoorRising
import Derived.Test.YtoiaecfiinkmjaaDoorAppend
import Derived.Maps.OwnSet
import Derived.Maps.OwnOps
import Derived.Maps.Views
import Derived.DeepKeys4
namespace Go.Proofs.YtoiaecfiinkmjaaDoor
open Go.ChangeShapes Go.WideShapes Go.ChangeAt Go.RowKit Go.Shelf Go.Maps

/-- THE KEYS: ids. -/
theorem idLaw : Keyed Tryd.prog 27 := Keyed.of_law (deep_law_laid row_laidOut (m := 2) (by omega) (of_decide_eq_true (by kernel_rfl)) (by kernel_rfl) (by kernel_rfl))
theorem idKeyType : Tryd.prog.keyType 27 = true := by kernel_rfl
theorem idCells : Tryd.prog.cellsOf 27 = 3 := by kernel_rfl
theorem typesSize : Tryd.prog.types.size + 1 = Tryd.prog.types.size - 2 + 1 + 1 + 1 := by kernel_rfl
theorem keyLits_int {P : Program} (d : Nat) {q : IntKind} {n : Int} {t : TypeId} (h : P.underlying t = some (.int q)) (hw : (Lit.int q n).wf = true) : P.keyLits (d + 1) t [.int q n] = some [.int q n] := by
  unfold Program.keyLits
  rw [h]
  simp [hw]
theorem keyLits_three {P : Program} (d : Nat) {k a b c : TypeId} {fs : Array Field} (h : P.underlying k = some (.struct fs)) (hc : P.cellsOf k = 3) (hf : fs.all (·.name != "_") = true)
    (hl : fs.toList.map (fun f => (f.type, f.offset)) = [(a, 0), (b, 1), (c, 2)]) (ca : P.cellsOf a = 1) (cb : P.cellsOf b = 1) (cc : P.cellsOf c = 1) {x y z : Value} {lx ly lz : List Lit}
    (hx : P.keyLits d a [x] = some lx) (hy : P.keyLits d b [y] = some ly) (hz : P.keyLits d c [z] = some lz) : (P.keyLits (d + 1) k [x, y, z]).isSome = true := by
  unfold Program.keyLits
  rw [h]
  simp only [List.length_cons, List.length_nil, hc, hf]
  obtain ⟨l⟩ := fs
  obtain ⟨f, g, e, rfl⟩ := list3 l (by have := congrArg List.length hl; simpa using this)
  simp at hl
  obtain ⟨⟨f1, f2⟩, ⟨g1, g2⟩, e1, e2⟩ := hl
  simp [f1, f2, g1, g2, e1, e2, ca, cb, cc, hx, hy, hz]
set_option maxRecDepth 100000 in
theorem keyOf_id (x : Idn) (hx : x.In) : ∃ l, keyOf Tryd.prog 27 x.val = some l := by
  have w0 : (Lit.int .u64 x.t).wf = true := WalkArith.wf_u64 ⟨hx.t0, hx.t1⟩
  have w1 : (Lit.int .i64 x.s).wf = true := WalkArith.wf_i64 ⟨hx.s0, hx.s1⟩
  have w2 : (Lit.int .u64 x.q).wf = true := WalkArith.wf_u64 ⟨hx.q0, hx.q1⟩
  have h3 := keyLits_three (Tryd.prog.types.size - 2 + 1 + 1) (Tryd.underlying27) idCells (by kernel_rfl) (by kernel_rfl) cellsU64 cellsInt cellsU64 (keyLits_int _ Tryd.underlying25 w0) (keyLits_int _ Tryd.underlying3 w1) (keyLits_int _ Tryd.underlying25 w2)
  refine Option.isSome_iff_exists.1 ?_
  unfold keyOf
  rw [Tryd.underlying27, idKeyType]
  simp only [Value.formed, Tryd.underlying27, idCells, Bool.true_and, Value.cells]
  rw [typesSize]
  have hs : (#[Value.int .u64 x.t, .int .i64 x.s, .int .u64 x.q] : Array Value).size == 3 := rfl
  rw [hs]
  simp only [if_true, Option.isSome_map]
  exact h3

/-- an id's key. -/
noncomputable def idKey (x : Idn) : Lit := (keyOf Tryd.prog 27 x.val).getD .nil
theorem idKey_spec (x : Idn) (hx : x.In) : keyOf Tryd.prog 27 x.val = some (idKey x) := by
  obtain ⟨l, hl⟩ := keyOf_id x hx
  rw [idKey, hl]; rfl
set_option maxRecDepth 100000 in
theorem idKey_inj {x y : Idn} (hx : x.In) (hy : y.In) (h : idKey x = idKey y) : x = y := by
  have h1 := idKey_spec x hx
  have h2 := idKey_spec y hy
  rw [h] at h1
  have := idLaw.inj h1 h2
  obtain ⟨a, b, c⟩ := x
  obtain ⟨a', b', c'⟩ := y
  simp [Idn.val] at this
  obtain ⟨rfl, rfl, rfl⟩ := this
  rfl
set_option maxRecDepth 100000 in
theorem idKey_key (x : Idn) (hx : x.In) : WideAt.IsKeyLit (idKey x) := idLaw.key (idKey_spec x hx)
abbrev D1 : DataW Unit := .lit (.int .i64 1)
noncomputable abbrev DG (G : List Idn) : DataW Unit := setOf D1 (G.map idKey)
theorem DG_snoc (G : List Idn) (x : Idn) : DG (G ++ [x]) = (DG G).put (idKey x) D1 := by
  unfold DG
  rw [List.map_append, List.map_singleton, setOf_snoc]
set_option maxRecDepth 100000 in
theorem DG_keys {G : List Idn} (h : ∀ y ∈ G, y.In) : ∀ l ∈ G.map idKey, WideAt.IsKeyLit l := by
  intro l hl
  obtain ⟨y, hy, rfl⟩ := List.mem_map.1 hl
  exact idKey_key y (h y hy)
set_option maxRecDepth 100000 in
theorem DG_miss {G : List Idn} (h : ∀ y ∈ G, y.In) (x : Idn) (hx : x.In) (hn : x ∉ G) (z : DataW Unit) : (DG G).atKey (idKey x) z = z := by
  refine atKey_of_not_has ?_ z
  rw [has_setOf _ _ _ (DG_keys h)]
  rw [List.any_eq_false]
  intro l hl
  obtain ⟨y, hy, rfl⟩ := List.mem_map.1 hl
  rw [sameKey_ne (fun e => hn (by rw [idKey_inj hx (h y hy) e.symm]; exact hy))]
  simp
theorem filter_insert_out {p : Lit × DataW Unit → Bool} {x : Lit × DataW Unit} (hx : p x = false) : ∀ l : List (Lit × DataW Unit), (DataW.insert x l).filter p = l.filter p
  | [] => by simp [DataW.insert, hx]
  | y :: r => by
    unfold DataW.insert
    split
    · simp [List.filter_cons, hx]
    · rw [List.filter_cons, List.filter_cons, filter_insert_out hx r]
theorem put_twice {D : DataW Unit} (hD : IsMap D) {k : Lit} (hk : WideAt.IsKeyLit k) (d : DataW Unit) : (D.put k d).put k d = D.put k d := by
  obtain ⟨es, rfl⟩ := hD
  have hs : k.sameKey k = true := by
    have := atKey_put_same (D := (.map [] : DataW Unit)) isMap_empty hk D1 .nil
    cases hc : k.sameKey k with
    | true => rfl
    | false => simp [DataW.put, DataW.insert, DataW.atKey, hc] at this
  show DataW.map (DataW.insert (k, d) ((DataW.insert (k, d) (es.filter fun p => !p.1.sameKey k)).filter fun p => !p.1.sameKey k)) = _
  rw [filter_insert_out (by simp [hs]), List.filter_filter]
  simp only [Bool.and_self]
  rfl
/-- block b is the map of the ids G. -/
def Given (b : Nat) (G : List Idn) (W : World) : Prop := ∃ n, n ≤ G.length ∧ W.ownsMap Tryd.prog 27 (plainElem Tryd.prog 3) b n (DG G)
theorem tight {W : World} {b n : Nat} {D : DataW Unit} (h : W.ownsMap Tryd.prog 27 (plainElem Tryd.prog 3) b n D) : W.ownsMap Tryd.prog 27 (plainElem Tryd.prog 3) b (Maps.size D) D := by
  obtain ⟨es, clock, hb, F, hs, rfl⟩ := h
  refine ⟨es, clock, hb, F, ?_, rfl⟩
  rw [size_eq, length_sorted]
  simp
theorem addKey_len (L : List Lit) (x : Lit) : (addKey L x).length ≤ L.length + 1 := by
  unfold addKey
  split <;> simp
theorem foldAdd_len : ∀ (xs L : List Lit), (xs.foldl addKey L).length ≤ L.length + xs.length
  | [], L => by simp
  | x :: xs, L => by
    rw [List.foldl_cons]
    have := foldAdd_len xs (addKey L x)
    have := addKey_len L x
    simp; omega
set_option maxRecDepth 100000 in
theorem given_of {W : World} {b n : Nat} {G : List Idn} (hG : ∀ y ∈ G, y.In) (h : W.ownsMap Tryd.prog 27 (plainElem Tryd.prog 3) b n (DG G)) : Given b G W := by
  refine ⟨_, ?_, tight h⟩
  rw [size_setOf _ _ (DG_keys hG)]
  have := foldAdd_len (G.map idKey) []
  simpa using this
theorem Given.kept {W W' : World} {b : Nat} {G : List Idn} {row : Option Nat} (h : Given b G W) (hg : W.grownBy W' row) (hne : some b ≠ row) : Given b G W' := by
  obtain ⟨n, hn, hm⟩ := h
  exact ⟨n, hn, hm.kept hg hne⟩
theorem Given.below {W W' : World} {b : Nat} {G : List Idn} (h : Given b G W) (hb : Below W.heap.size W W') : Given b G W' := by
  obtain ⟨n, hn, es, clock, h1, h2⟩ := h
  exact ⟨n, hn, es, clock, (hb.block b (Array.getElem?_eq_some_iff.1 h1).1).trans h1, h2⟩
theorem Given.lt {W : World} {b : Nat} {G : List Idn} (h : Given b G W) : b < W.heap.size := by obtain ⟨n, hn, hm⟩ := h; exact hm.lt
theorem Given.drew {W : World} {b : Nat} {G : List Idn} (h : Given b G W) : Given b G W.drew := h
theorem zeroInt (w : World) : (zeroValue 3).run Tryd.prog w = .ok (.int .i64 0) w := by kernel_rfl
set_option maxRecDepth 100000 in
theorem Given.look {W : World} {b : Nat} {G : List Idn} (h : Given b G W) (hG : ∀ y ∈ G, y.In) (x : Idn) (hx : x.In) (hn : x ∉ G) :
    (Instr.lookup 58 (.map (some b)) x.val false).run Tryd.prog W = .ok (.int .i64 0) W := by
  obtain ⟨n, _, hm⟩ := h
  obtain ⟨c, hrun, hat, _⟩ := hm.lookup_int idLaw Tryd.underlying58 Tryd.underlying3 (zeroInt W) (idKey_spec x hx)
  rw [DG_miss hG x hx hn] at hat
  have : c = 0 := by simpa using hat.symm
  rw [this] at hrun
  exact hrun
set_option maxRecDepth 100000 in
/-- what a store of x leaves, of G or of what a store of x has left already. -/
theorem Given.put {W : World} {b : Nat} {G : List Idn} (x : Idn) (hG : ∀ y ∈ G, y.In) (hx : x.In) (hlen : G.length ≤ 1000) (h : Given b G W ∨ Given b (G ++ [x]) W) :
    ∃ W', (Instr.mapUpdate 58 (.map (some b)) x.val (.int .i64 1)).run Tryd.prog W = .ok () W' ∧ Given b (G ++ [x]) W' ∧ W.grownBy W' (some b) := by
  have hG' : ∀ y ∈ G ++ [x], y.In := by
    intro y hy
    rcases List.mem_append.1 hy with h | h
    · exact hG y h
    · obtain rfl : y = x := by simpa using h
      exact hx
  have hv : plainElem (H := Unit) Tryd.prog 3 (.int .i64 1) = some (D1, []) := plainElem_int Tryd.underlying3 (by decide)
  rcases h with ⟨n, hn, hm⟩ | ⟨n, hn, hm⟩
  · obtain ⟨W', h1, h2, h3⟩ := hm.update idLaw Tryd.underlying58 (by unfold maxLen; omega) (idKey_spec x hx) hv
    exact ⟨W', h1, given_of hG' (by rw [DG_snoc]; exact h2), h3⟩
  · obtain ⟨W', h1, h2, h3⟩ := hm.update idLaw Tryd.underlying58 (by simp at hn; unfold maxLen; omega) (idKey_spec x hx) hv
    rw [DG_snoc, put_twice (tidy_setOf _ _ (DG_keys hG)).isMap (idKey_key x hx), ← DG_snoc] at h2
    exact ⟨W', h1, given_of hG' h2, h3⟩

/-- nine clocks, nine ids, as cells. -/
def clkArr (f : Nat → Clk) : Array Value := #[.int .i64 (f 0).s, .int .u64 (f 0).t, .int .u64 (f 0).q, .int .i64 (f 1).s, .int .u64 (f 1).t, .int .u64 (f 1).q, .int .i64 (f 2).s, .int .u64 (f 2).t, .int .u64 (f 2).q, .int .i64 (f 3).s, .int .u64 (f 3).t, .int .u64 (f 3).q, .int .i64 (f 4).s, .int .u64 (f 4).t, .int .u64 (f 4).q, .int .i64 (f 5).s, .int .u64 (f 5).t, .int .u64 (f 5).q, .int .i64 (f 6).s, .int .u64 (f 6).t, .int .u64 (f 6).q, .int .i64 (f 7).s, .int .u64 (f 7).t, .int .u64 (f 7).q, .int .i64 (f 8).s, .int .u64 (f 8).t, .int .u64 (f 8).q]
def idArr (f : Nat → Idn) : Array Value := #[.int .u64 (f 0).t, .int .i64 (f 0).s, .int .u64 (f 0).q, .int .u64 (f 1).t, .int .i64 (f 1).s, .int .u64 (f 1).q, .int .u64 (f 2).t, .int .i64 (f 2).s, .int .u64 (f 2).q, .int .u64 (f 3).t, .int .i64 (f 3).s, .int .u64 (f 3).q, .int .u64 (f 4).t, .int .i64 (f 4).s, .int .u64 (f 4).q, .int .u64 (f 5).t, .int .i64 (f 5).s, .int .u64 (f 5).q, .int .u64 (f 6).t, .int .i64 (f 6).s, .int .u64 (f 6).q, .int .u64 (f 7).t, .int .i64 (f 7).s, .int .u64 (f 7).q, .int .u64 (f 8).t, .int .i64 (f 8).s, .int .u64 (f 8).q]
theorem clkArr_get (f : Nat → Clk) {n : Nat} (h : n < 9) : (clkArr f)[n * 3]? = some (.int .i64 (f n).s) ∧ (clkArr f)[n * 3 + 1]? = some (.int .u64 (f n).t) ∧ (clkArr f)[n * 3 + 2]? = some (.int .u64 (f n).q) := by
  rcases lt9 h with rfl | rfl | rfl | rfl | rfl | rfl | rfl | rfl | rfl <;> exact ⟨rfl, rfl, rfl⟩
theorem idArr_get (f : Nat → Idn) {n : Nat} (h : n < 9) : (idArr f)[n * 3]? = some (.int .u64 (f n).t) ∧ (idArr f)[n * 3 + 1]? = some (.int .i64 (f n).s) ∧ (idArr f)[n * 3 + 2]? = some (.int .u64 (f n).q) := by
  rcases lt9 h with rfl | rfl | rfl | rfl | rfl | rfl | rfl | rfl | rfl <;> exact ⟨rfl, rfl, rfl⟩
theorem clkArr_set (f : Nat → Clk) {n : Nat} (h : n < 9) (x : Clk) : (((clkArr f).setIfInBounds (n * 3) (.int .i64 x.s)).setIfInBounds (n * 3 + 1) (.int .u64 x.t)).setIfInBounds (n * 3 + 2) (.int .u64 x.q) = clkArr fun j => if j = n then x else f j := by
  rcases lt9 h with rfl | rfl | rfl | rfl | rfl | rfl | rfl | rfl | rfl <;> rfl
theorem idArr_set (f : Nat → Idn) {n : Nat} (h : n < 9) (x : Idn) : (((idArr f).setIfInBounds (n * 3) (.int .u64 x.t)).setIfInBounds (n * 3 + 1) (.int .i64 x.s)).setIfInBounds (n * 3 + 2) (.int .u64 x.q) = idArr fun j => if j = n then x else f j := by
  rcases lt9 h with rfl | rfl | rfl | rfl | rfl | rfl | rfl | rfl | rfl <;> rfl
/-- three cells of a block of the call's own. -/
theorem Blk.set3 {W : World} {g : Nat} {T : TypeId} {cs : Array Value} (h : Blk W g T cs) (o : Nat) (a b c : Value) : Blk (W.setCells g o [a, b, c]) g T (((cs.setIfInBounds o a).setIfInBounds (o + 1) b).setIfInBounds (o + 2) c) := ((h.set o a).set (o + 1) b).set (o + 2) c
theorem Blk.set3_other {W : World} {g k : Nat} {T : TypeId} {cs : Array Value} (h : Blk W g T cs) (hk : g ≠ k) (o : Nat) (a b c : Value) : Blk (W.setCells k o [a, b, c]) g T cs := ((h.set_other (p := ⟨k, o, none⟩) hk a).set_other (p := ⟨k, o + 1, none⟩) hk b).set_other (p := ⟨k, o + 2, none⟩) hk c
theorem below_set3 {B : Nat} {w X : World} {g : Nat} (h : Below B w X) (hg : B ≤ g) (o : Nat) (a b c : Value) : Below B w (X.setCells g o [a, b, c]) := ((h.setCell (p := ⟨g, o, none⟩) hg a).setCell (p := ⟨g, o + 1, none⟩) hg b).setCell (p := ⟨g, o + 2, none⟩) hg c
theorem Blk.there3 {W : World} {g : Nat} {T : TypeId} {cs : Array Value} (h : Blk W g T cs) {o : Nat} (ho : o + 3 ≤ cs.size) : W.there g o 3 := fun j hj => ⟨by rw [h.cell, Array.getElem?_eq_getElem (by omega)]; rfl, h.frozen _⟩

/-- what holds between rounds. -/
structure GInv (i : Nat) (C : Nat → Clk) (L : Nat → Idn) (G : List Idn) : Prop where
  site : ∀ j, 1 ≤ j → j ≤ 8 → (C j).s = j
  t0 : ∀ j, 1 ≤ j → j ≤ 8 → 0 ≤ (C j).t ∧ (C j).t ≤ 1099511627776 + i
  q0 : ∀ j, 1 ≤ j → j ≤ 8 → 0 ≤ (C j).q ∧ (C j).q ≤ i
  lq : ∀ j, 1 ≤ j → j ≤ 8 → (L j).q = (C j).q
  lt : ∀ j, 1 ≤ j → j ≤ 8 → (L j).t ≤ (C j).t
  ids : ∀ y ∈ G, y.In
  old : ∀ y ∈ G, ∀ j : Nat, 1 ≤ j → j ≤ 8 → y.s = j → y.q ≤ (C j).q
  len : G.length ≤ i
theorem GInv.start : GInv 0 (fun j => if 1 ≤ j ∧ j < 9 then ⟨j, 0, 0⟩ else ⟨0, 0, 0⟩) (fun _ => ⟨0, 0, 0⟩) [] where
  site := fun j h1 h2 => by rw [if_pos (by omega)]
  t0 := fun j h1 h2 => by rw [if_pos (by omega)]; simp
  q0 := fun j h1 h2 => by rw [if_pos (by omega)]; simp
  lq := fun j h1 h2 => by rw [if_pos (by omega)]
  lt := fun j h1 h2 => by rw [if_pos (by omega)]; simp
  ids := fun y hy => by simp at hy
  old := fun y hy => by simp at hy
  len := by simp
/-- a clock sees a time. -/
theorem GInv.see {i : Nat} {C : Nat → Clk} {L : Nat → Idn} {G : List Idn} (h : GInv i C L G) (n : Nat) (h1 : 1 ≤ n) (h8 : n ≤ 8) (t : Int) (ht : (C n).t ≤ t) (ht2 : t ≤ 1099511627776 + i) :
    GInv (i + 1) (fun j => if j = n then ⟨n, t, (C n).q⟩ else C j) L G where
  site := fun j a b => by
    by_cases e : j = n
    · subst e; simp
    · simp only [e, if_false]; exact h.site j a b
  t0 := fun j a b => by
    by_cases e : j = n
    · subst e; have := h.t0 j a b; simp; omega
    · have := h.t0 j a b; simp only [e, if_false]; omega
  q0 := fun j a b => by
    by_cases e : j = n
    · subst e; have := h.q0 j a b; simp; omega
    · have := h.q0 j a b; simp only [e, if_false]; omega
  lq := fun j a b => by
    by_cases e : j = n
    · subst e; simp [h.lq j a b]
    · simp only [e, if_false]; exact h.lq j a b
  lt := fun j a b => by
    by_cases e : j = n
    · subst e; have := h.lt j a b; simp; omega
    · simp only [e, if_false]; exact h.lt j a b
  ids := h.ids
  old := fun y hy j a b hs => by
    by_cases e : j = n
    · subst e; simp; exact h.old y hy j a b hs
    · simp only [e, if_false]; exact h.old y hy j a b hs
  len := by have := h.len; omega
/-- a clock gives an id. -/
theorem GInv.give {i : Nat} {C : Nat → Clk} {L : Nat → Idn} {G : List Idn} (h : GInv i C L G) (hi : i ≤ 1000) (n : Nat) (h1 : 1 ≤ n) (h8 : n ≤ 8) :
    GInv (i + 1) (fun j => if j = n then ⟨n, (C n).t + 1, (C n).q + 1⟩ else C j) (fun j => if j = n then ⟨(C n).t + 1, n, (C n).q + 1⟩ else L j) (G ++ [⟨(C n).t + 1, n, (C n).q + 1⟩]) where
  site := fun j a b => by
    by_cases e : j = n
    · subst e; simp
    · simp only [e, if_false]; exact h.site j a b
  t0 := fun j a b => by
    by_cases e : j = n
    · subst e; have := h.t0 j a b; simp; omega
    · have := h.t0 j a b; simp only [e, if_false]; omega
  q0 := fun j a b => by
    by_cases e : j = n
    · subst e; have := h.q0 j a b; simp; omega
    · have := h.q0 j a b; simp only [e, if_false]; omega
  lq := fun j a b => by
    by_cases e : j = n
    · subst e; simp
    · simp only [e, if_false]; exact h.lq j a b
  lt := fun j a b => by
    by_cases e : j = n
    · subst e; simp
    · simp only [e, if_false]; exact h.lt j a b
  ids := fun y hy => by
    rcases List.mem_append.1 hy with hy | hy
    · exact h.ids y hy
    · obtain rfl : y = _ := by simpa using hy
      have := h.t0 n h1 h8
      have := h.q0 n h1 h8
      exact ⟨by simp <;> omega, by simp <;> omega, by simp <;> omega, by simp <;> omega, by simp <;> omega, by simp <;> omega⟩
  old := fun y hy j a b hs => by
    rcases List.mem_append.1 hy with hy | hy
    · have := h.old y hy j a b hs
      by_cases e : j = n
      · subst e; simp; omega
      · simp only [e, if_false]; exact this
    · obtain rfl : y = _ := by simpa using hy
      obtain rfl : n = j := by have : (n : Int) = j := hs; omega
      simp
  len := by have := h.len; simp; omega
theorem GInv.fresh {i : Nat} {C : Nat → Clk} {L : Nat → Idn} {G : List Idn} (h : GInv i C L G) (n : Nat) (h1 : 1 ≤ n) (h8 : n ≤ 8) : (⟨(C n).t + 1, n, (C n).q + 1⟩ : Idn) ∉ G := fun hm => by
  have := h.old _ hm n h1 h8 rfl
  simp only at this
  omega
end Go.Proofs.YtoiaecfiinkmjaaDoor
