/- gessoref11.Sorted: its contract. -/
import Derived.Test.YtoiaecfiinkmjaaDoorInsLaw
import Derived.Test.YtoiaecfiinkmjaaDoorRef11
import Derived.Test.YtoiaecfiinkmjaaDoorAppend
namespace Go.Proofs.YtoiaecfiinkmjaaDoor
open Go.RowKit Go.Shelf
attribute [local go_sem] Oper.semAt_some

/-- ids in a row of the call's own. -/
abbrev OwnIds (B : Nat) (W : World) (v : Value) (l : List Idn) : Prop := W.ownsRow B 27 3 v l.length (l.flatMap encId)
theorem OwnIds.cells {B : Nat} {W : World} {g n c : Nat} {l : List Idn} (h : OwnIds B W (.slice (some ⟨g, 0, none⟩) n c) l) {j : Nat} {y : Idn} (hy : l[j]? = some y) :
    W.cell? ⟨g, j * 3, none⟩ = some (.int .u64 y.t) ∧ W.cell? ⟨g, j * 3 + 1, none⟩ = some (.int .i64 y.s) ∧ W.cell? ⟨g, j * 3 + 2, none⟩ = some (.int .u64 y.q) := by
  have hj : j < l.length := (List.getElem?_eq_some_iff.1 hy).1
  obtain rfl : n = l.length := by
    rcases h.2 with ⟨h0, _⟩ | ⟨_, _, _, hv, _⟩
    · cases h0
    · injection hv
  have f := flat_get (enc := encId) (k := 3) (fun _ => rfl) l j y hy
  exact ⟨(h.cellAt (j * 3) (by omega)).trans (f 0 _ rfl), (h.cellAt (j * 3 + 1) (by omega)).trans (f 1 _ rfl), (h.cellAt (j * 3 + 2) (by omega)).trans (f 2 _ rfl)⟩
theorem OwnIds.shape {B : Nat} {W : World} {v : Value} {l : List Idn} (h : OwnIds B W v l) : ∃ p cap, v = .slice p l.length cap ∧ l.length ≤ cap ∧ cap ≤ maxLen ∧ (p = none → l = [] ∧ cap = 0) ∧ (∀ q, p = some q → ∃ g, q = ⟨g, 0, none⟩ ∧ B ≤ g ∧ g < W.heap.size) := by
  rcases h.2 with ⟨rfl, h0⟩ | ⟨g, cap, cur, rfl, hg, hgg, h1, h2, _⟩
  · exact ⟨none, 0, by rw [h0], by omega, by simp [maxLen], fun _ => ⟨List.length_eq_zero_iff.1 h0, rfl⟩, fun q hq => by cases hq⟩
  · exact ⟨_, cap, rfl, h1, h2, (fun h => by cases h), (fun q hq => ⟨g, by cases hq; rfl, hg, (Array.getElem?_eq_some_iff.1 hgg).1⟩)⟩
theorem ownsRow_below {W W' : World} {B : Nat} {E : TypeId} {k n : Nat} {v : Value} {xs : List Value} (h : W.ownsRow B E k v n xs) (hb : Below W.heap.size W W') : W'.ownsRow B E k v n xs :=
  Keeps.below (lim := n) hb B v n xs (Nat.le_refl _) h

/-- what is known of the insertion's parts. -/
def sF (B j : Nat) (x : Idn) (out : List Idn) : Nat → Value → World → Prop := fun k v W => match k with
  | 0 => W.ownsRow B 27 3 v 0 []
  | 4 => W.ownsRow B 27 3 v j ((out.take j).flatMap encId)
  | 6 => W.ownsRow B 27 3 v 1 (encId x)
  | 7 => W.ownsRow B 27 3 v (j + 1) ((out.take j).flatMap encId ++ encId x)
  | 11 => W.ownsRow B 27 3 v (j + 1 + (out.length - j)) ((out.take j).flatMap encId ++ encId x ++ (out.drop j).flatMap encId)
  | _ => True
/-- what each part does. -/
def sR (j : Nat) (x : Idn) (out : List Idn) : Nat → World → World → Prop := fun k W W' => match k with
  | 7 => Keeps 27 3 j W W' ∧ KeepsHead 27 3 ((out.take j).flatMap encId ++ encId x) W W'
  | 11 => Keeps 27 3 (j + 1) W W'
  | _ => Keeps 27 3 (out.length + 1) W W'
theorem s_stab {late : Nat → Nat → Bool} {B j : Nat} {x : Idn} {out : List Idn} (hj : j ≤ out.length) (h711 : late 7 11 = true) : Rely.Outlasts (sF B j x out) (sR j x out) late := by
  intro i k v w w' hl hne hR hF
  have key : ∀ n xs, n ≤ out.length + 1 → (i = 7 → n ≤ j) → (i = 11 → n ≤ j + 1) → w.ownsRow B 27 3 v n xs → w'.ownsRow B 27 3 v n xs := by
    intro n xs hn h7 h11 ho
    by_cases e7 : i = 7
    · subst e7; exact hR.1 B v n xs (h7 rfl) ho
    · by_cases e11 : i = 11
      · subst e11; exact hR B v n xs (h11 rfl) ho
      · have hR' : Keeps 27 3 (out.length + 1) w w' := by
          unfold sR at hR
          split at hR
          · exact absurd rfl e7
          · exact absurd rfl e11
          · exact hR
        exact hR' B v n xs hn ho
  unfold sF at hF ⊢
  split
  · exact key _ _ (by omega) (fun _ => by omega) (fun _ => by omega) hF
  · exact key _ _ (by omega) (fun _ => by omega) (fun _ => by omega) hF
  · by_cases e7 : i = 7
    · subst e7
      by_cases hj0 : j = 0
      · subst hj0
        have := hR.2 B v 1 (by simp [encId])
        simp only [List.take_zero, List.flatMap_nil, List.nil_append] at this
        exact this hF
      · exact key _ _ (by omega) (fun _ => by omega) (fun _ => by omega) hF
    · exact key _ _ (by omega) (fun h => absurd h e7) (fun _ => by omega) hF
  · exact key _ _ (by omega) (fun h => absurd h.symm hne) (fun _ => by omega) hF
  · refine key _ _ (by omega) (fun h => ?_) (fun h => absurd h.symm hne) hF
    subst h; rw [h711] at hl; cases hl
  · trivial

set_option maxRecDepth 100000 in
set_option maxHeartbeats 2000000 in
theorem RSorted_any (a : Option Addr) (n c : Nat) (L : List Idn) (w : World) (hS : RowS encId 3 w a n L) (hlen : L.length ≤ 1000) :
    Calls Tryd.prog 32 #[.slice a n c] w (ClonedOwn encId 3 n 27 (rsort L) w) := by
  obtain ⟨rfl, _, hL⟩ := hS
  have HL := Lib.hid hL
  clear hL
  obtain ⟨i0, HINF⟩ : ∃ i0, Hid (Tryd.prog.info? 27 = some i0 ∧ i0.zero = some zId ∧ i0.size = 3 ∧ i0.bytes = 24) := by
    have h := infoId
    cases e : Tryd.prog.info? 27 with
    | none => rw [e] at h; cases h
    | some i0 => rw [e] at h; simp at h; exact ⟨i0, rfl, h⟩
  go_enter Tryd.func32, Tryd.ntmps32
  go_wp2_with fail
  go_loopw [3, 9] (fun v i wr => ∃ k : Nat, k ≤ L.length ∧ i = .int .i64 k ∧ OwnIds w.heap.size wr v (rsort (L.take k)) ∧ Below w.heap.size w wr) (fun _ i _ => L.length - (intOf i).toNat)
  case atStart => exact ⟨0, Nat.zero_le _, rfl, World.ownsRow_nil w w.heap.size 27 3, Below.refl _ _⟩
  case round =>
    obtain ⟨k, hk, rfl, ho, hB⟩ := hrel
    by_cases hlt : k < L.length
    · obtain ⟨b, off, rfl, hbl, hv⟩ := HL.out.resolve_left (fun e => by rw [e] at hlt; simp at hlt)
      obtain ⟨x, hx⟩ : ∃ x, L[k]? = some x := ⟨_, List.getElem?_eq_getElem hlt⟩
      have x0 : wr.cell? ⟨b, off + k * 3, none⟩ = some (.int .u64 x.t) := (hB.cell (p := ⟨b, off + k * 3, none⟩) hbl).trans (hv k x hx 0 _ rfl)
      have x1 : wr.cell? ⟨b, off + k * 3 + 1, none⟩ = some (.int .i64 x.s) := (hB.cell (p := ⟨b, off + k * 3 + 1, none⟩) hbl).trans (hv k x hx 1 _ rfl)
      have x2 : wr.cell? ⟨b, off + k * 3 + 2, none⟩ = some (.int .u64 x.q) := (hB.cell (p := ⟨b, off + k * 3 + 2, none⟩) hbl).trans (hv k x hx 2 _ rfl)
      have HR : Hid (rsort (L.take (k + 1)) = insR x (rsort (L.take k))) := by show _ = _; rw [List.take_add_one, hx]; exact rsort_snoc _ _
      have hrl : (rsort (L.take k)).length ≤ 1000 := by rw [rsort_length, List.length_take]; omega
      have HO := Lib.hid ho
      have HB := Lib.hid hB
      clear ho hB hv hx
      generalize rsort (L.take k) = out at HO HR hrl
      go_wp2_with fail
      have HT := Lib.hid (Blk.new wr 27 #[.int .u64 x.t, .int .i64 x.s, .int .u64 x.q])
      have HO1 : Hid (OwnIds w.heap.size (wr.alloc (.cells #[.int .u64 x.t, .int .i64 x.s, .int .u64 x.q] 27)) u3 out) := ownsRow_below HO.out ((Below.refl _ _).alloc (Nat.le_refl _) _)
      have HB1 := Lib.hid (HB.out.alloc HB.out.size (.cells #[.int .u64 x.t, .int .i64 x.s, .int .u64 x.q] 27))
      have HZ : Hid (w.heap.size ≤ wr.heap.size) := HB.out.size
      clear HO HB x0 x1 x2
      generalize wr.alloc (.cells #[.int .u64 x.t, .int .i64 x.s, .int .u64 x.q] 27) = X at HT HO1 HB1 ⊢
      generalize wr.heap.size = p5 at HT HZ ⊢
      obtain ⟨p, cap, rfl, hc1, hc2, hnil, hsome⟩ := HO1.out.shape
      have HNS := Lib.hid (And.intro hnil hsome)
      unfold maxLen at hc2
      clear hnil hsome
      go_loopw [6] (fun kk W => ∃ j : Nat, j ≤ out.length ∧ kk = .int .i64 j ∧ (∀ i y, i < j → out[i]? = some y → lessId x y = false) ∧ Below X.heap.size X W) (fun kk _ => out.length - (intOf kk).toNat)
      case atStart => exact ⟨0, Nat.zero_le _, rfl, fun i y h => absurd h (Nat.not_lt_zero _), Below.refl _ _⟩
      case round =>
        obtain ⟨j, hj, rfl, hgd, hBX⟩ := hrel
        have HGD := Lib.hid hgd
        have HX := Lib.hid hBX
        clear hgd hBX
        by_cases hjl : j < out.length
        · obtain ⟨y, hy⟩ : ∃ y, out[j]? = some y := ⟨_, List.getElem?_eq_getElem hjl⟩
          obtain ⟨g, rfl, hg1, hg2⟩ : ∃ g, p = some ⟨g, 0, none⟩ ∧ w.heap.size ≤ g ∧ g < X.heap.size := by
            cases p with
            | none => rw [(HNS.out.1 rfl).1] at hjl; simp at hjl
            | some q => obtain ⟨g, rfl, h1, h2⟩ := HNS.out.2 q rfl; exact ⟨g, rfl, h1, h2⟩
          have HY := Lib.hid hy
          obtain ⟨S, hS⟩ : ∃ S : World → Prop, S = fun W' => Below wr.heap.size wr W' := ⟨_, rfl⟩
          have HSx : Hid (∀ W', S W' → W'.cell? ⟨p5, 0, none⟩ = some (.int .u64 x.t) ∧ W'.cell? ⟨p5, 1, none⟩ = some (.int .i64 x.s) ∧ W'.cell? ⟨p5, 2, none⟩ = some (.int .u64 x.q)) := fun W' hW => by
            rw [hS] at hW
            have h := (HT.out.below HX.out HT.out.lt).below hW (Nat.lt_of_lt_of_le HT.out.lt HX.out.size)
            exact ⟨h.cell 0, h.cell 1, h.cell 2⟩
          have HSy : Hid (∀ W', S W' → W'.cell? ⟨g, j * 3, none⟩ = some (.int .u64 y.t) ∧ W'.cell? ⟨g, j * 3 + 1, none⟩ = some (.int .i64 y.s) ∧ W'.cell? ⟨g, j * 3 + 2, none⟩ = some (.int .u64 y.q)) := fun W' hW => by
            rw [hS] at hW
            exact OwnIds.cells (ownsRow_below (ownsRow_below HO1.out HX.out) hW) HY.out
          have HSn : Hid (∀ W W', S W → Below W.heap.size W W' → S W') := by intro W W' h hb; rw [hS] at h ⊢; exact h.trans (hb.mono h.size)
          have hS0 : S wr.drew := by rw [hS]; exact (Below.refl _ _).drew
          have HSB : Hid (∀ W, S W → Below X.heap.size X W) := by intro W h; rw [hS] at h; exact HX.out.trans (h.mono HX.out.size)
          have hcl : decide (j < out.length) = true := by simpa using hjl
          have HLs := Lib.hid (fun W => RLess_any x y W)
          clear hS hy
          cases hlx : lessId x y with
          | true =>
            rw [hlx] at HLs
            have HLX := Lib.hid hlx
            clear hlx
            go_wp2_with fail
            refine wp_region_held_rel 12 S (fun k v _ => match k with | 10 => v = .bool true | _ => True) (by kernel_rfl) (by kernel_rfl) (by kernel_rfl) (by kernel_rfl) (fun _ _ _ _ _ h => h) hS0 ?_
            clear hS0
            simp only [List.take_succ_cons, List.take_zero, List.drop_succ_cons, List.drop_zero]
            repeat (first | (refine relSeq_on rfl (fun K hK w1 hS1 hD1 => ?_); obtain ⟨c0, c1, c2⟩ := HSx.out w1 hS1; obtain ⟨d0, d1, d2⟩ := HSy.out w1 hS1; go_simp; refine ⟨⟨trivial, hS1, Below.refl _ _⟩, hK _ ?_⟩; clear hK hD1 c0 c1 c2 d0 d1 d2 hS1 K w1) | (refine relSeq_off rfl (fun _ _ => trivial) (fun K hK => ?_); go_simp; refine hK _ ?_; clear hK K))
            refine relSeq_on rfl (fun K hK w1 hS1 hD1 => ?_)
            go_simp
            refine ⟨(HLs.out w1).mono fun e w2 he => ⟨_, he.1, rfl, HSn.out _ _ hS1 he.2, he.2⟩, fun v hv => ?_⟩
            obtain ⟨_, _, hv⟩ := hv.out
            obtain rfl : v = .bool true := hv
            refine hK _ ?_
            clear hK hD1 hS1 K w1 hv
            repeat (first | (refine relSeq_on rfl (fun K hK w1 hS1 hD1 => ?_); obtain ⟨c0, c1, c2⟩ := HSx.out w1 hS1; obtain ⟨d0, d1, d2⟩ := HSy.out w1 hS1; go_simp; refine ⟨⟨trivial, hS1, Below.refl _ _⟩, hK _ ?_⟩; clear hK hD1 c0 c1 c2 d0 d1 d2 hS1 K w1) | (refine relSeq_off rfl (fun _ _ => trivial) (fun K hK => ?_); go_simp; refine hK _ ?_; clear hK K))
            refine relSeq_nil ?_
            intro listed w2 hS2 hF2 hl2
            have HBX2 := Lib.hid (HSB.out w2 hS2)
            clear hF2 hl2 hS2
            go_wp2_with fail
            have HP : Hid (placeR x out = j) := placeR_at x out j HGD.out (by omega) (.inr ⟨y, HY.out, HLX.out⟩)
            clear HGD HY HLX HSx HSy HSn HSB HLs HX
            have HO2 : Hid (OwnIds w.heap.size w2 (.slice (some ⟨g, 0, none⟩) out.length cap) out) := ownsRow_below HO1.out HBX2.out
            have HT2 := Lib.hid (HT.out.below HBX2.out HT.out.lt)
            have HB2 : Hid (Below w.heap.size w w2) := HB1.out.trans (HBX2.out.mono HB1.out.size)
            clear HO1 HT HB1 HBX2
            have HI : Hid (Tryd.prog.info? 27 = some i0 ∧ i0.zero = some zId ∧ i0.size = 3 ∧ i0.bytes = 24) := HINF.out
            have HOg : Hid (∀ W, Below w2.heap.size w2 W → ∀ i u, (out.flatMap encId)[i]? = some u → W.cell? ((⟨g, 0, none⟩ : Addr).add i) = some u) := fun W hW => World.ownsRow.cells (ownsRow_below HO2.out hW) rfl
            have hsplit : (out.take j).flatMap encId ++ (out.drop j).flatMap encId = out.flatMap encId := by rw [← List.flatMap_append, List.take_append_drop]
            have hltk : ((out.take j).flatMap encId).length = j * 3 := by rw [flat_length (enc := encId) (k := 3) (fun _ => rfl), List.length_take, Nat.min_eq_left (by omega)]
            have hldr : ((out.drop j).flatMap encId).length = (out.length - j) * 3 := by rw [flat_length (enc := encId) (k := 3) (fun _ => rfl), List.length_drop]
            have HN1 : Hid (((out.take j).flatMap encId).length = j * 3 ∧ ∀ W, Below w2.heap.size w2 W → ∀ i u, ((out.take j).flatMap encId)[i]? = some u → W.cell? ((⟨g, 0, none⟩ : Addr).add i) = some u) := ⟨hltk, fun W hW i u hu => HOg.out W hW i u (by
              have hi := (List.getElem?_eq_some_iff.1 hu).1
              rw [← hsplit, List.getElem?_append_left hi]; exact hu)⟩
            have HN1o : Hid (∀ l : List Idn, ∀ u ∈ l.flatMap encId, u.oneCell' = true) := fun l u hu => by
              obtain ⟨z, _, hz⟩ := List.mem_flatMap.1 hu
              exact oneId z u hz
            have HN2 : Hid (((out.drop j).flatMap encId).length = (out.length - j) * 3 ∧ ∀ A : Addr, A = (if cap = j then ⟨g, 0, none⟩ else ⟨g, j * 3, none⟩) → ∀ W, Below w2.heap.size w2 W → ∀ i u, ((out.drop j).flatMap encId)[i]? = some u → W.cell? (A.add i) = some u) := ⟨hldr, fun A hA W hW i u hu => by
              have hi := (List.getElem?_eq_some_iff.1 hu).1
              by_cases hcj : cap = j
              · have : out.length - j = 0 := by omega
                rw [hldr, this] at hi; omega
              · rw [if_neg hcj] at hA
                have := HOg.out W hW (j * 3 + i) u (by rw [← hsplit, List.getElem?_append_right (by rw [hltk]; omega), hltk, show j * 3 + i - j * 3 = i by omega]; exact hu)
                rw [hA]
                rw [Addr.add_lit] at this ⊢
                rw [Nat.zero_add] at this
                exact this⟩
            clear hsplit hltk hldr
            obtain ⟨S, hS⟩ : ∃ S : World → Prop, S = fun W' => Below w2.heap.size w2 W' := ⟨_, rfl⟩
            have hS0 : S w2.drew := by rw [hS]; exact (Below.refl _ _).drew
            have HSd : Hid (∀ W, S W ↔ Below w2.heap.size w2 W) := by intro W; rw [hS]
            have HSx : Hid (∀ W', S W' → W'.cell? ⟨p5, 0, none⟩ = some (.int .u64 x.t) ∧ W'.cell? ⟨p5, 1, none⟩ = some (.int .i64 x.s) ∧ W'.cell? ⟨p5, 2, none⟩ = some (.int .u64 x.q)) := fun W' hW => by
              have h := HT2.out.below ((HSd.out W').1 hW) HT2.out.lt
              exact ⟨h.cell 0, h.cell 1, h.cell 2⟩
            clear hS
            have hj0 : (0 : Int) ≤ (j : Int) := by omega
            have hj1 : (j : Int) ≤ (out.length : Int) := by omega
            have hj2 : (j : Int) ≤ (cap : Int) := by omega
            go_wp2_with fail
            refine Rely.wp_region 12 S (sF w2.heap.size j x out) (sR j x out) (by kernel_rfl) (by kernel_rfl) (by kernel_rfl) (by kernel_rfl) (by kernel_rfl) [] (by kernel_rfl) (fun _ h => by cases h) (s_stab (by omega) (by kernel_rfl)) hS0 ?_
            clear hS0
            simp only [List.take_succ_cons, List.take_zero, List.drop_succ_cons, List.drop_zero]
            refine Rely.relSeq_on rfl (fun K hK w1 hS1 hD1 => ?_)
            go_simp
            have hb1 := (HSd.out w1).1 hS1
            refine ⟨⟨World.ownsRow_lit w1 #[] 0 hb1.size (by simp [maxLen]) rfl, (HSd.out _).2 (hb1.alloc hb1.size _), Keeps.below ((Below.refl _ _).alloc (Nat.le_refl _) _)⟩, hK _ ?_⟩
            generalize w1.heap.size = q0
            clear hK hD1 hS1 K hb1 w1
            refine Rely.relSeq_on rfl (fun K hK w1 hS1 hD1 => ?_)
            go_simp
            refine ⟨⟨trivial, hS1, Keeps.refl _ _ _ _⟩, hK _ ?_⟩
            clear hK hD1 hS1 K w1
            refine Rely.relSeq_on rfl (fun K hK w1 hS1 hD1 => ?_)
            go_simp
            refine ⟨⟨trivial, hS1, Keeps.refl _ _ _ _⟩, hK _ ?_⟩
            clear hK hD1 hS1 K w1
            refine Rely.relSeq_on rfl (fun K hK w1 hS1 hD1 => ?_)
            go_simp
            refine ⟨⟨trivial, hS1, Keeps.refl _ _ _ _⟩, hK _ ?_⟩
            clear hK hD1 hS1 K w1
            refine Rely.relSeq_on rfl (fun K hK w1 hS1 hD1 => ?_)
            have hb1 := (HSd.out w1).1 hS1
            have f0 : w1.ownsRow w2.heap.size 27 3 (.slice (some ⟨q0, 0, none⟩) 0 0) 0 [] := hD1 ⟨0, .data⟩ (by simp) rfl _ _ rfl rfl
            obtain ⟨v4, w4, hr, ho4, hg4, hq1, hq2, hk4⟩ := run_append_keeps w1 w2.heap.size 22 _ 27 i0 zId 3 24 Tryd.underlying22 HI.out.1 HI.out.2.1 HI.out.2.2.1 HI.out.2.2.2 rfl (by decide) _ 0 [] f0 ⟨g, 0, none⟩ j cap _ (HN1.out.1) (HN1.out.2 w1 hb1) (HN1o.out _) (by unfold maxLen; omega) (by omega) hb1.size
            rw [Nat.zero_add, List.nil_append] at ho4
            refine Rely.step_append (.tmp 28) (.tmp 31) 22 rfl _ _ rfl rfl hr ⟨ho4, (HSd.out _).2 (hb1.grown hg4 hb1.size (fun k e => (f0.lt k e).1)), hk4 _ 0 rfl (by omega) _⟩ (hK _ ?_)
            clear hK hD1 hS1 K hb1 f0 hr ho4 hg4 hk4 hq1 hq2 w4 w1
            refine Rely.relSeq_on rfl (fun K hK w1 hS1 hD1 => ?_)
            obtain ⟨c0, c1, c2⟩ := HSx.out w1 hS1
            go_simp
            refine ⟨⟨trivial, hS1, Keeps.refl _ _ _ _⟩, hK _ ?_⟩
            clear hK hD1 hS1 c0 c1 c2 K w1
            refine Rely.relSeq_on rfl (fun K hK w1 hS1 hD1 => ?_)
            go_simp
            have hb1 := (HSd.out w1).1 hS1
            refine ⟨⟨World.ownsRow_lit w1 #[.int .u64 x.t, .int .i64 x.s, .int .u64 x.q] 1 hb1.size (by simp [maxLen]) rfl, (HSd.out _).2 (hb1.alloc hb1.size _), Keeps.below ((Below.refl _ _).alloc (Nat.le_refl _) _)⟩, hK _ ?_⟩
            generalize w1.heap.size = q1
            clear hK hD1 hS1 K hb1 w1
            refine Rely.relSeq_on rfl (fun K hK w1 hS1 hD1 => ?_)
            have hb1 := (HSd.out w1).1 hS1
            have f4 : w1.ownsRow w2.heap.size 27 3 v4 j ((out.take j).flatMap encId) := hD1 ⟨4, .data⟩ (by simp) rfl _ _ rfl rfl
            have f6 : w1.ownsRow w2.heap.size 27 3 (.slice (some ⟨q1, 0, none⟩) 1 1) 1 (encId x) := hD1 ⟨6, .data⟩ (by simp) rfl _ _ rfl rfl
            obtain ⟨v7, w4, hr, ho4, hg4, hq1, hq2, hk4⟩ := run_append_keeps w1 w2.heap.size 22 _ 27 i0 zId 3 24 Tryd.underlying22 HI.out.1 HI.out.2.1 HI.out.2.2.1 HI.out.2.2.2 rfl (by decide) _ j _ f4 ⟨q1, 0, none⟩ 1 1 _ rfl (f6.cells rfl) (oneId x) (by unfold maxLen; omega) (by omega) hb1.size
            refine Rely.step_append (.tmp 32) (.tmp 34) 22 rfl _ _ rfl rfl hr ⟨ho4, (HSd.out _).2 (hb1.grown hg4 hb1.size (fun k e => (f4.lt k e).1)), ⟨hq1, hq2⟩⟩ (hK _ ?_)
            clear hK hD1 hS1 K hb1 f4 f6 hr ho4 hg4 hk4 hq1 hq2 w4 w1
            refine Rely.relSeq_on rfl (fun K hK w1 hS1 hD1 => ?_)
            go_simp
            refine ⟨⟨trivial, hS1, Keeps.refl _ _ _ _⟩, hK _ ?_⟩
            clear hK hD1 hS1 K w1
            refine Rely.relSeq_on rfl (fun K hK w1 hS1 hD1 => ?_)
            go_simp
            refine ⟨⟨trivial, hS1, Keeps.refl _ _ _ _⟩, hK _ ?_⟩
            clear hK hD1 hS1 K w1
            refine Rely.relSeq_on rfl (fun K hK w1 hS1 hD1 => ?_)
            go_simp
            refine ⟨⟨trivial, hS1, Keeps.refl _ _ _ _⟩, hK _ ?_⟩
            clear hK hD1 hS1 K w1
            have hif : (if cap = j then some (⟨g, 0, none⟩ : Addr) else some ⟨g, j * 3, none⟩) = some (if cap = j then ⟨g, 0, none⟩ else ⟨g, j * 3, none⟩) := by split <;> rfl
            rw [hif]
            clear hif
            generalize hA : (if cap = j then (⟨g, 0, none⟩ : Addr) else ⟨g, j * 3, none⟩) = A
            refine Rely.relSeq_on rfl (fun K hK w1 hS1 hD1 => ?_)
            have hb1 := (HSd.out w1).1 hS1
            have f7 : w1.ownsRow w2.heap.size 27 3 v7 (j + 1) ((out.take j).flatMap encId ++ encId x) := hD1 ⟨7, .data⟩ (by simp) rfl _ _ rfl rfl
            obtain ⟨v11, w4, hr, ho4, hg4, hq1, hq2, hk4⟩ := run_append_keeps w1 w2.heap.size 22 _ 27 i0 zId 3 24 Tryd.underlying22 HI.out.1 HI.out.2.1 HI.out.2.2.1 HI.out.2.2.2 rfl (by decide) _ (j + 1) _ f7 A (out.length - j) (cap - j) _ HN2.out.1 (HN2.out.2 A hA.symm w1 hb1) (HN1o.out _) (by unfold maxLen; omega) (by omega) hb1.size
            refine Rely.step_append (.tmp 35) (.tmp 38) 22 rfl _ _ rfl rfl hr ⟨ho4, (HSd.out _).2 (hb1.grown hg4 hb1.size (fun k e => (f7.lt k e).1)), hq1⟩ (hK _ ?_)
            clear hK hD1 hS1 K hb1 f7 hr ho4 hg4 hk4 hq1 hq2 w4 w1
            refine Rely.relSeq_nil ?_
            intro listed w3 hS3 hF3 hl3
            have f11 : w3.ownsRow w2.heap.size 27 3 v11 (j + 1 + (out.length - j)) ((out.take j).flatMap encId ++ encId x ++ (out.drop j).flatMap encId) := hF3.1 11 _ _ rfl rfl (hl3 11 (by omega))
            have hb3 := (HSd.out w3).1 hS3
            have hB3 : Hid (Below w.heap.size w w3) := HB2.out.trans (hb3.mono HB2.out.size)
            have hfin : Hid (OwnIds w.heap.size w3 v11 (rsort (L.take (k + 1)))) := by
              have he : rsort (L.take (k + 1)) = out.take j ++ x :: out.drop j := by rw [HR.out, insR, HP.out]
              have hl : (out.take j ++ x :: out.drop j).length = j + 1 + (out.length - j) := by simp; omega
              show World.ownsRow _ _ _ _ _ _ _
              rw [he, hl, List.flatMap_append, List.flatMap_cons, ← List.append_assoc]
              refine ⟨f11.1, f11.2.imp id ?_⟩
              rintro ⟨g', cap', cur, h1, h2, h3⟩
              exact ⟨g', cap', cur, h1, Nat.le_trans HB2.out.size h2, h3⟩
            clear hF3 hl3 hS3 f11 hb3 HN1 HN1o HN2 HOg HO2 HT2 HSx HSd HB2 HI hA HP HR
            go_wp2_with fail
            go_roundw
            case rel => exact ⟨k + 1, by omega, by go_num, hfin.out, hB3.out⟩
            case measure => simp [intOf]; omega
          | false =>
            rw [hlx] at HLs
            have HGD2 : Hid (∀ i z, i < j + 1 → out[i]? = some z → lessId x z = false) := fun i z hi hz => by
              by_cases he : i = j
              · subst he; rw [HY.out] at hz; cases hz; exact hlx
              · exact HGD.out i z (by omega) hz
            clear hlx HGD
            go_wp2_with fail
            refine wp_region_held_rel 12 S (fun k v _ => match k with | 10 => v = .bool false | _ => True) (by kernel_rfl) (by kernel_rfl) (by kernel_rfl) (by kernel_rfl) (fun _ _ _ _ _ h => h) hS0 ?_
            clear hS0
            simp only [List.take_succ_cons, List.take_zero, List.drop_succ_cons, List.drop_zero]
            repeat (first | (refine relSeq_on rfl (fun K hK w1 hS1 hD1 => ?_); obtain ⟨c0, c1, c2⟩ := HSx.out w1 hS1; obtain ⟨d0, d1, d2⟩ := HSy.out w1 hS1; go_simp; refine ⟨⟨trivial, hS1, Below.refl _ _⟩, hK _ ?_⟩; clear hK hD1 c0 c1 c2 d0 d1 d2 hS1 K w1) | (refine relSeq_off rfl (fun _ _ => trivial) (fun K hK => ?_); go_simp; refine hK _ ?_; clear hK K))
            refine relSeq_on rfl (fun K hK w1 hS1 hD1 => ?_)
            go_simp
            refine ⟨(HLs.out w1).mono fun e w2 he => ⟨_, he.1, rfl, HSn.out _ _ hS1 he.2, he.2⟩, fun v hv => ?_⟩
            obtain ⟨_, _, hv⟩ := hv.out
            obtain rfl : v = .bool false := hv
            refine hK _ ?_
            clear hK hD1 hS1 K w1 hv
            repeat (first | (refine relSeq_on rfl (fun K hK w1 hS1 hD1 => ?_); obtain ⟨c0, c1, c2⟩ := HSx.out w1 hS1; obtain ⟨d0, d1, d2⟩ := HSy.out w1 hS1; go_simp; refine ⟨⟨trivial, hS1, Below.refl _ _⟩, hK _ ?_⟩; clear hK hD1 c0 c1 c2 d0 d1 d2 hS1 K w1) | (refine relSeq_off rfl (fun _ _ => trivial) (fun K hK => ?_); go_simp; refine hK _ ?_; clear hK K))
            refine relSeq_nil ?_
            intro listed w2 hS2 hF2 hl2
            have HBX2 := Lib.hid (HSB.out w2 hS2)
            clear hF2 hl2 hS2
            go_wp2_with fail
            go_roundw
            case rel => exact ⟨j + 1, by omega, by go_num, HGD2.out, HBX2.out⟩
            case measure => simp [intOf]; omega
        · have HP : Hid (placeR x out = j) := placeR_at x out j HGD.out hj (.inl (by omega))
          have hcl : decide (j < out.length) = false := by simpa using hjl
          obtain ⟨S, hS⟩ : ∃ S : World → Prop, S = fun W' => Below wr.heap.size wr W' := ⟨_, rfl⟩
          have hS0 : S wr.drew := by rw [hS]; exact (Below.refl _ _).drew
          have HSB : Hid (∀ W, S W → Below X.heap.size X W) := by intro W h; rw [hS] at h; exact HX.out.trans (h.mono HX.out.size)
          clear hS HGD
          go_wp2_with fail
          refine wp_region_held_rel 12 S (fun k v _ => True) (by kernel_rfl) (by kernel_rfl) (by kernel_rfl) (by kernel_rfl) (fun _ _ _ _ _ h => h) hS0 ?_
          clear hS0
          simp only [List.take_succ_cons, List.take_zero, List.drop_succ_cons, List.drop_zero]
          repeat (first | (refine relSeq_on rfl (fun K hK w1 hS1 hD1 => ?_); go_simp; refine ⟨⟨trivial, hS1, Below.refl _ _⟩, hK _ ?_⟩; clear hK hD1 hS1 K w1) | (refine relSeq_off rfl (fun _ _ => trivial) (fun K hK => ?_); go_simp; refine hK _ ?_; clear hK K))
          refine relSeq_nil ?_
          intro listed w2 hS2 hF2 hl2
          have HBX2 := Lib.hid (HSB.out w2 hS2)
          clear hF2 hl2 hS2 HSB HX
          cases p with
          | some q =>
            obtain ⟨g, rfl, hg1, hg2⟩ := HNS.out.2 q rfl
            go_wp2_with fail
            have HO2 : Hid (OwnIds w.heap.size w2 (.slice (some ⟨g, 0, none⟩) out.length cap) out) := ownsRow_below HO1.out HBX2.out
            have HT2 := Lib.hid (HT.out.below HBX2.out HT.out.lt)
            have HB2 : Hid (Below w.heap.size w w2) := HB1.out.trans (HBX2.out.mono HB1.out.size)
            clear HO1 HT HB1 HBX2
            have HI : Hid (Tryd.prog.info? 27 = some i0 ∧ i0.zero = some zId ∧ i0.size = 3 ∧ i0.bytes = 24) := HINF.out
            have HOg : Hid (∀ W, Below w2.heap.size w2 W → ∀ i u, (out.flatMap encId)[i]? = some u → W.cell? ((⟨g, 0, none⟩ : Addr).add i) = some u) := fun W hW => World.ownsRow.cells (ownsRow_below HO2.out hW) rfl
            have hsplit : (out.take j).flatMap encId ++ (out.drop j).flatMap encId = out.flatMap encId := by rw [← List.flatMap_append, List.take_append_drop]
            have hltk : ((out.take j).flatMap encId).length = j * 3 := by rw [flat_length (enc := encId) (k := 3) (fun _ => rfl), List.length_take, Nat.min_eq_left (by omega)]
            have hldr : ((out.drop j).flatMap encId).length = (out.length - j) * 3 := by rw [flat_length (enc := encId) (k := 3) (fun _ => rfl), List.length_drop]
            have HN1 : Hid (((out.take j).flatMap encId).length = j * 3 ∧ ∀ W, Below w2.heap.size w2 W → ∀ i u, ((out.take j).flatMap encId)[i]? = some u → W.cell? ((⟨g, 0, none⟩ : Addr).add i) = some u) := ⟨hltk, fun W hW i u hu => HOg.out W hW i u (by
              have hi := (List.getElem?_eq_some_iff.1 hu).1
              rw [← hsplit, List.getElem?_append_left hi]; exact hu)⟩
            have HN1o : Hid (∀ l : List Idn, ∀ u ∈ l.flatMap encId, u.oneCell' = true) := fun l u hu => by
              obtain ⟨z, _, hz⟩ := List.mem_flatMap.1 hu
              exact oneId z u hz
            have HN2 : Hid (((out.drop j).flatMap encId).length = (out.length - j) * 3 ∧ ∀ A : Addr, A = (if cap = j then ⟨g, 0, none⟩ else ⟨g, j * 3, none⟩) → ∀ W, Below w2.heap.size w2 W → ∀ i u, ((out.drop j).flatMap encId)[i]? = some u → W.cell? (A.add i) = some u) := ⟨hldr, fun A hA W hW i u hu => by
              have hi := (List.getElem?_eq_some_iff.1 hu).1
              by_cases hcj : cap = j
              · have : out.length - j = 0 := by omega
                rw [hldr, this] at hi; omega
              · rw [if_neg hcj] at hA
                have := HOg.out W hW (j * 3 + i) u (by rw [← hsplit, List.getElem?_append_right (by rw [hltk]; omega), hltk, show j * 3 + i - j * 3 = i by omega]; exact hu)
                rw [hA]
                rw [Addr.add_lit] at this ⊢
                rw [Nat.zero_add] at this
                exact this⟩
            clear hsplit hltk hldr
            obtain ⟨S, hS⟩ : ∃ S : World → Prop, S = fun W' => Below w2.heap.size w2 W' := ⟨_, rfl⟩
            have hS0 : S w2.drew := by rw [hS]; exact (Below.refl _ _).drew
            have HSd : Hid (∀ W, S W ↔ Below w2.heap.size w2 W) := by intro W; rw [hS]
            have HSx : Hid (∀ W', S W' → W'.cell? ⟨p5, 0, none⟩ = some (.int .u64 x.t) ∧ W'.cell? ⟨p5, 1, none⟩ = some (.int .i64 x.s) ∧ W'.cell? ⟨p5, 2, none⟩ = some (.int .u64 x.q)) := fun W' hW => by
              have h := HT2.out.below ((HSd.out W').1 hW) HT2.out.lt
              exact ⟨h.cell 0, h.cell 1, h.cell 2⟩
            clear hS
            have hj0 : (0 : Int) ≤ (j : Int) := by omega
            have hj1 : (j : Int) ≤ (out.length : Int) := by omega
            have hj2 : (j : Int) ≤ (cap : Int) := by omega
            go_wp2_with fail
            refine Rely.wp_region 12 S (sF w2.heap.size j x out) (sR j x out) (by kernel_rfl) (by kernel_rfl) (by kernel_rfl) (by kernel_rfl) (by kernel_rfl) [] (by kernel_rfl) (fun _ h => by cases h) (s_stab (by omega) (by kernel_rfl)) hS0 ?_
            clear hS0
            simp only [List.take_succ_cons, List.take_zero, List.drop_succ_cons, List.drop_zero]
            refine Rely.relSeq_on rfl (fun K hK w1 hS1 hD1 => ?_)
            go_simp
            have hb1 := (HSd.out w1).1 hS1
            refine ⟨⟨World.ownsRow_lit w1 #[] 0 hb1.size (by simp [maxLen]) rfl, (HSd.out _).2 (hb1.alloc hb1.size _), Keeps.below ((Below.refl _ _).alloc (Nat.le_refl _) _)⟩, hK _ ?_⟩
            generalize w1.heap.size = q0
            clear hK hD1 hS1 K hb1 w1
            refine Rely.relSeq_on rfl (fun K hK w1 hS1 hD1 => ?_)
            go_simp
            refine ⟨⟨trivial, hS1, Keeps.refl _ _ _ _⟩, hK _ ?_⟩
            clear hK hD1 hS1 K w1
            refine Rely.relSeq_on rfl (fun K hK w1 hS1 hD1 => ?_)
            go_simp
            refine ⟨⟨trivial, hS1, Keeps.refl _ _ _ _⟩, hK _ ?_⟩
            clear hK hD1 hS1 K w1
            refine Rely.relSeq_on rfl (fun K hK w1 hS1 hD1 => ?_)
            go_simp
            refine ⟨⟨trivial, hS1, Keeps.refl _ _ _ _⟩, hK _ ?_⟩
            clear hK hD1 hS1 K w1
            refine Rely.relSeq_on rfl (fun K hK w1 hS1 hD1 => ?_)
            have hb1 := (HSd.out w1).1 hS1
            have f0 : w1.ownsRow w2.heap.size 27 3 (.slice (some ⟨q0, 0, none⟩) 0 0) 0 [] := hD1 ⟨0, .data⟩ (by simp) rfl _ _ rfl rfl
            obtain ⟨v4, w4, hr, ho4, hg4, hq1, hq2, hk4⟩ := run_append_keeps w1 w2.heap.size 22 _ 27 i0 zId 3 24 Tryd.underlying22 HI.out.1 HI.out.2.1 HI.out.2.2.1 HI.out.2.2.2 rfl (by decide) _ 0 [] f0 ⟨g, 0, none⟩ j cap _ (HN1.out.1) (HN1.out.2 w1 hb1) (HN1o.out _) (by unfold maxLen; omega) (by omega) hb1.size
            rw [Nat.zero_add, List.nil_append] at ho4
            refine Rely.step_append (.tmp 28) (.tmp 31) 22 rfl _ _ rfl rfl hr ⟨ho4, (HSd.out _).2 (hb1.grown hg4 hb1.size (fun k e => (f0.lt k e).1)), hk4 _ 0 rfl (by omega) _⟩ (hK _ ?_)
            clear hK hD1 hS1 K hb1 f0 hr ho4 hg4 hk4 hq1 hq2 w4 w1
            refine Rely.relSeq_on rfl (fun K hK w1 hS1 hD1 => ?_)
            obtain ⟨c0, c1, c2⟩ := HSx.out w1 hS1
            go_simp
            refine ⟨⟨trivial, hS1, Keeps.refl _ _ _ _⟩, hK _ ?_⟩
            clear hK hD1 hS1 c0 c1 c2 K w1
            refine Rely.relSeq_on rfl (fun K hK w1 hS1 hD1 => ?_)
            go_simp
            have hb1 := (HSd.out w1).1 hS1
            refine ⟨⟨World.ownsRow_lit w1 #[.int .u64 x.t, .int .i64 x.s, .int .u64 x.q] 1 hb1.size (by simp [maxLen]) rfl, (HSd.out _).2 (hb1.alloc hb1.size _), Keeps.below ((Below.refl _ _).alloc (Nat.le_refl _) _)⟩, hK _ ?_⟩
            generalize w1.heap.size = q1
            clear hK hD1 hS1 K hb1 w1
            refine Rely.relSeq_on rfl (fun K hK w1 hS1 hD1 => ?_)
            have hb1 := (HSd.out w1).1 hS1
            have f4 : w1.ownsRow w2.heap.size 27 3 v4 j ((out.take j).flatMap encId) := hD1 ⟨4, .data⟩ (by simp) rfl _ _ rfl rfl
            have f6 : w1.ownsRow w2.heap.size 27 3 (.slice (some ⟨q1, 0, none⟩) 1 1) 1 (encId x) := hD1 ⟨6, .data⟩ (by simp) rfl _ _ rfl rfl
            obtain ⟨v7, w4, hr, ho4, hg4, hq1, hq2, hk4⟩ := run_append_keeps w1 w2.heap.size 22 _ 27 i0 zId 3 24 Tryd.underlying22 HI.out.1 HI.out.2.1 HI.out.2.2.1 HI.out.2.2.2 rfl (by decide) _ j _ f4 ⟨q1, 0, none⟩ 1 1 _ rfl (f6.cells rfl) (oneId x) (by unfold maxLen; omega) (by omega) hb1.size
            refine Rely.step_append (.tmp 32) (.tmp 34) 22 rfl _ _ rfl rfl hr ⟨ho4, (HSd.out _).2 (hb1.grown hg4 hb1.size (fun k e => (f4.lt k e).1)), ⟨hq1, hq2⟩⟩ (hK _ ?_)
            clear hK hD1 hS1 K hb1 f4 f6 hr ho4 hg4 hk4 hq1 hq2 w4 w1
            refine Rely.relSeq_on rfl (fun K hK w1 hS1 hD1 => ?_)
            go_simp
            refine ⟨⟨trivial, hS1, Keeps.refl _ _ _ _⟩, hK _ ?_⟩
            clear hK hD1 hS1 K w1
            refine Rely.relSeq_on rfl (fun K hK w1 hS1 hD1 => ?_)
            go_simp
            refine ⟨⟨trivial, hS1, Keeps.refl _ _ _ _⟩, hK _ ?_⟩
            clear hK hD1 hS1 K w1
            refine Rely.relSeq_on rfl (fun K hK w1 hS1 hD1 => ?_)
            go_simp
            refine ⟨⟨trivial, hS1, Keeps.refl _ _ _ _⟩, hK _ ?_⟩
            clear hK hD1 hS1 K w1
            have hif : (if cap = j then some (⟨g, 0, none⟩ : Addr) else some ⟨g, j * 3, none⟩) = some (if cap = j then ⟨g, 0, none⟩ else ⟨g, j * 3, none⟩) := by split <;> rfl
            rw [hif]
            clear hif
            generalize hA : (if cap = j then (⟨g, 0, none⟩ : Addr) else ⟨g, j * 3, none⟩) = A
            refine Rely.relSeq_on rfl (fun K hK w1 hS1 hD1 => ?_)
            have hb1 := (HSd.out w1).1 hS1
            have f7 : w1.ownsRow w2.heap.size 27 3 v7 (j + 1) ((out.take j).flatMap encId ++ encId x) := hD1 ⟨7, .data⟩ (by simp) rfl _ _ rfl rfl
            obtain ⟨v11, w4, hr, ho4, hg4, hq1, hq2, hk4⟩ := run_append_keeps w1 w2.heap.size 22 _ 27 i0 zId 3 24 Tryd.underlying22 HI.out.1 HI.out.2.1 HI.out.2.2.1 HI.out.2.2.2 rfl (by decide) _ (j + 1) _ f7 A (out.length - j) (cap - j) _ HN2.out.1 (HN2.out.2 A hA.symm w1 hb1) (HN1o.out _) (by unfold maxLen; omega) (by omega) hb1.size
            refine Rely.step_append (.tmp 35) (.tmp 38) 22 rfl _ _ rfl rfl hr ⟨ho4, (HSd.out _).2 (hb1.grown hg4 hb1.size (fun k e => (f7.lt k e).1)), hq1⟩ (hK _ ?_)
            clear hK hD1 hS1 K hb1 f7 hr ho4 hg4 hk4 hq1 hq2 w4 w1
            refine Rely.relSeq_nil ?_
            intro listed w3 hS3 hF3 hl3
            have f11 : w3.ownsRow w2.heap.size 27 3 v11 (j + 1 + (out.length - j)) ((out.take j).flatMap encId ++ encId x ++ (out.drop j).flatMap encId) := hF3.1 11 _ _ rfl rfl (hl3 11 (by omega))
            have hb3 := (HSd.out w3).1 hS3
            have hB3 : Hid (Below w.heap.size w w3) := HB2.out.trans (hb3.mono HB2.out.size)
            have hfin : Hid (OwnIds w.heap.size w3 v11 (rsort (L.take (k + 1)))) := by
              have he : rsort (L.take (k + 1)) = out.take j ++ x :: out.drop j := by rw [HR.out, insR, HP.out]
              have hl : (out.take j ++ x :: out.drop j).length = j + 1 + (out.length - j) := by simp; omega
              show World.ownsRow _ _ _ _ _ _ _
              rw [he, hl, List.flatMap_append, List.flatMap_cons, ← List.append_assoc]
              refine ⟨f11.1, f11.2.imp id ?_⟩
              rintro ⟨g', cap', cur, h1, h2, h3⟩
              exact ⟨g', cap', cur, h1, Nat.le_trans HB2.out.size h2, h3⟩
            clear hF3 hl3 hS3 f11 hb3 HN1 HN1o HN2 HOg HO2 HT2 HSx HSd HB2 HI hA HP HR
            go_wp2_with fail
            go_roundw
            case rel => exact ⟨k + 1, by omega, by go_num, hfin.out, hB3.out⟩
            case measure => simp [intOf]; omega
          | none =>
            obtain ⟨rfl, rfl⟩ := HNS.out.1 rfl
            obtain rfl : j = 0 := by simpa using hj
            go_wp2_with fail
            have HT2 := Lib.hid (HT.out.below HBX2.out HT.out.lt)
            have HB2 : Hid (Below w.heap.size w w2) := HB1.out.trans (HBX2.out.mono HB1.out.size)
            clear HO1 HT HB1 HBX2
            obtain ⟨S, hS⟩ : ∃ S : World → Prop, S = fun W' => Below w2.heap.size w2 W' := ⟨_, rfl⟩
            have hS0 : S w2.drew := by rw [hS]; exact (Below.refl _ _).drew
            have HSd : Hid (∀ W, S W ↔ Below w2.heap.size w2 W) := by intro W; rw [hS]
            have HSx : Hid (∀ W', S W' → W'.cell? ⟨p5, 0, none⟩ = some (.int .u64 x.t) ∧ W'.cell? ⟨p5, 1, none⟩ = some (.int .i64 x.s) ∧ W'.cell? ⟨p5, 2, none⟩ = some (.int .u64 x.q)) := fun W' hW => by
              have h := HT2.out.below ((HSd.out W').1 hW) HT2.out.lt
              exact ⟨h.cell 0, h.cell 1, h.cell 2⟩
            clear hS
            refine Rely.wp_region 12 S (sF w2.heap.size 0 x []) (sR 0 x []) (by kernel_rfl) (by kernel_rfl) (by kernel_rfl) (by kernel_rfl) (by kernel_rfl) [] (by kernel_rfl) (fun _ h => by cases h) (s_stab (by simp) (by kernel_rfl)) hS0 ?_
            clear hS0
            simp only [List.take_succ_cons, List.take_zero, List.drop_succ_cons, List.drop_zero]
            refine Rely.relSeq_on rfl (fun K hK w1 hS1 hD1 => ?_)
            go_simp
            have hb1 := (HSd.out w1).1 hS1
            refine ⟨⟨World.ownsRow_lit w1 #[] 0 hb1.size (by simp [maxLen]) rfl, (HSd.out _).2 (hb1.alloc hb1.size _), Keeps.below ((Below.refl _ _).alloc (Nat.le_refl _) _)⟩, hK _ ?_⟩
            generalize w1.heap.size = q0
            clear hK hD1 hS1 K hb1 w1
            refine Rely.relSeq_on rfl (fun K hK w1 hS1 hD1 => ?_)
            go_simp
            refine ⟨⟨trivial, hS1, Keeps.refl _ _ _ _⟩, hK _ ?_⟩
            clear hK hD1 hS1 K w1
            refine Rely.relSeq_on rfl (fun K hK w1 hS1 hD1 => ?_)
            go_simp
            refine ⟨⟨trivial, hS1, Keeps.refl _ _ _ _⟩, hK _ ?_⟩
            clear hK hD1 hS1 K w1
            refine Rely.relSeq_on rfl (fun K hK w1 hS1 hD1 => ?_)
            go_simp
            refine ⟨⟨trivial, hS1, Keeps.refl _ _ _ _⟩, hK _ ?_⟩
            clear hK hD1 hS1 K w1
            refine Rely.relSeq_on rfl (fun K hK w1 hS1 hD1 => ?_)
            have f0 : w1.ownsRow w2.heap.size 27 3 (.slice (some ⟨q0, 0, none⟩) 0 0) 0 [] := hD1 ⟨0, .data⟩ (by simp) rfl _ _ rfl rfl
            have hr := run_append_owned_none (P := Tryd.prog) (w := w1) w2.heap.size 22 22 27 i0 3 Tryd.underlying22 HINF.out.1 _ _ _ f0
            refine Rely.step_append (.tmp 28) (.tmp 31) 22 rfl _ _ rfl rfl hr ⟨f0, hS1, Keeps.refl _ _ _ _⟩ (hK _ ?_)
            clear hK hD1 hS1 K f0 hr w1
            refine Rely.relSeq_on rfl (fun K hK w1 hS1 hD1 => ?_)
            obtain ⟨c0, c1, c2⟩ := HSx.out w1 hS1
            go_simp
            refine ⟨⟨trivial, hS1, Keeps.refl _ _ _ _⟩, hK _ ?_⟩
            clear hK hD1 hS1 c0 c1 c2 K w1
            refine Rely.relSeq_on rfl (fun K hK w1 hS1 hD1 => ?_)
            go_simp
            have hb1 := (HSd.out w1).1 hS1
            refine ⟨⟨World.ownsRow_lit w1 #[.int .u64 x.t, .int .i64 x.s, .int .u64 x.q] 1 hb1.size (by simp [maxLen]) rfl, (HSd.out _).2 (hb1.alloc hb1.size _), Keeps.below ((Below.refl _ _).alloc (Nat.le_refl _) _)⟩, hK _ ?_⟩
            generalize w1.heap.size = q1
            clear hK hD1 hS1 K hb1 w1
            refine Rely.relSeq_on rfl (fun K hK w1 hS1 hD1 => ?_)
            have hb1 := (HSd.out w1).1 hS1
            have f4 : w1.ownsRow w2.heap.size 27 3 (.slice (some ⟨q0, 0, none⟩) 0 0) 0 [] := hD1 ⟨4, .data⟩ (by simp) rfl _ _ rfl rfl
            have f6 : w1.ownsRow w2.heap.size 27 3 (.slice (some ⟨q1, 0, none⟩) 1 1) 1 (encId x) := hD1 ⟨6, .data⟩ (by simp) rfl _ _ rfl rfl
            obtain ⟨v7, w4, hr, ho4, hg4, hq1, hq2, hk4⟩ := run_append_keeps w1 w2.heap.size 22 _ 27 i0 zId 3 24 Tryd.underlying22 HINF.out.1 HINF.out.2.1 HINF.out.2.2.1 HINF.out.2.2.2 rfl (by decide) _ 0 _ f4 ⟨q1, 0, none⟩ 1 1 _ rfl (f6.cells rfl) (oneId x) (by unfold maxLen; omega) (by omega) hb1.size
            refine Rely.step_append (.tmp 32) (.tmp 34) 22 rfl _ _ rfl rfl hr ⟨ho4, (HSd.out _).2 (hb1.grown hg4 hb1.size (fun k e => (f4.lt k e).1)), ⟨hq1, hq2⟩⟩ (hK _ ?_)
            clear hK hD1 hS1 K hb1 f4 f6 hr ho4 hg4 hk4 hq1 hq2 w4 w1
            refine Rely.relSeq_on rfl (fun K hK w1 hS1 hD1 => ?_)
            go_simp
            refine ⟨⟨trivial, hS1, Keeps.refl _ _ _ _⟩, hK _ ?_⟩
            clear hK hD1 hS1 K w1
            refine Rely.relSeq_on rfl (fun K hK w1 hS1 hD1 => ?_)
            go_simp
            refine ⟨⟨trivial, hS1, Keeps.refl _ _ _ _⟩, hK _ ?_⟩
            clear hK hD1 hS1 K w1
            refine Rely.relSeq_on rfl (fun K hK w1 hS1 hD1 => ?_)
            go_simp
            refine ⟨⟨trivial, hS1, Keeps.refl _ _ _ _⟩, hK _ ?_⟩
            clear hK hD1 hS1 K w1
            refine Rely.relSeq_on rfl (fun K hK w1 hS1 hD1 => ?_)
            have f7 : w1.ownsRow w2.heap.size 27 3 v7 1 (encId x) := hD1 ⟨7, .data⟩ (by simp) rfl _ _ rfl rfl
            have hr := run_append_owned_none (P := Tryd.prog) (w := w1) w2.heap.size 22 22 27 i0 3 Tryd.underlying22 HINF.out.1 _ _ _ f7
            refine Rely.step_append (.tmp 35) (.tmp 38) 22 rfl _ _ rfl rfl hr ⟨f7, hS1, Keeps.refl _ _ _ _⟩ (hK _ ?_)
            clear hK hD1 hS1 K f7 hr w1
            refine Rely.relSeq_nil ?_
            intro listed w3 hS3 hF3 hl3
            have f11 : w3.ownsRow w2.heap.size 27 3 v7 1 (encId x) := hF3.1 11 _ _ rfl rfl (hl3 11 (by omega))
            have hb3 := (HSd.out w3).1 hS3
            have hB3 : Hid (Below w.heap.size w w3) := HB2.out.trans (hb3.mono HB2.out.size)
            have hfin : Hid (OwnIds w.heap.size w3 v7 (rsort (L.take (k + 1)))) := by
              have he : rsort (L.take (k + 1)) = [x] := by rw [HR.out, insR_nil]
              show World.ownsRow _ _ _ _ _ _ _
              rw [he]
              refine ⟨by simp [encId], f11.2.imp (fun h => ⟨h.1, by simpa using h.2⟩) ?_⟩
              rintro ⟨g', cap', cur, h1, h2, h3⟩
              exact ⟨g', cap', cur, h1, Nat.le_trans HB2.out.size h2, by simpa [encId] using h3⟩
            clear hF3 hl3 hS3 f11 hb3 HT2 HSx HSd HB2 HP HR
            go_wp2_with fail
            go_roundw
            case rel => exact ⟨k + 1, by omega, by go_num, hfin.out, hB3.out⟩
            case measure => simp [intOf]; omega
    · obtain rfl : k = L.length := by omega
      rw [List.take_length] at ho
      have hl : (rsort L).length = L.length := rsort_length L
      have HO : Hid (wr.ownsRow w.heap.size 27 3 u3 L.length ((rsort L).flatMap encId)) := by show World.ownsRow _ _ _ _ _ _ _; rw [← hl]; exact ho
      have HB := Lib.hid hB
      clear ho hl hB
      go_wp2_with fail
      go_ret
      exact ⟨_, rfl, HO.out, HB.out⟩
end Go.Proofs.YtoiaecfiinkmjaaDoor
