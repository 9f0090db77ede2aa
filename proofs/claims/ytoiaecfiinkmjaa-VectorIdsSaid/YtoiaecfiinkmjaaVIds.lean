/- gessolaw13.VectorIds: its walk. -/
import Derived.Test.YtoiaecfiinkmjaaOf
namespace Go.Proofs.Ytoiaecfiinkmjaa
open Go.RowKit Go.Shelf

theorem RowS.takeI {W : World} {a : Option Addr} {n : Nat} {L : List Idn} (h : RowS encId 3 W a n L) (m : Nat) (hm : m ≤ n) : RowS encId 3 W a m (L.take m) := by
  obtain ⟨h1, h2, h3⟩ := h
  refine ⟨by simp; omega, by simp; omega, ?_⟩
  rcases h3 with rfl | ⟨b, off, ha, hlt, hv⟩
  · exact .inl (by simp)
  · refine .inr ⟨b, off, ha, hlt, fun j x hj i v hi => hv j x ?_ i v hi⟩
    rw [List.getElem?_take] at hj
    split at hj
    · exact hj
    · cases hj
theorem RowS_one (W : World) (t s q : Int) : RowS encId 3 (W.alloc (.cells #[.int .u64 t, .int .i64 s, .int .u64 q] 38)) (some ⟨W.heap.size, 0, none⟩) 1 [⟨t, s, q⟩] := by
  refine ⟨rfl, by simp, .inr ⟨W.heap.size, 0, rfl, by simp, fun j x hj i v hi => ?_⟩⟩
  have hj0 : j = 0 := by have := (List.getElem?_eq_some_iff.1 hj).1; simpa using this
  subst hj0
  obtain rfl : (⟨t, s, q⟩ : Idn) = x := by simpa using hj
  have h := (Blk.new W 38 #[.int .u64 t, .int .i64 s, .int .u64 q]).cell i
  rw [show (0 + 0 * 3 + i) = i by omega, h]
  simpa [encId] using hi
/-- what stays in memory. -/
def FrI (W : World) (w : World) (q0 : Nat) (f : Nat → Int) (la : Option Addr) (m : Nat) (l : List Idn) (a : Option Addr) (n : Nat) (L : List Idn) : Prop := Blk W q0 24 (vecC f) ∧ RowS encId 3 W la m l ∧ RowS encId 3 W a n L ∧ Below w.heap.size w W
section
variable {W W' w : World} {q0 : Nat} {f : Nat → Int} {la : Option Addr} {m : Nat} {l : List Idn} {a : Option Addr} {n : Nat} {L : List Idn}
theorem FrI.below (h : FrI W w q0 f la m l a n L) (hb : Below W.heap.size W W') : FrI W' w q0 f la m l a n L :=
  ⟨h.1.below hb h.1.lt, h.2.1.below hb, h.2.2.1.below hb, h.2.2.2.trans (hb.mono h.2.2.2.size)⟩
theorem FrI.alloc (h : FrI W w q0 f la m l a n L) (o : Obj) : FrI (W.alloc o) w q0 f la m l a n L := h.below ((Below.refl _ _).alloc (Nat.le_refl _) _)
end
theorem allEqI_self : ∀ l : List Idn, Lib.allEq eqId l l = true
  | [] => rfl
  | x :: l => by unfold Lib.allEq; rw [(eqId_iff x x).2 rfl, allEqI_self l]; rfl

set_option maxRecDepth 100000 in
set_option maxHeartbeats 4000000 in
theorem ids_true (f : Nat → Int) (hpf : posV f) (hok : okVec f = true) (a : Option Addr) (n c : Nat) (L l : List Idn) (m : Nat) (w : World) (hS : RowS encId 3 w a n L) (hnc : n ≤ c) (hm : m = min n 12) (hl : l = L.take m) :
    Calls Try.prog 6 #[vec f, .slice a n c] w (Ret (.bool true) w) := by
  have b0 := Lib.hid (Blk.new w 24 (vecC f))
  have HW : Hid (Below w.heap.size w (w.alloc (.cells (vecC f) 24))) := (Below.refl _ _).alloc (Nat.le_refl _) _
  have HS := Lib.hid hS
  have hmm : (min (n : Int) 12).toNat = m := by omega
  have hn0 : (0 : Int) ≤ min (n : Int) 12 := by omega
  have hnc' : min (n : Int) 12 ≤ (c : Int) := by omega
  have HMN := Lib.hid (And.intro hm hl)
  have KR : Hid (∀ W, Calls Try.prog 27 #[vec f] W (Ret (.bool true) W)) := fun W => by have := Right_any f W; rwa [hok] at this
  have KC : Hid (∀ W, Calls Try.prog 12 #[vec f] W (Ret (.int .i64 0) W)) := fun W => by first | exact Check_ok f hok W | exact Check_bad f hok W
  have HP := Lib.hid hpf
  have HOK := Lib.hid hok
  clear hS hm hl hpf hok
  go_enter Try.func6, Try.ntmps6
  unfold vec
  go_wp2_with fail
  refine (wakes_any _).mono ?_
  rintro e X ⟨rfl, hb⟩
  have Z0 := Lib.hid (b0.out.below hb b0.out.lt)
  have HB := Lib.hid (HW.out.trans (hb.mono HW.out.size))
  replace HS := Lib.hid ((HS.out.below HW.out).below hb)
  clear hb b0 HW
  go_wp2_with fail
  refine (CloneId a m c l X (by rw [HMN.out.2]; exact HS.out.takeI m (by have := HMN.out.1; omega)) (by rw [HMN.out.2, List.length_take]; have := HMN.out.1; omega)).mono ?_
  rintro e X1 ⟨la, lc, rfl, hr, hb⟩
  have HF : Hid (FrI X1 w w.heap.size f la m l a n L) := ⟨Z0.out.below hb Z0.out.lt, hr, HS.out.below hb, HB.out.trans (hb.mono HB.out.size)⟩
  clear hb hr Z0 HB HS
  obtain ⟨c0, c1, c2, c3, c4, c5, c6, c7, c8⟩ := HF.out.1.c9
  go_wp2_with fail
  refine (KR.out _).mono ?_
  rintro e X2 ⟨rfl, hb⟩
  replace HF := Lib.hid (HF.out.below hb)
  clear hb c0 c1 c2 c3 c4 c5 c6 c7 c8
  obtain ⟨c0, c1, c2, c3, c4, c5, c6, c7, c8⟩ := HF.out.1.c9
  go_wp2_with fail
  refine (KC.out _).mono ?_
  rintro e X3 ⟨rfl, hb⟩
  replace HF := Lib.hid (HF.out.below hb)
  clear hb c0 c1 c2 c3 c4 c5 c6 c7 c8
  go_wp2_with fail
  go_loopw [49] (fun i wr => ∃ k : Nat, k ≤ l.length ∧ i = .int .i64 k ∧ Below X3.heap.size X3 wr) (fun i _ => l.length - (intOf i).toNat)
  case atStart => exact ⟨0, Nat.zero_le _, rfl, Below.refl _ _⟩
  case round =>
    obtain ⟨k, hk, rfl, hBr⟩ := hrel
    have HBr := Lib.hid hBr
    have HML : Hid (m = l.length) := HF.out.2.1.1
    clear hBr
    by_cases hlt : k < l.length
    · obtain ⟨b, off, rfl, hbl, hv⟩ := HF.out.2.1.2.2.resolve_left (fun e => by rw [e] at hlt; simp at hlt)
      obtain ⟨x, hx⟩ : ∃ x, l[k]? = some x := ⟨_, List.getElem?_eq_getElem hlt⟩
      have x0 : wr.cell? ⟨b, off + k * 3, none⟩ = some (.int .u64 x.t) := (HBr.out.cell (p := ⟨b, off + k * 3, none⟩) hbl).trans (hv k x hx 0 _ rfl)
      have x1 : wr.cell? ⟨b, off + k * 3 + 1, none⟩ = some (.int .i64 x.s) := (HBr.out.cell (p := ⟨b, off + k * 3 + 1, none⟩) hbl).trans (hv k x hx 1 _ rfl)
      have x2 : wr.cell? ⟨b, off + k * 3 + 2, none⟩ = some (.int .u64 x.q) := (HBr.out.cell (p := ⟨b, off + k * 3 + 2, none⟩) hbl).trans (hv k x hx 2 _ rfl)
      have hkm : (k : Int) < (m : Int) := by have := HML.out; omega
      clear hv hx
      replace HF := Lib.hid ((HF.out.below HBr.out).alloc (.cells #[.int .u64 x.t, .int .i64 x.s, .int .u64 x.q] 38))
      have H9 := Lib.hid (Blk.new wr 38 #[.int .u64 x.t, .int .i64 x.s, .int .u64 x.q])
      replace HBr := Lib.hid (HBr.out.alloc HBr.out.size (.cells #[.int .u64 x.t, .int .i64 x.s, .int .u64 x.q] 38))
      obtain ⟨t, si, q⟩ := x
      simp only at x0 x1 x2 H9 HF HBr
      go_upto_region 11 with fail
      clear x0 x1 x2
      generalize wr.alloc (.cells #[.int .u64 t, .int .i64 si, .int .u64 q] 38) = V at H9 HF HBr ⊢
      generalize wr.heap.size = p9 at H9 ⊢
      cases hid : okId t si q with
      | false =>
        have KI : Hid (∀ W, Calls Try.prog 28 #[idV t si q] W (Ret (.bool false) W)) := fun W => by have := RId_any t si q W; rwa [hid] at this
        have HB1 : Hid (hasB f t si q = false) := by show _ = _; simp [hasB, HOK.out, hid]
        have HB2 : Hid (nextB f t si q = false) := by show _ = _; simp [nextB, HOK.out, hid]
        clear hid
        have i0 := H9.out.cell 0
        have i1 := H9.out.cell 1
        have i2 := H9.out.cell 2
        simp at i0 i1 i2
        go_wp2_with fail
        refine (KI.out _).mono ?_
        rintro e V2 ⟨rfl, hb⟩
        replace HF := Lib.hid (HF.out.below hb)
        replace H9 := Lib.hid (H9.out.below hb H9.out.lt)
        replace HBr := Lib.hid (HBr.out.trans (hb.mono HBr.out.size))
        clear hb i0 i1 i2 KI
        generalize V2 = V at HF H9 HBr ⊢
        have KH : Hid (∀ W, Calls Try.prog 15 #[vec f, idV t si q] W (Ret (.bool false) W)) := fun W => by have := Has_any f HP.out t si q W; rwa [HB1.out] at this
        have KN : Hid (∀ W, Calls Try.prog 16 #[vec f, idV t si q] W (Ret (.bool false) W)) := fun W => by have := Next_any f HP.out t si q W; rwa [HB2.out] at this
        obtain ⟨S, hS⟩ : ∃ S : World → Prop, S = fun Y => Below V.heap.size V Y := ⟨_, rfl⟩
        have HSd : Hid (∀ Y, S Y → Below V.heap.size V Y) := by intro Y hY; rw [hS] at hY; exact hY
        have HSf : Hid (∀ Y, S Y → Blk Y w.heap.size 24 (vecC f)) := fun Y hY => HF.out.1.below (HSd.out Y hY) HF.out.1.lt
        have HSx : Hid (∀ Y, S Y → Y.cell? ⟨p9, 0, none⟩ = some (.int .u64 t) ∧ Y.cell? ⟨p9, 1, none⟩ = some (.int .i64 si) ∧ Y.cell? ⟨p9, 2, none⟩ = some (.int .u64 q)) := fun Y hY => by
          have h := H9.out.below (HSd.out Y hY) H9.out.lt
          exact ⟨h.cell 0, h.cell 1, h.cell 2⟩
        have HSs : Hid (∀ Y, S Y → True) := fun Y hY => by first | trivial | exact ((HSf.out Y hY).cell s).trans (vecC_get f hs9)
        have HSn : Hid (∀ Y Y', S Y → Below Y.heap.size Y Y' → S Y') := by intro Y Y' hY hb; rw [hS] at hY ⊢; exact hY.trans (hb.mono hY.size)
        have hS0 : S V.drew := by rw [hS]; exact (Below.refl _ _).drew
        clear hS
        go_wp2_with fail
        refine wp_region_held_rel 30 S (fun k u Y => match k with | 2 => u = .bool false | 17 => u = .bool false | _ => True) rfl (by kernel_rfl) (by kernel_rfl) (by kernel_rfl) (fun _ _ _ _ _ h => h) hS0 ?_
        clear hS0
        simp only [List.take_succ_cons, List.take_zero, List.drop_succ_cons, List.drop_zero]
        repeat (first | (refine relSeq_on rfl (fun K hK w1 hS1 hD1 => ?_); obtain ⟨d0, d1, d2, d3, d4, d5, d6, d7, d8⟩ := (HSf.out w1 hS1).c9; obtain ⟨i0, i1, i2⟩ := HSx.out w1 hS1; have v0 := HSs.out w1 hS1; go_simp; refine ⟨⟨trivial, hS1, Below.refl _ _⟩, hK _ ?_⟩; clear hK hD1 d0 d1 d2 d3 d4 d5 d6 d7 d8 i0 i1 i2 v0 hS1 K w1) | (refine relSeq_off rfl (fun _ _ => trivial) (fun K hK => ?_); go_simp; refine hK _ ?_; clear hK K))
        refine relSeq_on rfl (fun K hK w1 hS1 hD1 => ?_)
        go_simp
        refine ⟨(KH.out w1).mono fun e w2 he => ⟨_, he.1, rfl, HSn.out _ _ hS1 he.2, he.2⟩, fun v hv => ?_⟩
        obtain ⟨_, _, hv⟩ := hv.out
        obtain rfl : v = .bool false := hv
        refine hK _ ?_
        clear hK hD1 hS1 K w1 hv
        repeat (first | (refine relSeq_on rfl (fun K hK w1 hS1 hD1 => ?_); obtain ⟨d0, d1, d2, d3, d4, d5, d6, d7, d8⟩ := (HSf.out w1 hS1).c9; obtain ⟨i0, i1, i2⟩ := HSx.out w1 hS1; have v0 := HSs.out w1 hS1; go_simp; refine ⟨⟨trivial, hS1, Below.refl _ _⟩, hK _ ?_⟩; clear hK hD1 d0 d1 d2 d3 d4 d5 d6 d7 d8 i0 i1 i2 v0 hS1 K w1) | (refine relSeq_off rfl (fun _ _ => trivial) (fun K hK => ?_); go_simp; refine hK _ ?_; clear hK K))
        refine relSeq_on rfl (fun K hK w1 hS1 hD1 => ?_)
        go_simp
        refine ⟨(KN.out w1).mono fun e w2 he => ⟨_, he.1, rfl, HSn.out _ _ hS1 he.2, he.2⟩, fun v hv => ?_⟩
        obtain ⟨_, _, hv⟩ := hv.out
        obtain rfl : v = .bool false := hv
        refine hK _ ?_
        clear hK hD1 hS1 K w1 hv
        repeat (first | (refine relSeq_on rfl (fun K hK w1 hS1 hD1 => ?_); obtain ⟨d0, d1, d2, d3, d4, d5, d6, d7, d8⟩ := (HSf.out w1 hS1).c9; obtain ⟨i0, i1, i2⟩ := HSx.out w1 hS1; have v0 := HSs.out w1 hS1; go_simp; refine ⟨⟨trivial, hS1, Below.refl _ _⟩, hK _ ?_⟩; clear hK hD1 d0 d1 d2 d3 d4 d5 d6 d7 d8 i0 i1 i2 v0 hS1 K w1) | (refine relSeq_off rfl (fun _ _ => trivial) (fun K hK => ?_); go_simp; refine hK _ ?_; clear hK K))
        refine relSeq_nil ?_
        intro listed w9 hS2 hF2 hl2
        replace HF := Lib.hid (HF.out.below (HSd.out w9 hS2))
        replace H9 := Lib.hid (H9.out.below (HSd.out w9 hS2) H9.out.lt)
        replace HBr := Lib.hid (HBr.out.trans ((HSd.out w9 hS2).mono HBr.out.size))
        clear hF2 hl2 HSd HSf HSx HSs HSn hS2 KH KN
        obtain ⟨d0, d1, d2, d3, d4, d5, d6, d7, d8⟩ := HF.out.1.c9
        have i0 := H9.out.cell 0
        have i1 := H9.out.cell 1
        have i2 := H9.out.cell 2
        simp at i0 i1 i2
        go_wp2_with fail
        have KW : Hid (∀ W a c, RowS encId 3 W a 1 [⟨t, si, q⟩] → Calls Try.prog 17 #[vec f, .slice a 1 c] W (Ret (.tuple #[vec (withV f [⟨t, si, q⟩]).2, .int .i64 (withV f [⟨t, si, q⟩]).1]) W)) := fun W a c h => With_any f HP.out a 1 c _ W (IdSl_of h (by simp))
        have KV : Hid (∀ W a c, RowS encId 3 W a 1 [⟨t, si, q⟩] → Calls Try.prog 29 #[vec f, .slice a 1 c] W (Ret (.tuple #[vec (withV f [⟨t, si, q⟩]).2, .int .i64 (withV f [⟨t, si, q⟩]).1]) W)) := fun W a c h => RWith_any f HP.out a 1 c _ W h
        generalize (withV f [⟨t, si, q⟩]).2 = r at KW KV
        generalize (withV f [⟨t, si, q⟩]).1 = e0 at KW KV
        have R1 := Lib.hid (RowS_one w9 t si q)
        have HBA : Hid (Below w9.heap.size w9 (w9.alloc (.cells #[.int .u64 t, .int .i64 si, .int .u64 q] 38))) := (Below.refl _ _).alloc (Nat.le_refl _) _
        refine (KW.out _ _ _ R1.out).mono ?_
        rintro e Y1 ⟨rfl, hb⟩
        have hby : Below w9.heap.size w9 Y1 := HBA.out.trans (hb.mono HBA.out.size)
        replace HF := Lib.hid (HF.out.below hby)
        replace H9 := Lib.hid (H9.out.below hby H9.out.lt)
        replace HBr := Lib.hid (HBr.out.trans (hby.mono HBr.out.size))
        clear hb hby HBA R1 d0 d1 d2 d3 d4 d5 d6 d7 d8 i0 i1 i2
        go_upto_region 15 with (refine L_vstore_new (f := wZ) (.tmp 11) (.tmp 94) r rfl rfl ?_)
        have B11 : Hid (Blk (Y1.alloc (.cells (vecC r) 24)) Y1.heap.size 24 (vecC r)) := Blk.new _ _ _
        have hby : Below Y1.heap.size Y1 (Y1.alloc (.cells (vecC r) 24)) := (Below.refl _ _).alloc (Nat.le_refl _) _
        replace HF := Lib.hid (HF.out.below hby)
        replace H9 := Lib.hid (H9.out.below hby H9.out.lt)
        replace HBr := Lib.hid (HBr.out.trans (hby.mono HBr.out.size))
        clear hby
        generalize Y1.alloc (.cells (vecC r) 24) = Y2 at B11 HF H9 HBr ⊢
        generalize Y1.heap.size = p11 at B11 ⊢
        obtain ⟨d0, d1, d2, d3, d4, d5, d6, d7, d8⟩ := HF.out.1.c9
        have i0 := H9.out.cell 0
        have i1 := H9.out.cell 1
        have i2 := H9.out.cell 2
        simp at i0 i1 i2
        go_wp2_with fail
        have R1 := Lib.hid (RowS_one Y2 t si q)
        have HBA : Hid (Below Y2.heap.size Y2 (Y2.alloc (.cells #[.int .u64 t, .int .i64 si, .int .u64 q] 38))) := (Below.refl _ _).alloc (Nat.le_refl _) _
        refine (KV.out _ _ _ R1.out).mono ?_
        rintro e Y3 ⟨rfl, hb⟩
        have hby : Below Y2.heap.size Y2 Y3 := HBA.out.trans (hb.mono HBA.out.size)
        replace B11 := Lib.hid (B11.out.below hby B11.out.lt)
        replace HBr := Lib.hid (HBr.out.trans (hby.mono HBr.out.size))
        clear hb hby HBA R1 d0 d1 d2 d3 d4 d5 d6 d7 d8 i0 i1 i2 H9
        go_upto_region 16 with (refine L_vstore_new (f := wZ) (.tmp 13) (.tmp 101) r rfl rfl ?_)
        have B13 : Hid (Blk (Y3.alloc (.cells (vecC r) 24)) Y3.heap.size 24 (vecC r)) := Blk.new _ _ _
        have hby : Below Y3.heap.size Y3 (Y3.alloc (.cells (vecC r) 24)) := (Below.refl _ _).alloc (Nat.le_refl _) _
        replace B11 := Lib.hid (B11.out.below hby B11.out.lt)
        replace HBr := Lib.hid (HBr.out.trans (hby.mono HBr.out.size))
        clear hby
        generalize Y3.alloc (.cells (vecC r) 24) = Y4 at B11 B13 HBr ⊢
        generalize Y3.heap.size = p13 at B13 ⊢
        obtain ⟨d0, d1, d2, d3, d4, d5, d6, d7, d8⟩ := B11.out.c9
        obtain ⟨c0, c1, c2, c3, c4, c5, c6, c7, c8⟩ := B13.out.c9
        clear HF
        go_wp2_with fail
        go_roundw
        case rel => exact ⟨k + 1, by omega, by go_num, HBr.out⟩
        case measure => simp [intOf]; omega
      | true =>
        have h8 := (okId_iff t si q).1 hid
        obtain ⟨s, rfl⟩ : ∃ s : Nat, si = s := ⟨si.toNat, by omega⟩
        have hs9 : s < 9 := by omega
        have hs0 : (0 : Int) ≤ (s : Int) := by omega
        have hs1 : (s : Int) < 9 := by omega
        have hfs := okVec_le HOK.out hs9
        have hfp := HP.out s
        have hw1 : IntKind.u64.wrap (f s + 1) = f s + 1 := IntWalk.u64_in _ (by unfold maxT at hfs; omega)
        have HW1 := Lib.hid hw1
        have KI : Hid (∀ W, Calls Try.prog 28 #[idV t s q] W (Ret (.bool true) W)) := fun W => by have := RId_any t s q W; rwa [hid] at this
        have HID := Lib.hid hid
        have i0 := H9.out.cell 0
        have i1 := H9.out.cell 1
        have i2 := H9.out.cell 2
        simp at i0 i1 i2
        clear hid h8 hfs hfp hw1
        go_wp2_with fail
        refine (KI.out _).mono ?_
        rintro e V2 ⟨rfl, hb⟩
        replace HF := Lib.hid (HF.out.below hb)
        replace H9 := Lib.hid (H9.out.below hb H9.out.lt)
        replace HBr := Lib.hid (HBr.out.trans (hb.mono HBr.out.size))
        clear hb i0 i1 i2 KI
        generalize V2 = V at HF H9 HBr ⊢
        have hw1 := HW1.out
        by_cases h1 : q ≤ f s
        · have HB1 : Hid (hasB f t s q = true) := by show _ = _; simp [hasB, HOK.out, HID.out, h1]
          have HB2 : Hid (nextB f t s q = false) := by
            have : ¬ q = f s + 1 := by omega
            show _ = _; simp [nextB, this]
          have hd1 : decide (q ≤ f s) = true := by simpa using h1
          have hd2 : (q == f s + 1) = false := by simp; omega
          clear h1
          have KH : Hid (∀ W, Calls Try.prog 15 #[vec f, idV t s q] W (Ret (.bool true) W)) := fun W => by have := Has_any f HP.out t s q W; rwa [HB1.out] at this
          have KN : Hid (∀ W, Calls Try.prog 16 #[vec f, idV t s q] W (Ret (.bool false) W)) := fun W => by have := Next_any f HP.out t s q W; rwa [HB2.out] at this
          obtain ⟨S, hS⟩ : ∃ S : World → Prop, S = fun Y => Below V.heap.size V Y := ⟨_, rfl⟩
          have HSd : Hid (∀ Y, S Y → Below V.heap.size V Y) := by intro Y hY; rw [hS] at hY; exact hY
          have HSf : Hid (∀ Y, S Y → Blk Y w.heap.size 24 (vecC f)) := fun Y hY => HF.out.1.below (HSd.out Y hY) HF.out.1.lt
          have HSx : Hid (∀ Y, S Y → Y.cell? ⟨p9, 0, none⟩ = some (.int .u64 t) ∧ Y.cell? ⟨p9, 1, none⟩ = some (.int .i64 s) ∧ Y.cell? ⟨p9, 2, none⟩ = some (.int .u64 q)) := fun Y hY => by
            have h := H9.out.below (HSd.out Y hY) H9.out.lt
            exact ⟨h.cell 0, h.cell 1, h.cell 2⟩
          have HSs : Hid (∀ Y, S Y → Y.cell? ⟨w.heap.size, s, none⟩ = some (.int .u64 (f s))) := fun Y hY => by first | trivial | exact ((HSf.out Y hY).cell s).trans (vecC_get f hs9)
          have HSn : Hid (∀ Y Y', S Y → Below Y.heap.size Y Y' → S Y') := by intro Y Y' hY hb; rw [hS] at hY ⊢; exact hY.trans (hb.mono hY.size)
          have hS0 : S V.drew := by rw [hS]; exact (Below.refl _ _).drew
          clear hS
          go_wp2_with fail
          refine wp_region_held_rel 30 S (fun k u Y => match k with | 2 => u = .bool true | 17 => u = .bool false | _ => True) rfl (by kernel_rfl) (by kernel_rfl) (by kernel_rfl) (fun _ _ _ _ _ h => h) hS0 ?_
          clear hS0
          simp only [List.take_succ_cons, List.take_zero, List.drop_succ_cons, List.drop_zero]
          repeat (first | (refine relSeq_on rfl (fun K hK w1 hS1 hD1 => ?_); obtain ⟨d0, d1, d2, d3, d4, d5, d6, d7, d8⟩ := (HSf.out w1 hS1).c9; obtain ⟨i0, i1, i2⟩ := HSx.out w1 hS1; have v0 := HSs.out w1 hS1; go_simp; refine ⟨⟨trivial, hS1, Below.refl _ _⟩, hK _ ?_⟩; clear hK hD1 d0 d1 d2 d3 d4 d5 d6 d7 d8 i0 i1 i2 v0 hS1 K w1) | (refine relSeq_off rfl (fun _ _ => trivial) (fun K hK => ?_); go_simp; refine hK _ ?_; clear hK K))
          refine relSeq_on rfl (fun K hK w1 hS1 hD1 => ?_)
          go_simp
          refine ⟨(KH.out w1).mono fun e w2 he => ⟨_, he.1, rfl, HSn.out _ _ hS1 he.2, he.2⟩, fun v hv => ?_⟩
          obtain ⟨_, _, hv⟩ := hv.out
          obtain rfl : v = .bool true := hv
          refine hK _ ?_
          clear hK hD1 hS1 K w1 hv
          repeat (first | (refine relSeq_on rfl (fun K hK w1 hS1 hD1 => ?_); obtain ⟨d0, d1, d2, d3, d4, d5, d6, d7, d8⟩ := (HSf.out w1 hS1).c9; obtain ⟨i0, i1, i2⟩ := HSx.out w1 hS1; have v0 := HSs.out w1 hS1; go_simp; refine ⟨⟨trivial, hS1, Below.refl _ _⟩, hK _ ?_⟩; clear hK hD1 d0 d1 d2 d3 d4 d5 d6 d7 d8 i0 i1 i2 v0 hS1 K w1) | (refine relSeq_off rfl (fun _ _ => trivial) (fun K hK => ?_); go_simp; refine hK _ ?_; clear hK K))
          refine relSeq_on rfl (fun K hK w1 hS1 hD1 => ?_)
          go_simp
          refine ⟨(KN.out w1).mono fun e w2 he => ⟨_, he.1, rfl, HSn.out _ _ hS1 he.2, he.2⟩, fun v hv => ?_⟩
          obtain ⟨_, _, hv⟩ := hv.out
          obtain rfl : v = .bool false := hv
          refine hK _ ?_
          clear hK hD1 hS1 K w1 hv
          repeat (first | (refine relSeq_on rfl (fun K hK w1 hS1 hD1 => ?_); obtain ⟨d0, d1, d2, d3, d4, d5, d6, d7, d8⟩ := (HSf.out w1 hS1).c9; obtain ⟨i0, i1, i2⟩ := HSx.out w1 hS1; have v0 := HSs.out w1 hS1; go_simp; refine ⟨⟨trivial, hS1, Below.refl _ _⟩, hK _ ?_⟩; clear hK hD1 d0 d1 d2 d3 d4 d5 d6 d7 d8 i0 i1 i2 v0 hS1 K w1) | (refine relSeq_off rfl (fun _ _ => trivial) (fun K hK => ?_); go_simp; refine hK _ ?_; clear hK K))
          refine relSeq_nil ?_
          intro listed w9 hS2 hF2 hl2
          replace HF := Lib.hid (HF.out.below (HSd.out w9 hS2))
          replace H9 := Lib.hid (H9.out.below (HSd.out w9 hS2) H9.out.lt)
          replace HBr := Lib.hid (HBr.out.trans ((HSd.out w9 hS2).mono HBr.out.size))
          clear hF2 hl2 HSd HSf HSx HSs HSn hS2 KH KN
          obtain ⟨d0, d1, d2, d3, d4, d5, d6, d7, d8⟩ := HF.out.1.c9
          have i0 := H9.out.cell 0
          have i1 := H9.out.cell 1
          have i2 := H9.out.cell 2
          simp at i0 i1 i2
          go_wp2_with fail
          have KW : Hid (∀ W a c, RowS encId 3 W a 1 [⟨t, s, q⟩] → Calls Try.prog 17 #[vec f, .slice a 1 c] W (Ret (.tuple #[vec (withV f [⟨t, s, q⟩]).2, .int .i64 (withV f [⟨t, s, q⟩]).1]) W)) := fun W a c h => With_any f HP.out a 1 c _ W (IdSl_of h (by simp))
          have KV : Hid (∀ W a c, RowS encId 3 W a 1 [⟨t, s, q⟩] → Calls Try.prog 29 #[vec f, .slice a 1 c] W (Ret (.tuple #[vec (withV f [⟨t, s, q⟩]).2, .int .i64 (withV f [⟨t, s, q⟩]).1]) W)) := fun W a c h => RWith_any f HP.out a 1 c _ W h
          generalize (withV f [⟨t, s, q⟩]).2 = r at KW KV
          generalize (withV f [⟨t, s, q⟩]).1 = e0 at KW KV
          have R1 := Lib.hid (RowS_one w9 t s q)
          have HBA : Hid (Below w9.heap.size w9 (w9.alloc (.cells #[.int .u64 t, .int .i64 s, .int .u64 q] 38))) := (Below.refl _ _).alloc (Nat.le_refl _) _
          refine (KW.out _ _ _ R1.out).mono ?_
          rintro e Y1 ⟨rfl, hb⟩
          have hby : Below w9.heap.size w9 Y1 := HBA.out.trans (hb.mono HBA.out.size)
          replace HF := Lib.hid (HF.out.below hby)
          replace H9 := Lib.hid (H9.out.below hby H9.out.lt)
          replace HBr := Lib.hid (HBr.out.trans (hby.mono HBr.out.size))
          clear hb hby HBA R1 d0 d1 d2 d3 d4 d5 d6 d7 d8 i0 i1 i2
          go_upto_region 15 with (refine L_vstore_new (f := wZ) (.tmp 11) (.tmp 94) r rfl rfl ?_)
          have B11 : Hid (Blk (Y1.alloc (.cells (vecC r) 24)) Y1.heap.size 24 (vecC r)) := Blk.new _ _ _
          have hby : Below Y1.heap.size Y1 (Y1.alloc (.cells (vecC r) 24)) := (Below.refl _ _).alloc (Nat.le_refl _) _
          replace HF := Lib.hid (HF.out.below hby)
          replace H9 := Lib.hid (H9.out.below hby H9.out.lt)
          replace HBr := Lib.hid (HBr.out.trans (hby.mono HBr.out.size))
          clear hby
          generalize Y1.alloc (.cells (vecC r) 24) = Y2 at B11 HF H9 HBr ⊢
          generalize Y1.heap.size = p11 at B11 ⊢
          obtain ⟨d0, d1, d2, d3, d4, d5, d6, d7, d8⟩ := HF.out.1.c9
          have i0 := H9.out.cell 0
          have i1 := H9.out.cell 1
          have i2 := H9.out.cell 2
          simp at i0 i1 i2
          go_wp2_with fail
          have R1 := Lib.hid (RowS_one Y2 t s q)
          have HBA : Hid (Below Y2.heap.size Y2 (Y2.alloc (.cells #[.int .u64 t, .int .i64 s, .int .u64 q] 38))) := (Below.refl _ _).alloc (Nat.le_refl _) _
          refine (KV.out _ _ _ R1.out).mono ?_
          rintro e Y3 ⟨rfl, hb⟩
          have hby : Below Y2.heap.size Y2 Y3 := HBA.out.trans (hb.mono HBA.out.size)
          replace B11 := Lib.hid (B11.out.below hby B11.out.lt)
          replace HBr := Lib.hid (HBr.out.trans (hby.mono HBr.out.size))
          clear hb hby HBA R1 d0 d1 d2 d3 d4 d5 d6 d7 d8 i0 i1 i2 H9
          go_upto_region 16 with (refine L_vstore_new (f := wZ) (.tmp 13) (.tmp 101) r rfl rfl ?_)
          have B13 : Hid (Blk (Y3.alloc (.cells (vecC r) 24)) Y3.heap.size 24 (vecC r)) := Blk.new _ _ _
          have hby : Below Y3.heap.size Y3 (Y3.alloc (.cells (vecC r) 24)) := (Below.refl _ _).alloc (Nat.le_refl _) _
          replace B11 := Lib.hid (B11.out.below hby B11.out.lt)
          replace HBr := Lib.hid (HBr.out.trans (hby.mono HBr.out.size))
          clear hby
          generalize Y3.alloc (.cells (vecC r) 24) = Y4 at B11 B13 HBr ⊢
          generalize Y3.heap.size = p13 at B13 ⊢
          obtain ⟨d0, d1, d2, d3, d4, d5, d6, d7, d8⟩ := B11.out.c9
          obtain ⟨c0, c1, c2, c3, c4, c5, c6, c7, c8⟩ := B13.out.c9
          clear HF
          go_wp2_with fail
          go_roundw
          case rel => exact ⟨k + 1, by omega, by go_num, HBr.out⟩
          case measure => simp [intOf]; omega
        · have HB1 : Hid (hasB f t s q = false) := by show _ = _; simp [hasB]; intros; omega
          have hd1 : decide (q ≤ f s) = false := by simpa using h1
          clear h1
          by_cases h2 : q = f s + 1
          · have HB2 : Hid (nextB f t s q = true) := by show _ = _; simp [nextB, HOK.out, h2]; have := HID.out; rwa [h2] at this
            have hd2 : (q == f s + 1) = true := by simp [h2]
            clear h2
            have KH : Hid (∀ W, Calls Try.prog 15 #[vec f, idV t s q] W (Ret (.bool false) W)) := fun W => by have := Has_any f HP.out t s q W; rwa [HB1.out] at this
            have KN : Hid (∀ W, Calls Try.prog 16 #[vec f, idV t s q] W (Ret (.bool true) W)) := fun W => by have := Next_any f HP.out t s q W; rwa [HB2.out] at this
            obtain ⟨S, hS⟩ : ∃ S : World → Prop, S = fun Y => Below V.heap.size V Y := ⟨_, rfl⟩
            have HSd : Hid (∀ Y, S Y → Below V.heap.size V Y) := by intro Y hY; rw [hS] at hY; exact hY
            have HSf : Hid (∀ Y, S Y → Blk Y w.heap.size 24 (vecC f)) := fun Y hY => HF.out.1.below (HSd.out Y hY) HF.out.1.lt
            have HSx : Hid (∀ Y, S Y → Y.cell? ⟨p9, 0, none⟩ = some (.int .u64 t) ∧ Y.cell? ⟨p9, 1, none⟩ = some (.int .i64 s) ∧ Y.cell? ⟨p9, 2, none⟩ = some (.int .u64 q)) := fun Y hY => by
              have h := H9.out.below (HSd.out Y hY) H9.out.lt
              exact ⟨h.cell 0, h.cell 1, h.cell 2⟩
            have HSs : Hid (∀ Y, S Y → Y.cell? ⟨w.heap.size, s, none⟩ = some (.int .u64 (f s))) := fun Y hY => by first | trivial | exact ((HSf.out Y hY).cell s).trans (vecC_get f hs9)
            have HSn : Hid (∀ Y Y', S Y → Below Y.heap.size Y Y' → S Y') := by intro Y Y' hY hb; rw [hS] at hY ⊢; exact hY.trans (hb.mono hY.size)
            have hS0 : S V.drew := by rw [hS]; exact (Below.refl _ _).drew
            clear hS
            go_wp2_with fail
            refine wp_region_held_rel 30 S (fun k u Y => match k with | 2 => u = .bool false | 17 => u = .bool true | _ => True) rfl (by kernel_rfl) (by kernel_rfl) (by kernel_rfl) (fun _ _ _ _ _ h => h) hS0 ?_
            clear hS0
            simp only [List.take_succ_cons, List.take_zero, List.drop_succ_cons, List.drop_zero]
            repeat (first | (refine relSeq_on rfl (fun K hK w1 hS1 hD1 => ?_); obtain ⟨d0, d1, d2, d3, d4, d5, d6, d7, d8⟩ := (HSf.out w1 hS1).c9; obtain ⟨i0, i1, i2⟩ := HSx.out w1 hS1; have v0 := HSs.out w1 hS1; go_simp; refine ⟨⟨trivial, hS1, Below.refl _ _⟩, hK _ ?_⟩; clear hK hD1 d0 d1 d2 d3 d4 d5 d6 d7 d8 i0 i1 i2 v0 hS1 K w1) | (refine relSeq_off rfl (fun _ _ => trivial) (fun K hK => ?_); go_simp; refine hK _ ?_; clear hK K))
            refine relSeq_on rfl (fun K hK w1 hS1 hD1 => ?_)
            go_simp
            refine ⟨(KH.out w1).mono fun e w2 he => ⟨_, he.1, rfl, HSn.out _ _ hS1 he.2, he.2⟩, fun v hv => ?_⟩
            obtain ⟨_, _, hv⟩ := hv.out
            obtain rfl : v = .bool false := hv
            refine hK _ ?_
            clear hK hD1 hS1 K w1 hv
            repeat (first | (refine relSeq_on rfl (fun K hK w1 hS1 hD1 => ?_); obtain ⟨d0, d1, d2, d3, d4, d5, d6, d7, d8⟩ := (HSf.out w1 hS1).c9; obtain ⟨i0, i1, i2⟩ := HSx.out w1 hS1; have v0 := HSs.out w1 hS1; go_simp; refine ⟨⟨trivial, hS1, Below.refl _ _⟩, hK _ ?_⟩; clear hK hD1 d0 d1 d2 d3 d4 d5 d6 d7 d8 i0 i1 i2 v0 hS1 K w1) | (refine relSeq_off rfl (fun _ _ => trivial) (fun K hK => ?_); go_simp; refine hK _ ?_; clear hK K))
            refine relSeq_on rfl (fun K hK w1 hS1 hD1 => ?_)
            go_simp
            refine ⟨(KN.out w1).mono fun e w2 he => ⟨_, he.1, rfl, HSn.out _ _ hS1 he.2, he.2⟩, fun v hv => ?_⟩
            obtain ⟨_, _, hv⟩ := hv.out
            obtain rfl : v = .bool true := hv
            refine hK _ ?_
            clear hK hD1 hS1 K w1 hv
            repeat (first | (refine relSeq_on rfl (fun K hK w1 hS1 hD1 => ?_); obtain ⟨d0, d1, d2, d3, d4, d5, d6, d7, d8⟩ := (HSf.out w1 hS1).c9; obtain ⟨i0, i1, i2⟩ := HSx.out w1 hS1; have v0 := HSs.out w1 hS1; go_simp; refine ⟨⟨trivial, hS1, Below.refl _ _⟩, hK _ ?_⟩; clear hK hD1 d0 d1 d2 d3 d4 d5 d6 d7 d8 i0 i1 i2 v0 hS1 K w1) | (refine relSeq_off rfl (fun _ _ => trivial) (fun K hK => ?_); go_simp; refine hK _ ?_; clear hK K))
            refine relSeq_nil ?_
            intro listed w9 hS2 hF2 hl2
            replace HF := Lib.hid (HF.out.below (HSd.out w9 hS2))
            replace H9 := Lib.hid (H9.out.below (HSd.out w9 hS2) H9.out.lt)
            replace HBr := Lib.hid (HBr.out.trans ((HSd.out w9 hS2).mono HBr.out.size))
            clear hF2 hl2 HSd HSf HSx HSs HSn hS2 KH KN
            obtain ⟨d0, d1, d2, d3, d4, d5, d6, d7, d8⟩ := HF.out.1.c9
            have i0 := H9.out.cell 0
            have i1 := H9.out.cell 1
            have i2 := H9.out.cell 2
            simp at i0 i1 i2
            go_wp2_with fail
            have KW : Hid (∀ W a c, RowS encId 3 W a 1 [⟨t, s, q⟩] → Calls Try.prog 17 #[vec f, .slice a 1 c] W (Ret (.tuple #[vec (withV f [⟨t, s, q⟩]).2, .int .i64 (withV f [⟨t, s, q⟩]).1]) W)) := fun W a c h => With_any f HP.out a 1 c _ W (IdSl_of h (by simp))
            have KV : Hid (∀ W a c, RowS encId 3 W a 1 [⟨t, s, q⟩] → Calls Try.prog 29 #[vec f, .slice a 1 c] W (Ret (.tuple #[vec (withV f [⟨t, s, q⟩]).2, .int .i64 (withV f [⟨t, s, q⟩]).1]) W)) := fun W a c h => RWith_any f HP.out a 1 c _ W h
            generalize (withV f [⟨t, s, q⟩]).2 = r at KW KV
            generalize (withV f [⟨t, s, q⟩]).1 = e0 at KW KV
            have R1 := Lib.hid (RowS_one w9 t s q)
            have HBA : Hid (Below w9.heap.size w9 (w9.alloc (.cells #[.int .u64 t, .int .i64 s, .int .u64 q] 38))) := (Below.refl _ _).alloc (Nat.le_refl _) _
            refine (KW.out _ _ _ R1.out).mono ?_
            rintro e Y1 ⟨rfl, hb⟩
            have hby : Below w9.heap.size w9 Y1 := HBA.out.trans (hb.mono HBA.out.size)
            replace HF := Lib.hid (HF.out.below hby)
            replace H9 := Lib.hid (H9.out.below hby H9.out.lt)
            replace HBr := Lib.hid (HBr.out.trans (hby.mono HBr.out.size))
            clear hb hby HBA R1 d0 d1 d2 d3 d4 d5 d6 d7 d8 i0 i1 i2
            go_upto_region 15 with (refine L_vstore_new (f := wZ) (.tmp 11) (.tmp 94) r rfl rfl ?_)
            have B11 : Hid (Blk (Y1.alloc (.cells (vecC r) 24)) Y1.heap.size 24 (vecC r)) := Blk.new _ _ _
            have hby : Below Y1.heap.size Y1 (Y1.alloc (.cells (vecC r) 24)) := (Below.refl _ _).alloc (Nat.le_refl _) _
            replace HF := Lib.hid (HF.out.below hby)
            replace H9 := Lib.hid (H9.out.below hby H9.out.lt)
            replace HBr := Lib.hid (HBr.out.trans (hby.mono HBr.out.size))
            clear hby
            generalize Y1.alloc (.cells (vecC r) 24) = Y2 at B11 HF H9 HBr ⊢
            generalize Y1.heap.size = p11 at B11 ⊢
            obtain ⟨d0, d1, d2, d3, d4, d5, d6, d7, d8⟩ := HF.out.1.c9
            have i0 := H9.out.cell 0
            have i1 := H9.out.cell 1
            have i2 := H9.out.cell 2
            simp at i0 i1 i2
            go_wp2_with fail
            have R1 := Lib.hid (RowS_one Y2 t s q)
            have HBA : Hid (Below Y2.heap.size Y2 (Y2.alloc (.cells #[.int .u64 t, .int .i64 s, .int .u64 q] 38))) := (Below.refl _ _).alloc (Nat.le_refl _) _
            refine (KV.out _ _ _ R1.out).mono ?_
            rintro e Y3 ⟨rfl, hb⟩
            have hby : Below Y2.heap.size Y2 Y3 := HBA.out.trans (hb.mono HBA.out.size)
            replace B11 := Lib.hid (B11.out.below hby B11.out.lt)
            replace HBr := Lib.hid (HBr.out.trans (hby.mono HBr.out.size))
            clear hb hby HBA R1 d0 d1 d2 d3 d4 d5 d6 d7 d8 i0 i1 i2 H9
            go_upto_region 16 with (refine L_vstore_new (f := wZ) (.tmp 13) (.tmp 101) r rfl rfl ?_)
            have B13 : Hid (Blk (Y3.alloc (.cells (vecC r) 24)) Y3.heap.size 24 (vecC r)) := Blk.new _ _ _
            have hby : Below Y3.heap.size Y3 (Y3.alloc (.cells (vecC r) 24)) := (Below.refl _ _).alloc (Nat.le_refl _) _
            replace B11 := Lib.hid (B11.out.below hby B11.out.lt)
            replace HBr := Lib.hid (HBr.out.trans (hby.mono HBr.out.size))
            clear hby
            generalize Y3.alloc (.cells (vecC r) 24) = Y4 at B11 B13 HBr ⊢
            generalize Y3.heap.size = p13 at B13 ⊢
            obtain ⟨d0, d1, d2, d3, d4, d5, d6, d7, d8⟩ := B11.out.c9
            obtain ⟨c0, c1, c2, c3, c4, c5, c6, c7, c8⟩ := B13.out.c9
            clear HF
            go_wp2_with fail
            go_roundw
            case rel => exact ⟨k + 1, by omega, by go_num, HBr.out⟩
            case measure => simp [intOf]; omega
          · have HB2 : Hid (nextB f t s q = false) := by show _ = _; simp [nextB, h2]
            have hd2 : (q == f s + 1) = false := by simp [h2]
            clear h2
            have KH : Hid (∀ W, Calls Try.prog 15 #[vec f, idV t s q] W (Ret (.bool false) W)) := fun W => by have := Has_any f HP.out t s q W; rwa [HB1.out] at this
            have KN : Hid (∀ W, Calls Try.prog 16 #[vec f, idV t s q] W (Ret (.bool false) W)) := fun W => by have := Next_any f HP.out t s q W; rwa [HB2.out] at this
            obtain ⟨S, hS⟩ : ∃ S : World → Prop, S = fun Y => Below V.heap.size V Y := ⟨_, rfl⟩
            have HSd : Hid (∀ Y, S Y → Below V.heap.size V Y) := by intro Y hY; rw [hS] at hY; exact hY
            have HSf : Hid (∀ Y, S Y → Blk Y w.heap.size 24 (vecC f)) := fun Y hY => HF.out.1.below (HSd.out Y hY) HF.out.1.lt
            have HSx : Hid (∀ Y, S Y → Y.cell? ⟨p9, 0, none⟩ = some (.int .u64 t) ∧ Y.cell? ⟨p9, 1, none⟩ = some (.int .i64 s) ∧ Y.cell? ⟨p9, 2, none⟩ = some (.int .u64 q)) := fun Y hY => by
              have h := H9.out.below (HSd.out Y hY) H9.out.lt
              exact ⟨h.cell 0, h.cell 1, h.cell 2⟩
            have HSs : Hid (∀ Y, S Y → Y.cell? ⟨w.heap.size, s, none⟩ = some (.int .u64 (f s))) := fun Y hY => by first | trivial | exact ((HSf.out Y hY).cell s).trans (vecC_get f hs9)
            have HSn : Hid (∀ Y Y', S Y → Below Y.heap.size Y Y' → S Y') := by intro Y Y' hY hb; rw [hS] at hY ⊢; exact hY.trans (hb.mono hY.size)
            have hS0 : S V.drew := by rw [hS]; exact (Below.refl _ _).drew
            clear hS
            go_wp2_with fail
            refine wp_region_held_rel 30 S (fun k u Y => match k with | 2 => u = .bool false | 17 => u = .bool false | _ => True) rfl (by kernel_rfl) (by kernel_rfl) (by kernel_rfl) (fun _ _ _ _ _ h => h) hS0 ?_
            clear hS0
            simp only [List.take_succ_cons, List.take_zero, List.drop_succ_cons, List.drop_zero]
            repeat (first | (refine relSeq_on rfl (fun K hK w1 hS1 hD1 => ?_); obtain ⟨d0, d1, d2, d3, d4, d5, d6, d7, d8⟩ := (HSf.out w1 hS1).c9; obtain ⟨i0, i1, i2⟩ := HSx.out w1 hS1; have v0 := HSs.out w1 hS1; go_simp; refine ⟨⟨trivial, hS1, Below.refl _ _⟩, hK _ ?_⟩; clear hK hD1 d0 d1 d2 d3 d4 d5 d6 d7 d8 i0 i1 i2 v0 hS1 K w1) | (refine relSeq_off rfl (fun _ _ => trivial) (fun K hK => ?_); go_simp; refine hK _ ?_; clear hK K))
            refine relSeq_on rfl (fun K hK w1 hS1 hD1 => ?_)
            go_simp
            refine ⟨(KH.out w1).mono fun e w2 he => ⟨_, he.1, rfl, HSn.out _ _ hS1 he.2, he.2⟩, fun v hv => ?_⟩
            obtain ⟨_, _, hv⟩ := hv.out
            obtain rfl : v = .bool false := hv
            refine hK _ ?_
            clear hK hD1 hS1 K w1 hv
            repeat (first | (refine relSeq_on rfl (fun K hK w1 hS1 hD1 => ?_); obtain ⟨d0, d1, d2, d3, d4, d5, d6, d7, d8⟩ := (HSf.out w1 hS1).c9; obtain ⟨i0, i1, i2⟩ := HSx.out w1 hS1; have v0 := HSs.out w1 hS1; go_simp; refine ⟨⟨trivial, hS1, Below.refl _ _⟩, hK _ ?_⟩; clear hK hD1 d0 d1 d2 d3 d4 d5 d6 d7 d8 i0 i1 i2 v0 hS1 K w1) | (refine relSeq_off rfl (fun _ _ => trivial) (fun K hK => ?_); go_simp; refine hK _ ?_; clear hK K))
            refine relSeq_on rfl (fun K hK w1 hS1 hD1 => ?_)
            go_simp
            refine ⟨(KN.out w1).mono fun e w2 he => ⟨_, he.1, rfl, HSn.out _ _ hS1 he.2, he.2⟩, fun v hv => ?_⟩
            obtain ⟨_, _, hv⟩ := hv.out
            obtain rfl : v = .bool false := hv
            refine hK _ ?_
            clear hK hD1 hS1 K w1 hv
            repeat (first | (refine relSeq_on rfl (fun K hK w1 hS1 hD1 => ?_); obtain ⟨d0, d1, d2, d3, d4, d5, d6, d7, d8⟩ := (HSf.out w1 hS1).c9; obtain ⟨i0, i1, i2⟩ := HSx.out w1 hS1; have v0 := HSs.out w1 hS1; go_simp; refine ⟨⟨trivial, hS1, Below.refl _ _⟩, hK _ ?_⟩; clear hK hD1 d0 d1 d2 d3 d4 d5 d6 d7 d8 i0 i1 i2 v0 hS1 K w1) | (refine relSeq_off rfl (fun _ _ => trivial) (fun K hK => ?_); go_simp; refine hK _ ?_; clear hK K))
            refine relSeq_nil ?_
            intro listed w9 hS2 hF2 hl2
            replace HF := Lib.hid (HF.out.below (HSd.out w9 hS2))
            replace H9 := Lib.hid (H9.out.below (HSd.out w9 hS2) H9.out.lt)
            replace HBr := Lib.hid (HBr.out.trans ((HSd.out w9 hS2).mono HBr.out.size))
            clear hF2 hl2 HSd HSf HSx HSs HSn hS2 KH KN
            obtain ⟨d0, d1, d2, d3, d4, d5, d6, d7, d8⟩ := HF.out.1.c9
            have i0 := H9.out.cell 0
            have i1 := H9.out.cell 1
            have i2 := H9.out.cell 2
            simp at i0 i1 i2
            go_wp2_with fail
            have KW : Hid (∀ W a c, RowS encId 3 W a 1 [⟨t, s, q⟩] → Calls Try.prog 17 #[vec f, .slice a 1 c] W (Ret (.tuple #[vec (withV f [⟨t, s, q⟩]).2, .int .i64 (withV f [⟨t, s, q⟩]).1]) W)) := fun W a c h => With_any f HP.out a 1 c _ W (IdSl_of h (by simp))
            have KV : Hid (∀ W a c, RowS encId 3 W a 1 [⟨t, s, q⟩] → Calls Try.prog 29 #[vec f, .slice a 1 c] W (Ret (.tuple #[vec (withV f [⟨t, s, q⟩]).2, .int .i64 (withV f [⟨t, s, q⟩]).1]) W)) := fun W a c h => RWith_any f HP.out a 1 c _ W h
            generalize (withV f [⟨t, s, q⟩]).2 = r at KW KV
            generalize (withV f [⟨t, s, q⟩]).1 = e0 at KW KV
            have R1 := Lib.hid (RowS_one w9 t s q)
            have HBA : Hid (Below w9.heap.size w9 (w9.alloc (.cells #[.int .u64 t, .int .i64 s, .int .u64 q] 38))) := (Below.refl _ _).alloc (Nat.le_refl _) _
            refine (KW.out _ _ _ R1.out).mono ?_
            rintro e Y1 ⟨rfl, hb⟩
            have hby : Below w9.heap.size w9 Y1 := HBA.out.trans (hb.mono HBA.out.size)
            replace HF := Lib.hid (HF.out.below hby)
            replace H9 := Lib.hid (H9.out.below hby H9.out.lt)
            replace HBr := Lib.hid (HBr.out.trans (hby.mono HBr.out.size))
            clear hb hby HBA R1 d0 d1 d2 d3 d4 d5 d6 d7 d8 i0 i1 i2
            go_upto_region 15 with (refine L_vstore_new (f := wZ) (.tmp 11) (.tmp 94) r rfl rfl ?_)
            have B11 : Hid (Blk (Y1.alloc (.cells (vecC r) 24)) Y1.heap.size 24 (vecC r)) := Blk.new _ _ _
            have hby : Below Y1.heap.size Y1 (Y1.alloc (.cells (vecC r) 24)) := (Below.refl _ _).alloc (Nat.le_refl _) _
            replace HF := Lib.hid (HF.out.below hby)
            replace H9 := Lib.hid (H9.out.below hby H9.out.lt)
            replace HBr := Lib.hid (HBr.out.trans (hby.mono HBr.out.size))
            clear hby
            generalize Y1.alloc (.cells (vecC r) 24) = Y2 at B11 HF H9 HBr ⊢
            generalize Y1.heap.size = p11 at B11 ⊢
            obtain ⟨d0, d1, d2, d3, d4, d5, d6, d7, d8⟩ := HF.out.1.c9
            have i0 := H9.out.cell 0
            have i1 := H9.out.cell 1
            have i2 := H9.out.cell 2
            simp at i0 i1 i2
            go_wp2_with fail
            have R1 := Lib.hid (RowS_one Y2 t s q)
            have HBA : Hid (Below Y2.heap.size Y2 (Y2.alloc (.cells #[.int .u64 t, .int .i64 s, .int .u64 q] 38))) := (Below.refl _ _).alloc (Nat.le_refl _) _
            refine (KV.out _ _ _ R1.out).mono ?_
            rintro e Y3 ⟨rfl, hb⟩
            have hby : Below Y2.heap.size Y2 Y3 := HBA.out.trans (hb.mono HBA.out.size)
            replace B11 := Lib.hid (B11.out.below hby B11.out.lt)
            replace HBr := Lib.hid (HBr.out.trans (hby.mono HBr.out.size))
            clear hb hby HBA R1 d0 d1 d2 d3 d4 d5 d6 d7 d8 i0 i1 i2 H9
            go_upto_region 16 with (refine L_vstore_new (f := wZ) (.tmp 13) (.tmp 101) r rfl rfl ?_)
            have B13 : Hid (Blk (Y3.alloc (.cells (vecC r) 24)) Y3.heap.size 24 (vecC r)) := Blk.new _ _ _
            have hby : Below Y3.heap.size Y3 (Y3.alloc (.cells (vecC r) 24)) := (Below.refl _ _).alloc (Nat.le_refl _) _
            replace B11 := Lib.hid (B11.out.below hby B11.out.lt)
            replace HBr := Lib.hid (HBr.out.trans (hby.mono HBr.out.size))
            clear hby
            generalize Y3.alloc (.cells (vecC r) 24) = Y4 at B11 B13 HBr ⊢
            generalize Y3.heap.size = p13 at B13 ⊢
            obtain ⟨d0, d1, d2, d3, d4, d5, d6, d7, d8⟩ := B11.out.c9
            obtain ⟨c0, c1, c2, c3, c4, c5, c6, c7, c8⟩ := B13.out.c9
            clear HF
            go_wp2_with fail
            go_roundw
            case rel => exact ⟨k + 1, by omega, by go_num, HBr.out⟩
            case measure => simp [intOf]; omega
    · have hkm : ¬ (k : Int) < (m : Int) := by have := HML.out; omega
      have hm0 : (0 : Int) ≤ (m : Int) := by omega
      have hmc : (m : Int) ≤ (c : Int) := by have := HMN.out.1; omega
      have hm12 : l.length ≤ 1000 := by have := HMN.out.1; have := HML.out; omega
      replace HF := Lib.hid (HF.out.below HBr.out)
      clear HBr
      have KW : Hid (∀ W a c, RowS encId 3 W a m l → Calls Try.prog 17 #[vec f, .slice a m c] W (Ret (.tuple #[vec (withV f l).2, .int .i64 (withV f l).1]) W)) := fun W a c h => With_any f HP.out a m c _ W (IdSl_of h hm12)
      have KV : Hid (∀ W a c, RowS encId 3 W a m l → Calls Try.prog 29 #[vec f, .slice a m c] W (Ret (.tuple #[vec (withV f l).2, .int .i64 (withV f l).1]) W)) := fun W a c h => RWith_any f HP.out a m c _ W h
      have KO : Hid (∀ W a c, RowS encId 3 W a m l → Calls Try.prog 30 #[.slice a m c] W (Ret (.tuple #[vec (withV wZ (sortIds l)).2, .int .i64 (withV wZ (sortIds l)).1]) W)) := fun W a c h => Of_any a m c l W h hm12
      have KS : Hid (∀ W a c, RowS encId 3 W a m l → Calls Try.prog 31 #[.slice a m c] W fun e W' => ∃ a' c', e = .returned (.slice a' m c') ∧ RowS encId 3 W' a' m (sortIds l) ∧ Below W.heap.size W W') := fun W a c h => (RSorted_any a m c l W h hm12).mono fun e W' ⟨v, he, ho, hb⟩ => by
        have hl : (sortIds l).length = m := by rw [sortIds_length]; exact HML.out.symm
        rw [rsort_eq] at ho
        rw [← hl] at ho
        obtain ⟨a', c', rfl, hr⟩ := rowS_of_own (enc := encId) (k := 3) (fun _ => rfl) ho
        rw [hl] at hr he
        exact ⟨a', c', he, hr, hb⟩
      have KU : Hid (∀ W a c, RowS encId 3 W a m (sortIds l) → Calls Try.prog 29 #[vec wZ, .slice a m c] W (Ret (.tuple #[vec (withV wZ (sortIds l)).2, .int .i64 (withV wZ (sortIds l)).1]) W)) := fun W a c h => RWith_any wZ posV_wZ a m c _ W h
      generalize (withV f l).2 = r at KW KV
      generalize (withV f l).1 = e0 at KW KV
      generalize (withV wZ (sortIds l)).2 = o at KO KU
      generalize (withV wZ (sortIds l)).1 = e1 at KO KU
      generalize sortIds l = sl at KS KU
      obtain ⟨c0, c1, c2, c3, c4, c5, c6, c7, c8⟩ := HF.out.1.c9
      go_wp2_with fail
      refine (KW.out _ _ _ HF.out.2.1).mono ?_
      rintro e Y1 ⟨rfl, hb⟩
      replace HF := Lib.hid (HF.out.below hb)
      clear hb c0 c1 c2 c3 c4 c5 c6 c7 c8
      go_upto_region 20 with (refine L_vstore_new (f := wZ) (.tmp 15) (.tmp 116) r rfl rfl ?_)
      have B15 : Hid (Blk (Y1.alloc (.cells (vecC r) 24)) Y1.heap.size 24 (vecC r)) := Blk.new _ _ _
      replace HF := Lib.hid (HF.out.alloc (.cells (vecC r) 24))
      generalize Y1.alloc (.cells (vecC r) 24) = Y2 at B15 HF ⊢
      generalize Y1.heap.size = p15 at B15 ⊢
      obtain ⟨c0, c1, c2, c3, c4, c5, c6, c7, c8⟩ := HF.out.1.c9
      go_wp2_with fail
      refine (KV.out _ _ _ HF.out.2.1).mono ?_
      rintro e Y3 ⟨rfl, hb⟩
      replace HF := Lib.hid (HF.out.below hb)
      replace B15 := Lib.hid (B15.out.below hb B15.out.lt)
      clear hb c0 c1 c2 c3 c4 c5 c6 c7 c8
      go_upto_region 21 with (refine L_vstore_new (f := wZ) (.tmp 17) (.tmp 122) r rfl rfl ?_)
      have B17 : Hid (Blk (Y3.alloc (.cells (vecC r) 24)) Y3.heap.size 24 (vecC r)) := Blk.new _ _ _
      replace HF := Lib.hid (HF.out.alloc (.cells (vecC r) 24))
      replace B15 := Lib.hid (B15.out.alloc (.cells (vecC r) 24))
      generalize Y3.alloc (.cells (vecC r) 24) = Y4 at B15 B17 HF ⊢
      generalize Y3.heap.size = p17 at B17 ⊢
      go_wp2_with fail
      refine (KO.out _ _ _ HF.out.2.1).mono ?_
      rintro e Y5 ⟨rfl, hb⟩
      replace HF := Lib.hid (HF.out.below hb)
      replace B15 := Lib.hid (B15.out.below hb B15.out.lt)
      replace B17 := Lib.hid (B17.out.below hb B17.out.lt)
      clear hb
      go_upto_region 22 with (refine L_vstore_new (f := wZ) (.tmp 19) (.tmp 127) o rfl rfl ?_)
      have B19 : Hid (Blk (Y5.alloc (.cells (vecC o) 24)) Y5.heap.size 24 (vecC o)) := Blk.new _ _ _
      replace HF := Lib.hid (HF.out.alloc (.cells (vecC o) 24))
      replace B15 := Lib.hid (B15.out.alloc (.cells (vecC o) 24))
      replace B17 := Lib.hid (B17.out.alloc (.cells (vecC o) 24))
      generalize Y5.alloc (.cells (vecC o) 24) = Y6 at B15 B17 B19 HF ⊢
      generalize Y5.heap.size = p19 at B19 ⊢
      go_wp2_with fail
      refine (KS.out _ _ _ HF.out.2.1).mono ?_
      rintro e Y7 ⟨sa, sc, rfl, hr, hb⟩
      have HSR := Lib.hid hr
      replace HF := Lib.hid (HF.out.below hb)
      replace B15 := Lib.hid (B15.out.below hb B15.out.lt)
      replace B17 := Lib.hid (B17.out.below hb B17.out.lt)
      replace B19 := Lib.hid (B19.out.below hb B19.out.lt)
      clear hb hr
      go_wp2_with fail
      refine (KU.out _ _ _ HSR.out).mono ?_
      rintro e Y8 ⟨rfl, hb⟩
      replace HF := Lib.hid (HF.out.below hb)
      replace B15 := Lib.hid (B15.out.below hb B15.out.lt)
      replace B17 := Lib.hid (B17.out.below hb B17.out.lt)
      replace B19 := Lib.hid (B19.out.below hb B19.out.lt)
      clear hb HSR
      go_upto_region 23 with (refine L_vstore_new (f := wZ) (.tmp 21) (.tmp 134) o rfl rfl ?_)
      have B21 : Hid (Blk (Y8.alloc (.cells (vecC o) 24)) Y8.heap.size 24 (vecC o)) := Blk.new _ _ _
      replace HF := Lib.hid (HF.out.alloc (.cells (vecC o) 24))
      replace B15 := Lib.hid (B15.out.alloc (.cells (vecC o) 24))
      replace B17 := Lib.hid (B17.out.alloc (.cells (vecC o) 24))
      replace B19 := Lib.hid (B19.out.alloc (.cells (vecC o) 24))
      generalize Y8.alloc (.cells (vecC o) 24) = Y9 at B15 B17 B19 B21 HF ⊢
      generalize Y8.heap.size = p21 at B21 ⊢
      obtain ⟨c0, c1, c2, c3, c4, c5, c6, c7, c8⟩ := B15.out.c9
      obtain ⟨d0, d1, d2, d3, d4, d5, d6, d7, d8⟩ := B17.out.c9
      obtain ⟨e0, e1, e2, e3, e4, e5, e6, e7, e8⟩ := B19.out.c9
      obtain ⟨i0, i1, i2, i3, i4, i5, i6, i7, i8⟩ := B21.out.c9
      go_wp2_with fail
      refine (EqualId la a m _ m _ l l _ HF.out.2.1 (by have := HF.out.2.2.1.takeI m (by have := HMN.out.1; omega); rwa [← HMN.out.2] at this)).mono ?_
      rintro e V ⟨rfl, q, rfl⟩
      rw [allEqI_self]
      have HB9 := Lib.hid (HF.out.2.2.2.trans (below_drewN Y9 q))
      clear c0 c1 c2 c3 c4 c5 c6 c7 c8 d0 d1 d2 d3 d4 d5 d6 d7 d8 e0 e1 e2 e3 e4 e5 e6 e7 e8 i0 i1 i2 i3 i4 i5 i6 i7 i8
      go_wp2
      go_ret
      exact ⟨rfl, HB9.out⟩
set_option maxRecDepth 100000 in
set_option maxHeartbeats 4000000 in
theorem ids_false (f : Nat → Int) (hpf : posV f) (hok : okVec f = false) (a : Option Addr) (n c : Nat) (L l : List Idn) (m : Nat) (w : World) (hS : RowS encId 3 w a n L) (hnc : n ≤ c) (hm : m = min n 12) (hl : l = L.take m) :
    Calls Try.prog 6 #[vec f, .slice a n c] w (Ret (.bool true) w) := by
  have b0 := Lib.hid (Blk.new w 24 (vecC f))
  have HW : Hid (Below w.heap.size w (w.alloc (.cells (vecC f) 24))) := (Below.refl _ _).alloc (Nat.le_refl _) _
  have HS := Lib.hid hS
  have hmm : (min (n : Int) 12).toNat = m := by omega
  have hn0 : (0 : Int) ≤ min (n : Int) 12 := by omega
  have hnc' : min (n : Int) 12 ≤ (c : Int) := by omega
  have HMN := Lib.hid (And.intro hm hl)
  have KR : Hid (∀ W, Calls Try.prog 27 #[vec f] W (Ret (.bool false) W)) := fun W => by have := Right_any f W; rwa [hok] at this
  have KC : Hid (∀ W, Calls Try.prog 12 #[vec f] W (Ret (.int .i64 230) W)) := fun W => by first | exact Check_ok f hok W | exact Check_bad f hok W
  have HP := Lib.hid hpf
  have HOK := Lib.hid hok
  clear hS hm hl hpf hok
  go_enter Try.func6, Try.ntmps6
  unfold vec
  go_wp2_with fail
  refine (wakes_any _).mono ?_
  rintro e X ⟨rfl, hb⟩
  have Z0 := Lib.hid (b0.out.below hb b0.out.lt)
  have HB := Lib.hid (HW.out.trans (hb.mono HW.out.size))
  replace HS := Lib.hid ((HS.out.below HW.out).below hb)
  clear hb b0 HW
  go_wp2_with fail
  refine (CloneId a m c l X (by rw [HMN.out.2]; exact HS.out.takeI m (by have := HMN.out.1; omega)) (by rw [HMN.out.2, List.length_take]; have := HMN.out.1; omega)).mono ?_
  rintro e X1 ⟨la, lc, rfl, hr, hb⟩
  have HF : Hid (FrI X1 w w.heap.size f la m l a n L) := ⟨Z0.out.below hb Z0.out.lt, hr, HS.out.below hb, HB.out.trans (hb.mono HB.out.size)⟩
  clear hb hr Z0 HB HS
  obtain ⟨c0, c1, c2, c3, c4, c5, c6, c7, c8⟩ := HF.out.1.c9
  go_wp2_with fail
  refine (KR.out _).mono ?_
  rintro e X2 ⟨rfl, hb⟩
  replace HF := Lib.hid (HF.out.below hb)
  clear hb c0 c1 c2 c3 c4 c5 c6 c7 c8
  obtain ⟨c0, c1, c2, c3, c4, c5, c6, c7, c8⟩ := HF.out.1.c9
  go_wp2_with fail
  refine (KC.out _).mono ?_
  rintro e X3 ⟨rfl, hb⟩
  replace HF := Lib.hid (HF.out.below hb)
  clear hb c0 c1 c2 c3 c4 c5 c6 c7 c8
  go_wp2_with fail
  go_loopw [49] (fun i wr => ∃ k : Nat, k ≤ l.length ∧ i = .int .i64 k ∧ Below X3.heap.size X3 wr) (fun i _ => l.length - (intOf i).toNat)
  case atStart => exact ⟨0, Nat.zero_le _, rfl, Below.refl _ _⟩
  case round =>
    obtain ⟨k, hk, rfl, hBr⟩ := hrel
    have HBr := Lib.hid hBr
    have HML : Hid (m = l.length) := HF.out.2.1.1
    clear hBr
    by_cases hlt : k < l.length
    · obtain ⟨b, off, rfl, hbl, hv⟩ := HF.out.2.1.2.2.resolve_left (fun e => by rw [e] at hlt; simp at hlt)
      obtain ⟨x, hx⟩ : ∃ x, l[k]? = some x := ⟨_, List.getElem?_eq_getElem hlt⟩
      have x0 : wr.cell? ⟨b, off + k * 3, none⟩ = some (.int .u64 x.t) := (HBr.out.cell (p := ⟨b, off + k * 3, none⟩) hbl).trans (hv k x hx 0 _ rfl)
      have x1 : wr.cell? ⟨b, off + k * 3 + 1, none⟩ = some (.int .i64 x.s) := (HBr.out.cell (p := ⟨b, off + k * 3 + 1, none⟩) hbl).trans (hv k x hx 1 _ rfl)
      have x2 : wr.cell? ⟨b, off + k * 3 + 2, none⟩ = some (.int .u64 x.q) := (HBr.out.cell (p := ⟨b, off + k * 3 + 2, none⟩) hbl).trans (hv k x hx 2 _ rfl)
      have hkm : (k : Int) < (m : Int) := by have := HML.out; omega
      clear hv hx
      replace HF := Lib.hid ((HF.out.below HBr.out).alloc (.cells #[.int .u64 x.t, .int .i64 x.s, .int .u64 x.q] 38))
      have H9 := Lib.hid (Blk.new wr 38 #[.int .u64 x.t, .int .i64 x.s, .int .u64 x.q])
      replace HBr := Lib.hid (HBr.out.alloc HBr.out.size (.cells #[.int .u64 x.t, .int .i64 x.s, .int .u64 x.q] 38))
      obtain ⟨t, si, q⟩ := x
      simp only at x0 x1 x2 H9 HF HBr
      go_upto_region 11 with fail
      clear x0 x1 x2
      generalize wr.alloc (.cells #[.int .u64 t, .int .i64 si, .int .u64 q] 38) = V at H9 HF HBr ⊢
      generalize wr.heap.size = p9 at H9 ⊢
      have HB1 : Hid (hasB f t si q = false) := by show _ = _; simp [hasB, HOK.out]
      have HB2 : Hid (nextB f t si q = false) := by show _ = _; simp [nextB, HOK.out]
      have KH : Hid (∀ W, Calls Try.prog 15 #[vec f, idV t si q] W (Ret (.bool false) W)) := fun W => by have := Has_any f HP.out t si q W; rwa [HB1.out] at this
      have KN : Hid (∀ W, Calls Try.prog 16 #[vec f, idV t si q] W (Ret (.bool false) W)) := fun W => by have := Next_any f HP.out t si q W; rwa [HB2.out] at this
      obtain ⟨S, hS⟩ : ∃ S : World → Prop, S = fun Y => Below V.heap.size V Y := ⟨_, rfl⟩
      have HSd : Hid (∀ Y, S Y → Below V.heap.size V Y) := by intro Y hY; rw [hS] at hY; exact hY
      have HSf : Hid (∀ Y, S Y → Blk Y w.heap.size 24 (vecC f)) := fun Y hY => HF.out.1.below (HSd.out Y hY) HF.out.1.lt
      have HSx : Hid (∀ Y, S Y → Y.cell? ⟨p9, 0, none⟩ = some (.int .u64 t) ∧ Y.cell? ⟨p9, 1, none⟩ = some (.int .i64 si) ∧ Y.cell? ⟨p9, 2, none⟩ = some (.int .u64 q)) := fun Y hY => by
        have h := H9.out.below (HSd.out Y hY) H9.out.lt
        exact ⟨h.cell 0, h.cell 1, h.cell 2⟩
      have HSs : Hid (∀ Y, S Y → True) := fun Y hY => by first | trivial | exact ((HSf.out Y hY).cell s).trans (vecC_get f hs9)
      have HSn : Hid (∀ Y Y', S Y → Below Y.heap.size Y Y' → S Y') := by intro Y Y' hY hb; rw [hS] at hY ⊢; exact hY.trans (hb.mono hY.size)
      have hS0 : S V.drew := by rw [hS]; exact (Below.refl _ _).drew
      clear hS
      go_wp2_with fail
      refine wp_region_held_rel 30 S (fun k u Y => match k with | 2 => u = .bool false | 17 => u = .bool false | _ => True) rfl (by kernel_rfl) (by kernel_rfl) (by kernel_rfl) (fun _ _ _ _ _ h => h) hS0 ?_
      clear hS0
      simp only [List.take_succ_cons, List.take_zero, List.drop_succ_cons, List.drop_zero]
      repeat (first | (refine relSeq_on rfl (fun K hK w1 hS1 hD1 => ?_); obtain ⟨d0, d1, d2, d3, d4, d5, d6, d7, d8⟩ := (HSf.out w1 hS1).c9; obtain ⟨i0, i1, i2⟩ := HSx.out w1 hS1; have v0 := HSs.out w1 hS1; go_simp; refine ⟨⟨trivial, hS1, Below.refl _ _⟩, hK _ ?_⟩; clear hK hD1 d0 d1 d2 d3 d4 d5 d6 d7 d8 i0 i1 i2 v0 hS1 K w1) | (refine relSeq_off rfl (fun _ _ => trivial) (fun K hK => ?_); go_simp; refine hK _ ?_; clear hK K))
      refine relSeq_on rfl (fun K hK w1 hS1 hD1 => ?_)
      go_simp
      refine ⟨(KH.out w1).mono fun e w2 he => ⟨_, he.1, rfl, HSn.out _ _ hS1 he.2, he.2⟩, fun v hv => ?_⟩
      obtain ⟨_, _, hv⟩ := hv.out
      obtain rfl : v = .bool false := hv
      refine hK _ ?_
      clear hK hD1 hS1 K w1 hv
      repeat (first | (refine relSeq_on rfl (fun K hK w1 hS1 hD1 => ?_); obtain ⟨d0, d1, d2, d3, d4, d5, d6, d7, d8⟩ := (HSf.out w1 hS1).c9; obtain ⟨i0, i1, i2⟩ := HSx.out w1 hS1; have v0 := HSs.out w1 hS1; go_simp; refine ⟨⟨trivial, hS1, Below.refl _ _⟩, hK _ ?_⟩; clear hK hD1 d0 d1 d2 d3 d4 d5 d6 d7 d8 i0 i1 i2 v0 hS1 K w1) | (refine relSeq_off rfl (fun _ _ => trivial) (fun K hK => ?_); go_simp; refine hK _ ?_; clear hK K))
      refine relSeq_on rfl (fun K hK w1 hS1 hD1 => ?_)
      go_simp
      refine ⟨(KN.out w1).mono fun e w2 he => ⟨_, he.1, rfl, HSn.out _ _ hS1 he.2, he.2⟩, fun v hv => ?_⟩
      obtain ⟨_, _, hv⟩ := hv.out
      obtain rfl : v = .bool false := hv
      refine hK _ ?_
      clear hK hD1 hS1 K w1 hv
      repeat (first | (refine relSeq_on rfl (fun K hK w1 hS1 hD1 => ?_); obtain ⟨d0, d1, d2, d3, d4, d5, d6, d7, d8⟩ := (HSf.out w1 hS1).c9; obtain ⟨i0, i1, i2⟩ := HSx.out w1 hS1; have v0 := HSs.out w1 hS1; go_simp; refine ⟨⟨trivial, hS1, Below.refl _ _⟩, hK _ ?_⟩; clear hK hD1 d0 d1 d2 d3 d4 d5 d6 d7 d8 i0 i1 i2 v0 hS1 K w1) | (refine relSeq_off rfl (fun _ _ => trivial) (fun K hK => ?_); go_simp; refine hK _ ?_; clear hK K))
      refine relSeq_nil ?_
      intro listed w9 hS2 hF2 hl2
      replace HF := Lib.hid (HF.out.below (HSd.out w9 hS2))
      replace H9 := Lib.hid (H9.out.below (HSd.out w9 hS2) H9.out.lt)
      replace HBr := Lib.hid (HBr.out.trans ((HSd.out w9 hS2).mono HBr.out.size))
      clear hF2 hl2 HSd HSf HSx HSs HSn hS2 KH KN
      obtain ⟨d0, d1, d2, d3, d4, d5, d6, d7, d8⟩ := HF.out.1.c9
      have i0 := H9.out.cell 0
      have i1 := H9.out.cell 1
      have i2 := H9.out.cell 2
      simp at i0 i1 i2
      go_wp2_with fail
      have KW : Hid (∀ W a c, RowS encId 3 W a 1 [⟨t, si, q⟩] → Calls Try.prog 17 #[vec f, .slice a 1 c] W (Ret (.tuple #[vec (withV f [⟨t, si, q⟩]).2, .int .i64 (withV f [⟨t, si, q⟩]).1]) W)) := fun W a c h => With_any f HP.out a 1 c _ W (IdSl_of h (by simp))
      have KV : Hid (∀ W a c, RowS encId 3 W a 1 [⟨t, si, q⟩] → Calls Try.prog 29 #[vec f, .slice a 1 c] W (Ret (.tuple #[vec (withV f [⟨t, si, q⟩]).2, .int .i64 (withV f [⟨t, si, q⟩]).1]) W)) := fun W a c h => RWith_any f HP.out a 1 c _ W h
      generalize (withV f [⟨t, si, q⟩]).2 = r at KW KV
      generalize (withV f [⟨t, si, q⟩]).1 = e0 at KW KV
      have R1 := Lib.hid (RowS_one w9 t si q)
      have HBA : Hid (Below w9.heap.size w9 (w9.alloc (.cells #[.int .u64 t, .int .i64 si, .int .u64 q] 38))) := (Below.refl _ _).alloc (Nat.le_refl _) _
      refine (KW.out _ _ _ R1.out).mono ?_
      rintro e Y1 ⟨rfl, hb⟩
      have hby : Below w9.heap.size w9 Y1 := HBA.out.trans (hb.mono HBA.out.size)
      replace HF := Lib.hid (HF.out.below hby)
      replace H9 := Lib.hid (H9.out.below hby H9.out.lt)
      replace HBr := Lib.hid (HBr.out.trans (hby.mono HBr.out.size))
      clear hb hby HBA R1 d0 d1 d2 d3 d4 d5 d6 d7 d8 i0 i1 i2
      go_upto_region 15 with (refine L_vstore_new (f := wZ) (.tmp 11) (.tmp 94) r rfl rfl ?_)
      have B11 : Hid (Blk (Y1.alloc (.cells (vecC r) 24)) Y1.heap.size 24 (vecC r)) := Blk.new _ _ _
      have hby : Below Y1.heap.size Y1 (Y1.alloc (.cells (vecC r) 24)) := (Below.refl _ _).alloc (Nat.le_refl _) _
      replace HF := Lib.hid (HF.out.below hby)
      replace H9 := Lib.hid (H9.out.below hby H9.out.lt)
      replace HBr := Lib.hid (HBr.out.trans (hby.mono HBr.out.size))
      clear hby
      generalize Y1.alloc (.cells (vecC r) 24) = Y2 at B11 HF H9 HBr ⊢
      generalize Y1.heap.size = p11 at B11 ⊢
      obtain ⟨d0, d1, d2, d3, d4, d5, d6, d7, d8⟩ := HF.out.1.c9
      have i0 := H9.out.cell 0
      have i1 := H9.out.cell 1
      have i2 := H9.out.cell 2
      simp at i0 i1 i2
      go_wp2_with fail
      have R1 := Lib.hid (RowS_one Y2 t si q)
      have HBA : Hid (Below Y2.heap.size Y2 (Y2.alloc (.cells #[.int .u64 t, .int .i64 si, .int .u64 q] 38))) := (Below.refl _ _).alloc (Nat.le_refl _) _
      refine (KV.out _ _ _ R1.out).mono ?_
      rintro e Y3 ⟨rfl, hb⟩
      have hby : Below Y2.heap.size Y2 Y3 := HBA.out.trans (hb.mono HBA.out.size)
      replace B11 := Lib.hid (B11.out.below hby B11.out.lt)
      replace HBr := Lib.hid (HBr.out.trans (hby.mono HBr.out.size))
      clear hb hby HBA R1 d0 d1 d2 d3 d4 d5 d6 d7 d8 i0 i1 i2 H9
      go_upto_region 16 with (refine L_vstore_new (f := wZ) (.tmp 13) (.tmp 101) r rfl rfl ?_)
      have B13 : Hid (Blk (Y3.alloc (.cells (vecC r) 24)) Y3.heap.size 24 (vecC r)) := Blk.new _ _ _
      have hby : Below Y3.heap.size Y3 (Y3.alloc (.cells (vecC r) 24)) := (Below.refl _ _).alloc (Nat.le_refl _) _
      replace B11 := Lib.hid (B11.out.below hby B11.out.lt)
      replace HBr := Lib.hid (HBr.out.trans (hby.mono HBr.out.size))
      clear hby
      generalize Y3.alloc (.cells (vecC r) 24) = Y4 at B11 B13 HBr ⊢
      generalize Y3.heap.size = p13 at B13 ⊢
      obtain ⟨d0, d1, d2, d3, d4, d5, d6, d7, d8⟩ := B11.out.c9
      obtain ⟨c0, c1, c2, c3, c4, c5, c6, c7, c8⟩ := B13.out.c9
      clear HF
      go_wp2_with fail
      go_roundw
      case rel => exact ⟨k + 1, by omega, by go_num, HBr.out⟩
      case measure => simp [intOf]; omega
    · have hkm : ¬ (k : Int) < (m : Int) := by have := HML.out; omega
      have hm0 : (0 : Int) ≤ (m : Int) := by omega
      have hmc : (m : Int) ≤ (c : Int) := by have := HMN.out.1; omega
      have hm12 : l.length ≤ 1000 := by have := HMN.out.1; have := HML.out; omega
      replace HF := Lib.hid (HF.out.below HBr.out)
      clear HBr
      have KW : Hid (∀ W a c, RowS encId 3 W a m l → Calls Try.prog 17 #[vec f, .slice a m c] W (Ret (.tuple #[vec (withV f l).2, .int .i64 (withV f l).1]) W)) := fun W a c h => With_any f HP.out a m c _ W (IdSl_of h hm12)
      have KV : Hid (∀ W a c, RowS encId 3 W a m l → Calls Try.prog 29 #[vec f, .slice a m c] W (Ret (.tuple #[vec (withV f l).2, .int .i64 (withV f l).1]) W)) := fun W a c h => RWith_any f HP.out a m c _ W h
      have KO : Hid (∀ W a c, RowS encId 3 W a m l → Calls Try.prog 30 #[.slice a m c] W (Ret (.tuple #[vec (withV wZ (sortIds l)).2, .int .i64 (withV wZ (sortIds l)).1]) W)) := fun W a c h => Of_any a m c l W h hm12
      have KS : Hid (∀ W a c, RowS encId 3 W a m l → Calls Try.prog 31 #[.slice a m c] W fun e W' => ∃ a' c', e = .returned (.slice a' m c') ∧ RowS encId 3 W' a' m (sortIds l) ∧ Below W.heap.size W W') := fun W a c h => (RSorted_any a m c l W h hm12).mono fun e W' ⟨v, he, ho, hb⟩ => by
        have hl : (sortIds l).length = m := by rw [sortIds_length]; exact HML.out.symm
        rw [rsort_eq] at ho
        rw [← hl] at ho
        obtain ⟨a', c', rfl, hr⟩ := rowS_of_own (enc := encId) (k := 3) (fun _ => rfl) ho
        rw [hl] at hr he
        exact ⟨a', c', he, hr, hb⟩
      have KU : Hid (∀ W a c, RowS encId 3 W a m (sortIds l) → Calls Try.prog 29 #[vec wZ, .slice a m c] W (Ret (.tuple #[vec (withV wZ (sortIds l)).2, .int .i64 (withV wZ (sortIds l)).1]) W)) := fun W a c h => RWith_any wZ posV_wZ a m c _ W h
      generalize (withV f l).2 = r at KW KV
      generalize (withV f l).1 = e0 at KW KV
      generalize (withV wZ (sortIds l)).2 = o at KO KU
      generalize (withV wZ (sortIds l)).1 = e1 at KO KU
      generalize sortIds l = sl at KS KU
      obtain ⟨c0, c1, c2, c3, c4, c5, c6, c7, c8⟩ := HF.out.1.c9
      go_wp2_with fail
      refine (KW.out _ _ _ HF.out.2.1).mono ?_
      rintro e Y1 ⟨rfl, hb⟩
      replace HF := Lib.hid (HF.out.below hb)
      clear hb c0 c1 c2 c3 c4 c5 c6 c7 c8
      go_upto_region 20 with (refine L_vstore_new (f := wZ) (.tmp 15) (.tmp 116) r rfl rfl ?_)
      have B15 : Hid (Blk (Y1.alloc (.cells (vecC r) 24)) Y1.heap.size 24 (vecC r)) := Blk.new _ _ _
      replace HF := Lib.hid (HF.out.alloc (.cells (vecC r) 24))
      generalize Y1.alloc (.cells (vecC r) 24) = Y2 at B15 HF ⊢
      generalize Y1.heap.size = p15 at B15 ⊢
      obtain ⟨c0, c1, c2, c3, c4, c5, c6, c7, c8⟩ := HF.out.1.c9
      go_wp2_with fail
      refine (KV.out _ _ _ HF.out.2.1).mono ?_
      rintro e Y3 ⟨rfl, hb⟩
      replace HF := Lib.hid (HF.out.below hb)
      replace B15 := Lib.hid (B15.out.below hb B15.out.lt)
      clear hb c0 c1 c2 c3 c4 c5 c6 c7 c8
      go_upto_region 21 with (refine L_vstore_new (f := wZ) (.tmp 17) (.tmp 122) r rfl rfl ?_)
      have B17 : Hid (Blk (Y3.alloc (.cells (vecC r) 24)) Y3.heap.size 24 (vecC r)) := Blk.new _ _ _
      replace HF := Lib.hid (HF.out.alloc (.cells (vecC r) 24))
      replace B15 := Lib.hid (B15.out.alloc (.cells (vecC r) 24))
      generalize Y3.alloc (.cells (vecC r) 24) = Y4 at B15 B17 HF ⊢
      generalize Y3.heap.size = p17 at B17 ⊢
      go_wp2_with fail
      refine (KO.out _ _ _ HF.out.2.1).mono ?_
      rintro e Y5 ⟨rfl, hb⟩
      replace HF := Lib.hid (HF.out.below hb)
      replace B15 := Lib.hid (B15.out.below hb B15.out.lt)
      replace B17 := Lib.hid (B17.out.below hb B17.out.lt)
      clear hb
      go_upto_region 22 with (refine L_vstore_new (f := wZ) (.tmp 19) (.tmp 127) o rfl rfl ?_)
      have B19 : Hid (Blk (Y5.alloc (.cells (vecC o) 24)) Y5.heap.size 24 (vecC o)) := Blk.new _ _ _
      replace HF := Lib.hid (HF.out.alloc (.cells (vecC o) 24))
      replace B15 := Lib.hid (B15.out.alloc (.cells (vecC o) 24))
      replace B17 := Lib.hid (B17.out.alloc (.cells (vecC o) 24))
      generalize Y5.alloc (.cells (vecC o) 24) = Y6 at B15 B17 B19 HF ⊢
      generalize Y5.heap.size = p19 at B19 ⊢
      go_wp2_with fail
      refine (KS.out _ _ _ HF.out.2.1).mono ?_
      rintro e Y7 ⟨sa, sc, rfl, hr, hb⟩
      have HSR := Lib.hid hr
      replace HF := Lib.hid (HF.out.below hb)
      replace B15 := Lib.hid (B15.out.below hb B15.out.lt)
      replace B17 := Lib.hid (B17.out.below hb B17.out.lt)
      replace B19 := Lib.hid (B19.out.below hb B19.out.lt)
      clear hb hr
      go_wp2_with fail
      refine (KU.out _ _ _ HSR.out).mono ?_
      rintro e Y8 ⟨rfl, hb⟩
      replace HF := Lib.hid (HF.out.below hb)
      replace B15 := Lib.hid (B15.out.below hb B15.out.lt)
      replace B17 := Lib.hid (B17.out.below hb B17.out.lt)
      replace B19 := Lib.hid (B19.out.below hb B19.out.lt)
      clear hb HSR
      go_upto_region 23 with (refine L_vstore_new (f := wZ) (.tmp 21) (.tmp 134) o rfl rfl ?_)
      have B21 : Hid (Blk (Y8.alloc (.cells (vecC o) 24)) Y8.heap.size 24 (vecC o)) := Blk.new _ _ _
      replace HF := Lib.hid (HF.out.alloc (.cells (vecC o) 24))
      replace B15 := Lib.hid (B15.out.alloc (.cells (vecC o) 24))
      replace B17 := Lib.hid (B17.out.alloc (.cells (vecC o) 24))
      replace B19 := Lib.hid (B19.out.alloc (.cells (vecC o) 24))
      generalize Y8.alloc (.cells (vecC o) 24) = Y9 at B15 B17 B19 B21 HF ⊢
      generalize Y8.heap.size = p21 at B21 ⊢
      obtain ⟨c0, c1, c2, c3, c4, c5, c6, c7, c8⟩ := B15.out.c9
      obtain ⟨d0, d1, d2, d3, d4, d5, d6, d7, d8⟩ := B17.out.c9
      obtain ⟨e0, e1, e2, e3, e4, e5, e6, e7, e8⟩ := B19.out.c9
      obtain ⟨i0, i1, i2, i3, i4, i5, i6, i7, i8⟩ := B21.out.c9
      go_wp2_with fail
      refine (EqualId la a m _ m _ l l _ HF.out.2.1 (by have := HF.out.2.2.1.takeI m (by have := HMN.out.1; omega); rwa [← HMN.out.2] at this)).mono ?_
      rintro e V ⟨rfl, q, rfl⟩
      rw [allEqI_self]
      have HB9 := Lib.hid (HF.out.2.2.2.trans (below_drewN Y9 q))
      clear c0 c1 c2 c3 c4 c5 c6 c7 c8 d0 d1 d2 d3 d4 d5 d6 d7 d8 e0 e1 e2 e3 e4 e5 e6 e7 e8 i0 i1 i2 i3 i4 i5 i6 i7 i8
      go_wp2
      go_ret
      exact ⟨rfl, HB9.out⟩
end Go.Proofs.Ytoiaecfiinkmjaa
