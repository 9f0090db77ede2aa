/- gessoref13.With: its contract. -/
import Derived.Test.YtoiaecfiinkmjaaRefRight
import Derived.Test.YtoiaecfiinkmjaaRef11S
namespace Go.Proofs.Ytoiaecfiinkmjaa
open Go.RowKit Go.Shelf

set_option maxRecDepth 100000 in
set_option maxHeartbeats 2000000 in
theorem RWith_bad (f : Nat → Int) (hf : okVec f = false) (a : Option Addr) (n c : Nat) (w : World) :
    Calls Try.prog 29 #[vec f, .slice a n c] w (Ret (.tuple #[vec fun _ => 0, .int .i64 230]) w) := by
  have hr := fun W => Right_any f W
  rw [hf] at hr
  have HRt := Lib.hid hr
  clear hr
  go_enter Try.func29, Try.ntmps29
  unfold vec
  go_wp2_with fail
  refine (HRt.out _).mono ?_
  rintro e W ⟨rfl, hb⟩
  have HR2 : Hid (Blk W (w.heap.size + 1) 24 (vecC fun _ => 0)) := by
    have h := Blk.new (w.alloc (.cells (vecC f) 24)) 24 (vecC fun _ => 0)
    rw [World.size_alloc] at h
    exact h.below hb (by simp)
  have HB : Hid (Below w.heap.size w W) := Below.trans (by go_grown) (hb.mono (by simp; omega))
  clear hb
  go_wp2_with (refine L_vstore (.tmp 4) (.tmp 11) (fun _ => 0) rfl rfl HR2.out ?_; unfold vecC)
  refine bodyPost_ret (v := .tuple #[vec fun _ => 0, .int .i64 230]) (results_ct rfl _ _ rfl (HR2.out.row (vecC fun _ => 0)).vload rfl) rfl ?_
  exact ⟨rfl, below_setRow HB.out (by omega) _⟩

set_option maxRecDepth 100000 in
set_option maxHeartbeats 4000000 in
theorem RWith_ok (f : Nat → Int) (hp : posV f) (hok : okVec f = true) (a : Option Addr) (n c : Nat) (L : List Idn) (w : World) (hS : RowS encId 3 w a n L) :
    Calls Try.prog 29 #[vec f, .slice a n c] w (Ret (.tuple #[vec (withS f L).2, .int .i64 (withS f L).1]) w) := by
  obtain ⟨rfl, hbig, hL⟩ := hS
  have HL := Lib.hid hL
  have hr := fun W => Right_any f W
  rw [hok] at hr
  have HRt := Lib.hid hr
  clear hr hL
  go_enter Try.func29, Try.ntmps29
  unfold vec
  go_wp2_with fail
  refine (HRt.out _).mono ?_
  rintro e W ⟨rfl, hb⟩
  have HH : Hid (Blk W w.heap.size 24 (vecC f)) := ((Blk.new w 24 (vecC f)).alloc (.cells (vecC fun _ => 0) 24)).below hb (by simp; omega)
  have HR2 : Hid (Blk W (w.heap.size + 1) 24 (vecC fun _ => 0)) := by
    have h := Blk.new (w.alloc (.cells (vecC f) 24)) 24 (vecC fun _ => 0)
    rw [World.size_alloc] at h
    exact h.below hb (by simp)
  have HB : Hid (Below w.heap.size w W) := Below.trans (by go_grown) (hb.mono (by simp; omega))
  clear hb HRt
  go_wp2_with fail
  go_loopw [14] (fun i wr => ∃ (k : Nat) (fk : Nat → Int), k ≤ L.length ∧ i = .int .i64 k ∧ posV fk ∧ okVec fk = true ∧ withS f L = withS fk (L.drop k) ∧ Blk wr w.heap.size 24 (vecC fk) ∧ Blk wr (w.heap.size + 1) 24 (vecC fun _ => 0) ∧ Below w.heap.size w wr) (fun i _ => L.length - (intOf i).toNat)
  case atStart => exact ⟨0, f, Nat.zero_le _, rfl, hp, hok, rfl, HH.out, HR2.out, HB.out⟩
  case round =>
    obtain ⟨k, fk, hk, rfl, hpk, hokk, hwk, hh, hr, hB⟩ := hrel
    clear HH HR2 HB
    by_cases hlt : k < L.length
    · obtain ⟨b, off, rfl, hbl, hv⟩ := HL.out.resolve_left (fun e => by rw [e] at hlt; simp at hlt)
      obtain ⟨x, hx⟩ : ∃ x, L[k]? = some x := ⟨_, List.getElem?_eq_getElem hlt⟩
      have x0 : wr.cell? ⟨b, off + k * 3, none⟩ = some (.int .u64 x.t) := (hB.cell (p := ⟨b, off + k * 3, none⟩) hbl).trans (hv k x hx 0 _ rfl)
      have x1 : wr.cell? ⟨b, off + k * 3 + 1, none⟩ = some (.int .i64 x.s) := (hB.cell (p := ⟨b, off + k * 3 + 1, none⟩) hbl).trans (hv k x hx 1 _ rfl)
      have x2 : wr.cell? ⟨b, off + k * 3 + 2, none⟩ = some (.int .u64 x.q) := (hB.cell (p := ⟨b, off + k * 3 + 2, none⟩) hbl).trans (hv k x hx 2 _ rfl)
      have hW : withS f L = withS fk (x :: L.drop (k + 1)) := by
        rw [hwk, List.drop_eq_getElem_cons hlt]
        have : L[k] = x := (List.getElem?_eq_some_iff.1 hx).2
        rw [this]
      have HW := Lib.hid hW
      have hi := fun W => RId_any x.t x.s x.q W
      clear hwk hW hv hx
      cases hid : okId x.t x.s x.q with
      | false =>
        rw [hid] at hi
        have HI := Lib.hid hi
        have hRes : withS f L = (210, fun _ => 0) := by rw [HW.out]; simp [withS, Idn.ok, hid]
        have HRes := Lib.hid hRes
        have HR1 := Lib.hid (hr.alloc (.cells #[.int .u64 x.t, .int .i64 x.s, .int .u64 x.q] 38))
        have HB1 := Lib.hid (hB.alloc hB.size (.cells #[.int .u64 x.t, .int .i64 x.s, .int .u64 x.q] 38))
        clear hid hi hRes hr hB hh HW
        go_wp2_with fail
        refine (HI.out _).mono ?_
        rintro e W2 ⟨rfl, hb2⟩
        have HR2 := Lib.hid (HR1.out.below hb2 HR1.out.lt)
        have HB2 := Lib.hid (HB1.out.trans (hb2.mono HB1.out.size))
        clear hb2 HR1 HB1 HI
        go_wp2_with (refine L_vstore (.tmp 4) (.tmp 22) (fun _ => 0) rfl rfl HR2.out ?_; unfold vecC)
        refine bodyPost_ret (v := .tuple #[vec fun _ => 0, .int .i64 210]) (results_ct rfl _ _ rfl (HR2.out.row (vecC fun _ => 0)).vload rfl) rfl ?_
        rw [HRes.out]
        exact ⟨rfl, below_setRow HB2.out (by omega) _⟩
      | true =>
        rw [hid] at hi
        have HI := Lib.hid hi
        have h8 := (okId_iff x.t x.s x.q).1 hid
        obtain ⟨s, hs⟩ : ∃ s : Nat, x.s = s := ⟨x.s.toNat, by omega⟩
        have hs9 : s < 9 := by omega
        have hs0 : (0 : Int) ≤ (s : Int) := by omega
        have hs1 : (s : Int) < 9 := by omega
        have hfs := okVec_le hokk hs9
        have hfp := hpk s
        have hw1 : IntKind.u64.wrap (fk s + 1) = fk s + 1 := IntWalk.u64_in _ (by unfold maxT at hfs; omega)
        have HW1 := Lib.hid hw1
        rw [hs] at hi x1 HI
        have HH1 := Lib.hid (hh.alloc (.cells #[.int .u64 x.t, .int .i64 s, .int .u64 x.q] 38))
        have HR1 := Lib.hid (hr.alloc (.cells #[.int .u64 x.t, .int .i64 s, .int .u64 x.q] 38))
        have HB1 := Lib.hid (hB.alloc hB.size (.cells #[.int .u64 x.t, .int .i64 s, .int .u64 x.q] 38))
        have HX := Lib.hid (Blk.new wr 38 #[.int .u64 x.t, .int .i64 s, .int .u64 x.q])
        have HS1 := Lib.hid hs
        have hids : okId x.t s x.q = true := by rw [← hs]; exact hid
        have HID := Lib.hid hids
        clear hids
        have HBs := Lib.hid hB.size
        clear hi h8 hr hB hh hs hid hw1 hfp hfs
        go_wp2_with fail
        refine (HI.out _).mono ?_
        rintro e W2 ⟨rfl, hb2⟩
        have HH2 := Lib.hid (HH1.out.below hb2 HH1.out.lt)
        have HR2 := Lib.hid (HR1.out.below hb2 HR1.out.lt)
        have HB2 := Lib.hid (HB1.out.trans (hb2.mono HB1.out.size))
        have HX2 := Lib.hid (HX.out.below hb2 HX.out.lt)
        clear hb2 HR1 HB1 HI HH1 HX x0 x1 x2
        have i0 := HX2.out.cell 0
        have i1 := HX2.out.cell 1
        have i2 := HX2.out.cell 2
        have v0 := (HH2.out.cell s).trans (vecC_get fk hs9)
        simp at i0 i1 i2
        have hw1 := HW1.out
        by_cases h1 : x.q ≤ fk s
        · have hd1 : decide (x.q ≤ fk s) = true := by simpa using h1
          have hRes : withS f L = (5, fun _ => 0) := by rw [HW.out]; simp [withS, Idn.ok, HID.out, HS1.out, h1]
          have HRes := Lib.hid hRes
          clear hRes h1
          go_wp2_with fail
          refine wp_region_still_tail 7 (by kernel_rfl) (by kernel_rfl) ?_
          simp only [List.take_succ_cons, List.take_zero, List.drop_succ_cons, List.drop_zero]
          repeat still_step
          refine wpStill_nil ?_
          change wpList _ _ _ _ _ (World.drew _)
          replace HR2 := Lib.hid HR2.out.drew
          replace HB2 := Lib.hid HB2.out.drew
          go_wp2_with (refine L_vstore (.tmp 4) (.tmp 31) (fun _ => 0) rfl rfl HR2.out ?_; unfold vecC)
          refine bodyPost_ret (v := .tuple #[vec fun _ => 0, .int .i64 5]) (results_ct rfl _ _ rfl (HR2.out.row (vecC fun _ => 0)).vload rfl) rfl ?_
          rw [HRes.out]
          exact ⟨rfl, below_setRow HB2.out (by omega) _⟩
        · have hd1 : decide (x.q ≤ fk s) = false := by simpa using h1
          by_cases h2 : fk s + 1 < x.q
          · have hd2 : decide (fk s + 1 < x.q) = true := by simpa using h2
            have hRes : withS f L = (231, fun _ => 0) := by
              have h3 : ¬ x.q = fk s + 1 := by omega
              rw [HW.out]; simp [withS, Idn.ok, HID.out, HS1.out, h1, h3]
            have HRes := Lib.hid hRes
            clear hRes h1 h2
            go_wp2_with fail
            refine wp_region_still_tail 7 (by kernel_rfl) (by kernel_rfl) ?_
            simp only [List.take_succ_cons, List.take_zero, List.drop_succ_cons, List.drop_zero]
            repeat still_step
            refine wpStill_nil ?_
            change wpList _ _ _ _ _ (World.drew _)
            have HH3 := Lib.hid HH2.out.drew
            have HR3 := Lib.hid HR2.out.drew
            have HB3 := Lib.hid HB2.out.drew
            have HX3 := Lib.hid HX2.out.drew
            clear HH2 HR2 HB2 HX2 i0 i1 i2 v0
            generalize W2.drew = W3 at HH3 HR3 HB3 HX3 ⊢
            have i0 := HX3.out.cell 0
            have i1 := HX3.out.cell 1
            have i2 := HX3.out.cell 2
            have v0 := (HH3.out.cell s).trans (vecC_get fk hs9)
            simp at i0 i1 i2
            go_wp2_with fail
            refine wp_region_still_tail 8 (by kernel_rfl) (by kernel_rfl) ?_
            simp only [List.take_succ_cons, List.take_zero, List.drop_succ_cons, List.drop_zero]
            repeat still_step
            refine wpStill_nil ?_
            change wpList _ _ _ _ _ (World.drew _)
            have HR2 := Lib.hid HR3.out.drew
            have HB2 := Lib.hid HB3.out.drew
            go_wp2_with (refine L_vstore (.tmp 4) (.tmp 41) (fun _ => 0) rfl rfl HR2.out ?_; unfold vecC)
            refine bodyPost_ret (v := .tuple #[vec fun _ => 0, .int .i64 231]) (results_ct rfl _ _ rfl (HR2.out.row (vecC fun _ => 0)).vload rfl) rfl ?_
            rw [HRes.out]
            exact ⟨rfl, below_setRow HB2.out (by omega) _⟩
          · have hd2 : decide (fk s + 1 < x.q) = false := by simpa using h2
            have he : x.q = fk s + 1 := by omega
            have hWn : withS f L = withS (upd fk s) (L.drop (k + 1)) := by
              have h4 : ¬ fk s + 1 ≤ fk s := by omega
              have h5 := HID.out
              rw [he] at h5
              rw [HW.out]; simp [withS, Idn.ok, h5, HS1.out, he, h4]
            have HWn := Lib.hid hWn
            have HP2 := Lib.hid (upd_pos hpk s)
            have HO2 := Lib.hid (upd_ok hokk (t := x.t) (q := x.q) (s := s) (by exact HID.out) he)
            have HE := Lib.hid he
            clear hWn he h1 h2 HW
            go_wp2_with fail
            refine wp_region_still_tail 7 (by kernel_rfl) (by kernel_rfl) ?_
            simp only [List.take_succ_cons, List.take_zero, List.drop_succ_cons, List.drop_zero]
            repeat still_step
            refine wpStill_nil ?_
            change wpList _ _ _ _ _ (World.drew _)
            have HH3 := Lib.hid HH2.out.drew
            have HR3 := Lib.hid HR2.out.drew
            have HB3 := Lib.hid HB2.out.drew
            have HX3 := Lib.hid HX2.out.drew
            clear HH2 HR2 HB2 HX2 i0 i1 i2 v0
            generalize W2.drew = W3 at HH3 HR3 HB3 HX3 ⊢
            have i0 := HX3.out.cell 0
            have i1 := HX3.out.cell 1
            have i2 := HX3.out.cell 2
            have v0 := (HH3.out.cell s).trans (vecC_get fk hs9)
            simp at i0 i1 i2
            have hf := HH3.out.frozen s
            go_wp2_with fail
            refine wp_region_still_tail 8 (by kernel_rfl) (by kernel_rfl) ?_
            simp only [List.take_succ_cons, List.take_zero, List.drop_succ_cons, List.drop_zero]
            repeat still_step
            refine wpStill_nil ?_
            change wpList _ _ _ _ _ (World.drew _)
            go_wp2_with fail
            go_roundw
            case rel =>
              refine ⟨k + 1, upd fk s, by omega, by go_num, HP2.out, HO2.out, HWn.out, ?_, ?_, ?_⟩
              · have h := HH3.out.drew.set s (.int .u64 x.q)
                rw [vecC_set _ hs9, show (fun j => if j = s then x.q else fk j) = upd fk s by funext j; unfold upd; rw [HE.out]] at h
                exact h
              · exact HR3.out.drew.set_other (by simp) _
              · exact HB3.out.drew.setCell (by simp) _
            case measure => simp [intOf]; omega
    · have hdrop : L.drop k = [] := List.drop_of_length_le (by omega)
      rw [hdrop] at hwk
      have HW := Lib.hid hwk
      have HH := Lib.hid hh
      have HR2 := Lib.hid hr
      have HB := Lib.hid hB
      clear hdrop hwk hh hr hB
      go_wp2_with (first | (refine L_vload 48 (.tmp 2) rfl HH.out ?_) | (refine L_vstore (.tmp 4) (.tmp 48) fk rfl rfl HR2.out ?_))
      refine bodyPost_ret (v := .tuple #[vec fk, .int .i64 0]) (results_ct rfl _ _ rfl (HR2.out.row (vecC fk)).vload rfl) rfl ?_
      rw [HW.out]
      exact ⟨rfl, below_setRow HB.out (by omega) _⟩

theorem RWith_any (f : Nat → Int) (hp : posV f) (a : Option Addr) (n c : Nat) (L : List Idn) (w : World) (hS : RowS encId 3 w a n L) :
    Calls Try.prog 29 #[vec f, .slice a n c] w (Ret (.tuple #[vec (withV f L).2, .int .i64 (withV f L).1]) w) := by
  cases hok : okVec f with
  | true => rw [show withV f L = withS f L by simp [withV, hok]]; exact RWith_ok f hp hok a n c L w hS
  | false => rw [show withV f L = (230, fun _ => 0) by simp [withV, hok]]; exact RWith_bad f hok a n c w
end Go.Proofs.Ytoiaecfiinkmjaa
