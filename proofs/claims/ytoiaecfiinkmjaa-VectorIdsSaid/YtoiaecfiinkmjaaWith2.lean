/- vector.With: its contract. -/
import Derived.Test.YtoiaecfiinkmjaaWith
namespace Go.Proofs.Ytoiaecfiinkmjaa
open Go.RowKit Go.Shelf

/-- an id as three numbers. -/
structure Idn where
  t : Int
  s : Int
  q : Int
def Idn.ok (i : Idn) : Bool := okId i.t i.s i.q
abbrev Idn.val (i : Idn) : Value := idV i.t i.s i.q
/-- ids that are taken one by one: the error of the first that can't be, and the vector. -/
def withS (f : Nat → Int) : List Idn → Int × (Nat → Int)
  | [] => (0, f)
  | i :: l => if i.ok = false then (210, fun _ => 0) else if i.q ≤ f i.s.toNat then (5, fun _ => 0) else if i.q = f i.s.toNat + 1 then withS (upd f i.s.toNat) l else (231, fun _ => 0)

/-- the ids of a row in memory. -/
def IdsM (W : World) (b off : Nat) (L : List Idn) : Prop := ∀ k i, L[k]? = some i → W.cell? ⟨b, off + k * 3, none⟩ = some (.int .u64 i.t) ∧ W.cell? ⟨b, off + k * 3 + 1, none⟩ = some (.int .i64 i.s) ∧ W.cell? ⟨b, off + k * 3 + 2, none⟩ = some (.int .u64 i.q)
/-- a row of ids in memory, as a slice's parts. -/
def IdSl (W : World) (a : Option Addr) (n : Nat) (L : List Idn) : Prop := n = L.length ∧ L.length ≤ 46912496118442 ∧ (L = [] ∨ ∃ b off, a = some ⟨b, off, none⟩ ∧ b < W.heap.size ∧ IdsM W b off L)
theorem IdSl.below {W W' : World} {a : Option Addr} {n : Nat} {L : List Idn} (h : IdSl W a n L) (hb : Below W.heap.size W W') : IdSl W' a n L := by
  obtain ⟨h1, h2, h | ⟨b, off, ha, hlt, hv⟩⟩ := h
  · exact ⟨h1, h2, .inl h⟩
  · refine ⟨h1, h2, .inr ⟨b, off, ha, Nat.lt_of_lt_of_le hlt hb.size, fun k i hi => ?_⟩⟩
    obtain ⟨c0, c1, c2⟩ := hv k i hi
    exact ⟨(hb.cell (p := ⟨b, off + k * 3, none⟩) hlt).trans c0, (hb.cell (p := ⟨b, off + k * 3 + 1, none⟩) hlt).trans c1, (hb.cell (p := ⟨b, off + k * 3 + 2, none⟩) hlt).trans c2⟩

theorem upd_pos {f : Nat → Int} (h : posV f) (s : Nat) : posV (upd f s) := fun k => by
  unfold upd; split
  · have := h s; omega
  · exact h k
theorem upd_ok {f : Nat → Int} (h : okVec f = true) {t q : Int} {s : Nat} (hid : okId t s q = true) (hq : q = f s + 1) : okVec (upd f s) = true := by
  have hi := (okId_iff t s q).1 hid
  obtain ⟨h0, h1⟩ := (okVec_iff f).1 h
  refine (okVec_iff _).2 ⟨by unfold upd; rw [if_neg (by omega)]; exact h0, fun k a b => ?_⟩
  unfold upd
  split
  · omega
  · exact h1 k a b

/-- what take comes to, whatever the id. -/
theorem take_any (h : Nat) (T : TypeId) (f : Nat → Int) (hp : posV f) (hok : okVec f = true) (i : Idn) (w : World) (hh : Blk w h T (vecC f)) :
    Calls Try.prog 44 #[.pointer (some ⟨h, 0, none⟩), i.val] w fun e w' =>
      (i.ok = true ∧ i.q = f i.s.toNat + 1 ∧ e = .returned (.tuple #[]) ∧ Below h w w' ∧ Blk w' h T (vecC (upd f i.s.toNat))) ∨
      (i.ok = false ∧ Panics 210 w e w') ∨ (i.ok = true ∧ i.q ≤ f i.s.toNat ∧ Panics 5 w e w') ∨ (i.ok = true ∧ f i.s.toNat + 1 < i.q ∧ Panics 231 w e w') := by
  obtain ⟨t, s, q⟩ := i
  cases hid : okId t s q
  · exact (take_bad0 h t s q w hid).mono fun e w' hx => .inr (.inl ⟨hid, hx⟩)
  · have hi := (okId_iff t s q).1 hid
    obtain ⟨k, rfl⟩ : ∃ k : Nat, s = k := ⟨s.toNat, by omega⟩
    simp only [Int.toNat_natCast]
    by_cases h1 : q ≤ f k
    · exact (take_bad1 h T f hp hok t q k w hh hid h1).mono fun e w' hx => .inr (.inr (.inl ⟨hid, h1, hx⟩))
    · by_cases h2 : q = f k + 1
      · exact (take_ok h T f hp hok t q k w hh hid h2).mono fun e w' hx => .inl ⟨hid, h2, hx⟩
      · exact (take_bad2 h T f hp hok t q k w hh hid (by omega)).mono fun e w' hx => .inr (.inr (.inr ⟨hid, by omega, hx⟩))

/-- With$1 leaves with an error, or comes to a vector. -/
def WithR (r : Int × (Nat → Int)) (w : World) (e : Ending) (w' : World) : Prop := (r.1 = 0 ∧ Ret (vec r.2) w e w') ∨ (r.1 ≠ 0 ∧ Panics r.1 w e w')

set_option maxRecDepth 100000 in
set_option maxHeartbeats 2000000 in
theorem With1_any (p g cap : Nat) (T U : TypeId) (f : Nat → Int) (hp : posV f) (hok : okVec f = true) (b off : Nat) (L : List Idn) (hlen : L.length ≤ 46912496118442) (w : World) (hb : b < w.heap.size)
    (hv : Blk w p T (vecC f)) (hs : Blk w g U #[.slice (some ⟨b, off, none⟩) L.length cap]) (hL : IdsM w b off L) :
    Calls Try.prog 42 #[.pointer (some ⟨p, 0, none⟩), .pointer (some ⟨g, 0, none⟩)] w (WithR (withS f L) w) := by
  have hpl := hv.lt
  have hgl := hs.lt
  have hmf : ∀ (fn : Fn) (first cap : Array Value) (w : World), (Instr.makeFunc fn first cap).run Try.prog w = .ok (.func fn first cap) w := fun _ _ _ _ => rfl
  have HV := Lib.hid (hv.alloc (.cells (vecC fun _ => 0) 24))
  have HS := Lib.hid (hs.alloc (.cells (vecC fun _ => 0) 24))
  have HL := Lib.hid hL
  clear hv hs hL
  go_enter Try.func42, Try.ntmps42
  go_wp2_with (first | (refine L_vload 7 (.tmp 0) rfl HV.out ?_) | (go_at_call 12; refine (Check_ok f hok _).mono ?_; rintro e W ⟨rfl, hbW⟩; have HV1 := Lib.hid (HV.out.below hbW (by simp; omega)); have hs1 := Blk.sload ((HS.out.below hbW (by simp; omega)).alloc (.cells (vecC f) 67)); unfold vecC at hs1; have HR := Lib.hid ((Blk.new w 24 (vecC fun _ => 0)).below hbW (by simp)); have HB : Hid (Below w.heap.size w W) := Below.trans (by go_grown) (hbW.mono (by simp)); have hz : w.heap.size < W.heap.size := HR.out.lt; clear hbW) | (go_at_call 43; refine (need_true _ _).mono ?_; rintro e w' ⟨rfl, rfl⟩) | (refine L_vload 11 (.tmp 0) rfl HV1.out ?_; unfold vec))
  have hh := Blk.new W 67 (vecC f)
  have hr := HR.out.alloc (.cells (vecC f) 67)
  have hB2 := HB.out.alloc (by omega) (.cells (vecC f) 67)
  unfold vecC at hh hr hB2
  clear hs1
  generalize W.alloc _ = W2 at hh hr hB2 ⊢
  generalize hH : W.heap.size = h at hh hz ⊢
  have HH := Lib.hid hh
  have HR2 := Lib.hid hr
  have HB2 := Lib.hid hB2
  clear hh hr hB2 hH HV HV1 HR HB
  go_loopw [18] (fun i wr => ∃ (k : Nat) (fk : Nat → Int), k ≤ L.length ∧ i = .int .i64 k ∧ posV fk ∧ okVec fk = true ∧ withS f L = withS fk (L.drop k) ∧ Blk wr h 67 (vecC fk) ∧ Blk wr w.heap.size 24 (vecC fun _ => 0) ∧ Below w.heap.size w wr) (fun i _ => L.length - (intOf i).toNat)
  case atStart => exact ⟨0, f, Nat.zero_le _, rfl, hp, hok, rfl, HH.out, HR2.out, HB2.out⟩
  case round =>
    obtain ⟨k, fk, hk, rfl, hpk, hokk, hwk, hh, hr, hB⟩ := hrel
    clear HH HR2 HB2
    have hsz := hh.lt
    by_cases hlt : k < L.length
    · have hc := HL.out k L[k] (by simp [hlt])
      have c0 := (hB.cell (p := ⟨b, off + k * 3, none⟩) hb).trans hc.1
      have c1 := (hB.cell (p := ⟨b, off + k * 3 + 1, none⟩) hb).trans hc.2.1
      have c2 := (hB.cell (p := ⟨b, off + k * 3 + 2, none⟩) hb).trans hc.2.2
      rw [List.drop_eq_getElem_cons hlt] at hwk
      have HW := Lib.hid hwk
      clear hc hwk
      generalize L[k] = i at c0 c1 c2 HW
      have HT := Lib.hid (take_any h 67 fk hpk hokk i _ (hh.alloc (.cells #[.int .u64 i.t, .int .i64 i.s, .int .u64 i.q] 38)))
      have HRr := Lib.hid (hr.alloc (.cells #[.int .u64 i.t, .int .i64 i.s, .int .u64 i.q] 38))
      have HBr := Lib.hid (hB.alloc (by omega) (.cells #[.int .u64 i.t, .int .i64 i.s, .int .u64 i.q] 38))
      have hwz : wr.heap.size < (wr.alloc (.cells #[.int .u64 i.t, .int .i64 i.s, .int .u64 i.q] 38)).heap.size := by simp
      have HWZ := Lib.hid hwz
      clear hh hr hB hwz
      go_wp2_with (go_at_call 44; refine HT.out.mono ?_)
      have hwr : w.heap.size < wr.heap.size := HRr.out.lt |> fun h => by have := HBr.out.size; omega
      rintro e W3 (⟨hid, hq, rfl, hb3, hh3⟩ | ⟨hid, rfl, hb3⟩ | ⟨hid, hq, rfl, hb3⟩ | ⟨hid, hq, rfl, hb3⟩)
      · have hid' : okId i.t i.s i.q = true := hid
        have hs0 := (okId_iff i.t i.s i.q).1 hid'
        have HP2 := Lib.hid (upd_pos hpk i.s.toNat)
        have HO2 := Lib.hid (upd_ok hokk (t := i.t) (q := i.q) (s := i.s.toNat) (by rw [show ((i.s.toNat : Nat) : Int) = i.s by omega]; exact hid') hq)
        have HW2 : Hid (withS f L = withS (upd fk i.s.toNat) (L.drop (k + 1))) := by
          show withS f L = _
          rw [HW.out]; simp [withS, hid, hq]; omega
        have HB3 := Lib.hid (HBr.out.trans (hb3.mono (by omega)))
        have HR3 := Lib.hid (HRr.out.below hb3 (by omega))
        have HH3 := Lib.hid hh3
        clear hid hq hid' hs0 hb3 hh3 HT HRr HBr HW
        go_wp2
        go_roundw
        case rel => exact ⟨k + 1, _, by omega, by go_num, HP2.out, HO2.out, HW2.out, HH3.out, HR3.out, HB3.out⟩
        case measure => simp [intOf]; omega
      · refine ⟨rfl, .inr ?_⟩
        rw [HW.out]
        exact ⟨by simp [withS, hid], by simp [withS, hid], HBr.out.trans (hb3.mono (by simp; omega))⟩
      · refine ⟨rfl, .inr ?_⟩
        rw [HW.out]
        exact ⟨by simp [withS, hid, hq], by simp [withS, hid, hq], HBr.out.trans (hb3.mono (by simp; omega))⟩
      · refine ⟨rfl, .inr ?_⟩
        rw [HW.out]
        have h1 : ¬ i.q ≤ fk i.s.toNat := by omega
        have h2 : ¬ i.q = fk i.s.toNat + 1 := by omega
        exact ⟨by simp [withS, hid, h1, h2], by simp [withS, hid, h1, h2], HBr.out.trans (hb3.mono (by simp; omega))⟩
    · have hdrop : L.drop k = [] := List.drop_of_length_le (by omega)
      rw [hdrop] at hwk
      have HW := Lib.hid hwk
      have HH := Lib.hid hh
      have HR := Lib.hid hr
      have HB := Lib.hid hB
      clear hdrop hwk hh hr hB
      go_wp2_with (first | (refine L_vload 29 (.tmp 28) rfl HH.out ?_) | (refine L_vstore (.tmp 2) (.tmp 29) fk rfl rfl HR.out ?_))
      refine bodyPost_ret (v := vec fk) (results_cell1 rfl _ _ rfl (HR.out.row (vecC fk)).vload) rfl (.inl ?_)
      rw [HW.out]
      exact ⟨rfl, rfl, below_setRow HB.out (Nat.le_refl _) _⟩
set_option maxRecDepth 100000 in
set_option maxHeartbeats 1000000 in
theorem With1_bad (p g : Nat) (T : TypeId) (f : Nat → Int) (hok : okVec f = false) (w : World) (hv : Blk w p T (vecC f)) :
    Calls Try.prog 42 #[.pointer (some ⟨p, 0, none⟩), .pointer (some ⟨g, 0, none⟩)] w (Panics 230 w) := by
  have HV := Lib.hid (hv.alloc (.cells (vecC fun _ => 0) 24))
  clear hv
  go_enter Try.func42, Try.ntmps42
  go_wp2_with (first | (refine L_vload 7 (.tmp 0) rfl HV.out ?_) | (go_at_call 12; refine (Check_bad f hok _).mono ?_; rintro e W ⟨rfl, hbW⟩; have HB : Hid (Below w.heap.size w W) := Below.trans (by go_grown) (hbW.mono (by simp)); clear hbW) | (go_at_call 43; refine (need_false _ _).mono ?_; rintro e w' ⟨rfl, rfl⟩))
  exact ⟨rfl, rfl, HB.out⟩

set_option maxRecDepth 100000 in
set_option maxHeartbeats 2000000 in
theorem With1_nil (p g cap : Nat) (T U : TypeId) (f : Nat → Int) (hok : okVec f = true) (a : Option Addr) (w : World) (hv : Blk w p T (vecC f)) (hs : Blk w g U #[.slice a 0 cap]) :
    Calls Try.prog 42 #[.pointer (some ⟨p, 0, none⟩), .pointer (some ⟨g, 0, none⟩)] w (Ret (vec f) w) := by
  have hpl := hv.lt
  have hgl := hs.lt
  have hmf : ∀ (fn : Fn) (first cap : Array Value) (w : World), (Instr.makeFunc fn first cap).run Try.prog w = .ok (.func fn first cap) w := fun _ _ _ _ => rfl
  have HV := Lib.hid (hv.alloc (.cells (vecC fun _ => 0) 24))
  have HS := Lib.hid (hs.alloc (.cells (vecC fun _ => 0) 24))
  clear hv hs
  go_enter Try.func42, Try.ntmps42
  go_wp2_with (first | (refine L_vload 7 (.tmp 0) rfl HV.out ?_) | (go_at_call 12; refine (Check_ok f hok _).mono ?_; rintro e W ⟨rfl, hbW⟩; have HV1 := Lib.hid (HV.out.below hbW (by simp; omega)); have hs1 := Blk.sload ((HS.out.below hbW (by simp; omega)).alloc (.cells (vecC f) 67)); unfold vecC at hs1; have HR := Lib.hid ((Blk.new w 24 (vecC fun _ => 0)).below hbW (by simp)); have HB : Hid (Below w.heap.size w W) := Below.trans (by go_grown) (hbW.mono (by simp)); have hz : w.heap.size < W.heap.size := HR.out.lt; clear hbW) | (go_at_call 43; refine (need_true _ _).mono ?_; rintro e w' ⟨rfl, rfl⟩) | (refine L_vload 11 (.tmp 0) rfl HV1.out ?_; unfold vec))
  have hh := Blk.new W 67 (vecC f)
  have hr := HR.out.alloc (.cells (vecC f) 67)
  have hB2 := HB.out.alloc (by omega) (.cells (vecC f) 67)
  unfold vecC at hh hr hB2
  clear hs1
  generalize W.alloc _ = W2 at hh hr hB2 ⊢
  generalize hH : W.heap.size = h at hh hz ⊢
  have HH : Hid (Blk W2 h 67 (vecC f)) := hh
  have HR2 : Hid (Blk W2 w.heap.size 24 (vecC fun _ => 0)) := hr
  have HB2 := Lib.hid hB2
  clear hh hr hB2 hH HV HV1 HR HB
  refine wp_loop_rounds 1 ?_
  rw [rounds_succ]
  go_wp2_with (first | (refine L_vload 29 (.tmp 28) rfl HH.out ?_) | (refine L_vstore (.tmp 2) (.tmp 29) f rfl rfl HR2.out ?_))
  exact bodyPost_ret (v := vec f) (results_cell1 rfl _ _ rfl (HR2.out.row (vecC f)).vload) rfl ⟨rfl, below_setRow HB2.out (Nat.le_refl _) _⟩

set_option maxRecDepth 100000 in
set_option maxHeartbeats 1000000 in
theorem With_run (f r : Nat → Int) (x : Int) (a : Option Addr) (n cap : Nat) (w : World)
    (hcall : ∀ W, Below w.heap.size w W → ∀ p q, Blk W p 24 (vecC f) → Blk W q 50 #[.slice a n cap] → Calls Try.prog 33 #[.func (.func 42) #[] #[.pointer (some ⟨p, 0, none⟩), .pointer (some ⟨q, 0, none⟩)]] W (Ret (.tuple #[vec r, .int .i64 x]) W)) :
    Calls Try.prog 17 #[vec f, .slice a n cap] w (Ret (.tuple #[vec r, .int .i64 x]) w) := by
  have hmf : ∀ (fn : Fn) (first cap : Array Value) (w : World), (Instr.makeFunc fn first cap).run Try.prog w = .ok (.func fn first cap) w := fun _ _ _ _ => rfl
  have b0 := ((Blk.new w 24 (vecC f)).alloc (.cells #[.slice a n cap] 50)).alloc (.cells (vecC fun _ => 0) 24)
  have b1 := (Blk.new (w.alloc (.cells (vecC f) 24)) 50 #[.slice a n cap]).alloc (.cells (vecC fun _ => 0) 24)
  have b2 := Blk.new ((w.alloc (.cells (vecC f) 24)).alloc (.cells #[.slice a n cap] 50)) 24 (vecC fun _ => 0)
  rw [World.size_alloc] at b1
  rw [World.size_alloc, World.size_alloc] at b2
  have hB : Below w.heap.size w (((w.alloc (.cells (vecC f) 24)).alloc (.cells #[.slice a n cap] 50)).alloc (.cells (vecC fun _ => 0) 24)) := by go_grown
  have hs : w.heap.size + 2 < (((w.alloc (.cells (vecC f) 24)).alloc (.cells #[.slice a n cap] 50)).alloc (.cells (vecC fun _ => 0) 24)).heap.size := by simp
  have HC := Lib.hid (hcall _ hB _ _ b0 b1)
  have HB0 := Lib.hid hB
  have HB2 := Lib.hid b2
  have HS := Lib.hid hs
  clear hcall hB b0 b1 b2 hs
  go_enter Try.func17, Try.ntmps17
  unfold vec
  go_wp2_with (first | (refine L_vstore (.tmp 4) (.tmp 8) r rfl rfl HK.out ?_) | (go_at_call 33; refine HC.out.mono ?_; rintro e W ⟨rfl, hb⟩; have HK := Lib.hid (HB2.out.below hb HS.out); have HB : Hid (Below w.heap.size w W) := HB0.out.trans (hb.mono (by simp; omega)); clear hb))
  exact bodyPost_ret (v := .tuple #[vec r, .int .i64 x]) (results_ct rfl _ _ rfl (HK.out.row (vecC r)).vload rfl) rfl ⟨rfl, below_setRow HB.out (by omega) _⟩


/-- a vector with ids, the error. -/
def withV (f : Nat → Int) (L : List Idn) : Int × (Nat → Int) := if okVec f then withS f L else (230, fun _ => 0)
theorem withS_err : ∀ (L : List Idn) (f : Nat → Int), (withS f L).1 ≠ 0 → (withS f L).2 = fun _ => 0
  | [], f, h => absurd rfl h
  | i :: L, f, h => by
    unfold withS at h ⊢
    split
    · rfl
    · split
      · rfl
      · split
        · rename_i h1 h2 h3
          rw [if_neg h1, if_neg h2, if_pos h3] at h
          exact withS_err L _ h
        · rfl

theorem With_any (f : Nat → Int) (hp : posV f) (a : Option Addr) (n cap : Nat) (L : List Idn) (w : World) (hS : IdSl w a n L) :
    Calls Try.prog 17 #[vec f, .slice a n cap] w (Ret (.tuple #[vec (withV f L).2, .int .i64 (withV f L).1]) w) := by
  refine With_run f _ _ a n cap w fun W hW p q hbp hbq => ?_
  by_cases hok : okVec f = true
  · have hw : withV f L = withS f L := by simp [withV, hok]
    rw [hw]
    obtain ⟨rfl, h2, rfl | ⟨b, off, rfl, hlt, hv⟩⟩ := hS.below hW
    · exact tries_ret 42 _ (enters_of Try.func42 (by kernel_rfl) rfl) _ W fun W' hW' => With1_nil p q cap _ _ f hok a W' (hbp.below hW' hbp.lt) (hbq.below hW' hbq.lt)
    · have hcl : ∀ W', Below W.heap.size W W' → Calls Try.prog 42 #[.pointer (some ⟨p, 0, none⟩), .pointer (some ⟨q, 0, none⟩)] W' (WithR (withS f L) W') := fun W' hW' =>
        With1_any p q cap _ _ f hp hok b off L h2 W' (Nat.lt_of_lt_of_le hlt hW'.size) (hbp.below hW' hbp.lt) (hbq.below hW' hbq.lt) (fun k i hi => by
          obtain ⟨c0, c1, c2⟩ := hv k i hi
          exact ⟨(hW'.cell (p := ⟨b, off + k * 3, none⟩) hlt).trans c0, (hW'.cell (p := ⟨b, off + k * 3 + 1, none⟩) hlt).trans c1, (hW'.cell (p := ⟨b, off + k * 3 + 2, none⟩) hlt).trans c2⟩)
      by_cases h0 : (withS f L).1 = 0
      · rw [h0]
        exact tries_ret 42 _ (enters_of Try.func42 (by kernel_rfl) rfl) _ W fun W' hW' => (hcl W' hW').mono fun e w' h => by
          rcases h with ⟨_, h⟩ | ⟨h, _⟩
          · exact h
          · exact absurd h0 h
      · rw [withS_err L f h0]
        exact tries_panic 42 _ (enters_of Try.func42 (by kernel_rfl) rfl) _ W fun W' hW' => (hcl W' hW').mono fun e w' h => by
          rcases h with ⟨h, _⟩ | ⟨_, h⟩
          · exact absurd h h0
          · exact h
  · have hok' : okVec f = false := by simpa using hok
    have hw : withV f L = (230, fun _ => 0) := by simp [withV, hok]
    rw [hw]
    exact tries_panic 42 _ (enters_of Try.func42 (by kernel_rfl) rfl) _ W fun W' hW' => With1_bad p q _ f hok' W' (hbp.below hW' hbp.lt)
end Go.Proofs.Ytoiaecfiinkmjaa
