/- strconv.FormatUint at base 10, strconv.Itoa, ident.digits, ident.Text: their contracts. -/
import Derived.Test.YtoiaecfiinkmjaaDoorShelfFmt
import Derived.Test.YtoiaecfiinkmjaaDoorCmp
import Derived.Lib.AppendIntMem
namespace Go.Proofs.YtoiaecfiinkmjaaDoor
open Go.RowKit Go.Shelf Go.Sort Go.Lib

/-- the table of powers of ten is as it should be. -/
def Tab (w : World) : Prop := Lib.TabIs Tryd.prog w "internal/strconv.uint64pow10" .u64 Lib.pow10Tab
/-- a text, as a value. -/
abbrev strV (l : List UInt8) : Value := .string ⟨l.toArray⟩

set_option maxRecDepth 100000 in
set_option maxHeartbeats 2000000 in
theorem IFormatUint_any (u : Nat) (hu64 : u < 18446744073709551616) (w : World) (htab : Tab w) :
    Calls Tryd.prog 60 #[.int .u64 u, .int .i64 10] w (Lays (strV (Lib.decDigits u)) w) := by
  have e283 := enters_of Tryd.func73 (by kernel_rfl) rfl
  have e284 := enters_of Tryd.func74 (by kernel_rfl) rfl
  have e285 := enters_of Tryd.func75 (by kernel_rfl) rfl
  by_cases hi : u < 100
  · have hd : decide ((u : Int) < 100) = true := by simp; omega
    have hsm := fun W => Any.internal_strconv_small Tryd.small u hi W
    change ∀ W, Calls Tryd.prog 73 _ _ _ at hsm
    have HS := Lib.hid hsm
    clear hsm
    go_enter Tryd.func60, Tryd.ntmps60
    go_wp2_with fail
    refine (HS.out _).mono ?_
    rintro e w' ⟨rfl, rfl⟩
    go_wp2
    go_ret
    exact ⟨rfl, 0, #[], by simp [World.drewN_zero]⟩
  · have hd : decide ((u : Int) < 100) = false := by simp; omega
    have hu1 : 1 ≤ u := by omega
    have hnd20 : Lib.nDigits u ≤ 20 := by have := Lib.numDigits_eq u hu1 hu64; split at this <;> omega
    have hal : Tryd.prog.arrayLen 112 = 24 := by kernel_rfl
    have hsl : ∀ W, (Instr.sliceAt 112 (.pointer (some ⟨w.heap.size, 0, none⟩)) none (some (.int .i64 (Lib.nDigits u : Int))) none).run Tryd.prog W = .ok (.slice (some ⟨w.heap.size, 0, none⟩) (Lib.nDigits u) 24) W := fun W => by
      rw [run_sliceAt_array_h W 112 ⟨w.heap.size, 0, none⟩ (by simp [Program.arrayLen, Program.elem, Tryd.underlying112]) .i64 (Lib.nDigits u : Int) (by omega) (by rw [hal]; omega)]
      have hel : Tryd.prog.elem 112 = 5 := by kernel_rfl
      have z5 := Tryd.sizeOf5
      rw [hal, hel]
      go_simp
    have hH0 := Lib.holds_zero0 w 112 (Lib.nDigits u) (by omega)
    have hfmt := Any.internal_strconv_formatBase10 Tryd.base10 w.heap.size 0 24 u (Array.replicate (Lib.nDigits u) 0) (w.alloc (.cells Lib.zeros24 112)) hH0 (by rw [Array.size_replicate]; exact Lib.lt_pow_nDigits u) hu64 (by rw [Array.size_replicate]; omega)
    rw [Array.size_replicate] at hfmt
    have hnum := fun W (h : Tab W) => Any.internal_strconv_numDigits Tryd.numDigits u hu1 hu64 W h
    change Calls Tryd.prog 75 _ _ _ at hfmt
    change ∀ W, Tab W → Calls Tryd.prog 74 _ _ _ at hnum
    have HF := Lib.hid hfmt
    have HN := Lib.hid hnum
    have HT := Lib.hid htab
    have HH0 := Lib.hid hH0
    clear hfmt hnum htab hH0 hal hi
    go_enter Tryd.func60, Tryd.ntmps60
    go_wp2_with fail
    refine (HN.out _ (Lib.tabIs_alloc HT.out _)).mono ?_
    rintro e w' ⟨rfl, rfl⟩
    go_wp2_with fail
    refine HF.out.mono ?_
    rintro e w' ⟨rfl, k, v', dk, rfl, hF⟩
    have hcv : (convert 88 9 (.slice (some ⟨w.heap.size, 0, none⟩) (Lib.nDigits u) 24)).run Tryd.prog ((putRow (fun (b : UInt8) => Value.int .u8 (b.toNat : Int)) (w.alloc (.cells Lib.zeros24 112)) w.heap.size 0 dk).drewN k) = .ok (strV (Lib.decDigits u)) ((putRow (fun (b : UInt8) => Value.int .u8 (b.toNat : Int)) (w.alloc (.cells Lib.zeros24 112)) w.heap.size 0 dk).drewN k) := by
      have h := run_convert_bytes_back (P := Tryd.prog) ((putRow (fun (b : UInt8) => Value.int .u8 (b.toNat : Int)) (w.alloc (.cells Lib.zeros24 112)) w.heap.size 0 dk).drewN k) 88 9 5 ⟨w.heap.size, 0, none⟩ 24 (Lib.decDigits u) Tryd.underlying88 Tryd.underlying5 Tryd.underlying9 (fun j hj => by
        rw [Lib.row_is_numeral hF j hj, Lib.add_plain, World.cell?_drewN]
        exact cell?_putRow (fun (b : UInt8) => Value.int .u8 (b.toNat : Int)) _ w.heap.size 0 _ dk HH0.out (by rw [hF.size, Array.size_replicate]) j (by rw [hF.size]; rw [Lib.decDigits_length] at hj; exact hj))
      rw [Lib.decDigits_length] at h
      exact h
    go_wp2
    go_ret
    obtain ⟨os, eo⟩ := Lib.fin_at w (.cells Lib.zeros24 112) dk k 0
    exact ⟨rfl, k, os, eo⟩

set_option maxHeartbeats 400000 in
theorem FormatUint_any (u : Nat) (hu64 : u < 18446744073709551616) (w : World) (htab : Tab w) :
    Calls Tryd.prog 51 #[.int .u64 u, .int .i64 10] w (Lays (strV (Lib.decDigits u)) w) := by
  have HC := Lib.hid (IFormatUint_any u hu64 w htab)
  clear htab
  go_enter Tryd.func51, Tryd.ntmps51
  go_wp2_with fail
  refine HC.out.mono ?_
  rintro e w' ⟨rfl, k, os, hw⟩
  have HW := Lib.hid hw
  clear hw
  go_wp2
  go_ret
  exact ⟨rfl, k, os, HW.out⟩
set_option maxHeartbeats 400000 in
theorem digits_any (u : Nat) (hu64 : u < 18446744073709551616) (w : World) (htab : Tab w) :
    Calls Tryd.prog 35 #[.int .u64 u] w (Lays (strV (Lib.decDigits u)) w) := by
  have HC := Lib.hid (FormatUint_any u hu64 w htab)
  clear htab
  go_enter Tryd.func35, Tryd.ntmps35
  go_wp2_with fail
  refine HC.out.mono ?_
  rintro e w' ⟨rfl, k, os, hw⟩
  have HW := Lib.hid hw
  clear hw
  go_wp2
  go_ret
  exact ⟨rfl, k, os, HW.out⟩
theorem Itoa_any (n : Int) (h0 : -9223372036854775808 ≤ n) (h1 : n ≤ 9223372036854775807) (w : World) (htab : Tab w) :
    Calls Tryd.prog 36 #[.int .i64 n] w (Lays (strV (Lib.itoa n)) w) := Any.strconv_Itoa Tryd.itoa n h0 h1 w htab
theorem Lays.below {v : Value} {w : World} {e : Ending} {w' : World} (h : Lays v w e w') : Below w.heap.size w w' := by
  obtain ⟨_, q, os, rfl⟩ := h
  exact (below_drewN w q).trans ⟨rfl, rfl, rfl, by simp, fun k hk => heap_grow_old _ os hk⟩
theorem tab_below {W W' : World} (h : Tab W) (hb : Below W.heap.size W W') : Tab W' := by
  unfold Tab Lib.TabIs World.var? at *
  cases hg : Tryd.prog.globalNamed "internal/strconv.uint64pow10" with
  | none => simp [hg] at h
  | some g =>
    simp only [hg, Option.bind_some] at h ⊢
    have hlt : g < W.heap.size := by
      rcases Nat.lt_or_ge g W.heap.size with h' | h'
      · exact h'
      · rw [Array.getElem?_eq_none h'] at h; simp at h
    rw [hb.block g hlt]
    exact h

/-- an id's text. -/
def textOf (t : Nat) (s : Int) (q : Nat) : List UInt8 := Lib.decDigits t ++ 46 :: (Lib.itoa s ++ 46 :: Lib.decDigits q)
end Go.Proofs.YtoiaecfiinkmjaaDoor
