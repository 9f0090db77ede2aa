/- gessoref11.digits: its contract. -/
import Derived.Test.YtoiaecfiinkmjaaDoorBackLaw
namespace Go.Proofs.YtoiaecfiinkmjaaDoor
open Go.RowKit Go.Shelf Go.Lib

set_option maxRecDepth 100000 in
set_option maxHeartbeats 1000000 in
theorem RDigits_any (u : Nat) : ∀ w : World, u < 18446744073709551616 → Calls Tryd.prog 37 #[.int .u64 u] w (Ret (strV (decDigits u)) w) := by
  induction u using Nat.strongRecOn with
  | _ u ih =>
    intro w hu
    have hm : (u : Int).tmod 10 = ((u % 10 : Nat) : Int) := by rw [Int.tmod_eq_emod_of_nonneg (by omega)]; omega
    have hq : (u : Int).tdiv 10 = ((u / 10 : Nat) : Int) := by rw [Int.tdiv_eq_ediv_of_nonneg (by omega)]; omega
    have hrec := fun h w => ih (u / 10) h w (by omega)
    have HR := Lib.hid hrec
    clear hrec ih
    go_enter Tryd.func37, Tryd.ntmps37
    have hch : (UInt8.ofNat (48 + u % 10)).toNat = 48 + u % 10 := by rw [UInt8.toNat_ofNat']; omega
    obtain ⟨ch, hc⟩ : ∃ ch : UInt8, ch = UInt8.ofNat (48 + u % 10) := ⟨_, rfl⟩
    rw [← hc] at hch
    have hcv : (convert 88 9 (.slice (some ⟨w.heap.size, 0, none⟩) 1 1)).run Tryd.prog (w.alloc (.cells #[.int .u8 (48 + (u : Int) % 10)] 5)) = .ok (strV [ch]) (w.alloc (.cells #[.int .u8 (48 + (u : Int) % 10)] 5)) :=
      run_convert_bytes_back (P := Tryd.prog) (w.alloc (.cells #[.int .u8 (48 + (u : Int) % 10)] 5)) 88 9 5 ⟨w.heap.size, 0, none⟩ 1 [ch] Tryd.underlying88 Tryd.underlying5 Tryd.underlying9 (fun j hj => by
        obtain rfl : j = 0 := by simp at hj; omega
        have := (Blk.new w 5 #[.int .u8 (48 + (u : Int) % 10)]).cell 0
        simp only [Addr.add_lit, Nat.add_zero]
        rw [this]
        simp only [List.getElem_cons_zero, hch]
        simp)
    have HC := Lib.hid hc
    clear hc
    have HBA : Hid (Below w.heap.size w (w.alloc (.cells #[.int .u8 (48 + (u : Int) % 10)] 5))) := (Below.refl _ _).alloc (Nat.le_refl _) _
    by_cases h9 : u < 10
    · have hd : decide (9 < (u : Int)) = false := by simp; omega
      go_wp2_with fail
      go_ret
      have hm10 : u % 10 = u := by omega
      refine ⟨?_, HBA.out⟩
      rw [decDigits, dif_pos h9, HC.out, hm10]
      rfl
    · have hd : decide (9 < (u : Int)) = true := by simp; omega
      have hl := dec_len (u := u / 10) (by omega)
      have hadd := fun w => add_str (decDigits (u / 10)) [ch] (by simp; omega) w
      have HQ := Lib.hid (HR.out (by omega))
      have HE : Hid (decDigits u = decDigits (u / 10) ++ [ch]) := by show _ = _; rw [decDigits, dif_neg h9, HC.out]
      go_wp2_with fail
      refine (HQ.out _).mono ?_
      rintro e W1 ⟨rfl, hb⟩
      have HB1 : Hid (Below w.heap.size w W1) := HBA.out.trans (hb.mono HBA.out.size)
      clear hb
      go_wp2_with fail
      go_ret
      refine ⟨?_, HB1.out⟩
      rw [HE.out]
      show Ending.returned (.string (⟨(decDigits (u / 10)).toArray⟩ ++ ⟨#[ch]⟩)) = _
      congr 2
end Go.Proofs.YtoiaecfiinkmjaaDoor
