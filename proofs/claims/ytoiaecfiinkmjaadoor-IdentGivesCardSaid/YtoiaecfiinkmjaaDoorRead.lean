/- ident.Read: its contract. -/
import Derived.Test.YtoiaecfiinkmjaaDoorReadLaw
import Derived.Laws.RangeAny
import Derived.StillTailTactics
namespace Go.Proofs.YtoiaecfiinkmjaaDoor
open Go.RowKit Go.Shelf Go.Lib

/-- an id's variable. -/
theorem Blk.idload {W : World} {g : Nat} {T : TypeId} {t s q : Int} (h : Blk W g T #[.int .u64 t, .int .i64 s, .int .u64 q]) : (loadVar 27 ⟨g, 0, none⟩).run Tryd.prog W = .ok (idV t s q) W :=
  h.load Tryd.underlying27 rfl (by kernel_rfl)
section
variable {ops : Array Oper} {rest : List Oper} {a : Act} {w : World} {Q : Exit → Act → World → Prop} {ty : TypeId} {pos : String} {after : Array Edge}
/-- a whole id into a variable. -/
theorem L_istore (x y : Operand) (t s q : Int) {g : Nat} {T : TypeId} {t0 s0 q0 : Value} (hx : a.eval x = .pointer (some ⟨g, 0, none⟩)) (hy : a.eval y = idV t s q) (hb : Blk w g T #[t0, s0, q0])
    (h : wpList Tryd.prog ops Q rest a (w.setRow g #[.int .u64 t, .int .i64 s, .int .u64 q])) : wpList Tryd.prog ops Q (⟨none, .store 27 x y, ty, pos, after, none⟩ :: rest) a w :=
  wpList_store_row rfl _ x y rfl g _ hx hy T _ hb (by kernel_rfl) rfl (by simp [Value.oneCell']) h
end
theorem below_setRowI {B : Nat} {w X : World} {g : Nat} (h : Below B w X) (hg : B ≤ g) (cs : Array Value) : Below B w (X.setRow g cs) :=
  h.trans ⟨rfl, rfl, rfl, by simp [World.setRow], fun k hk => setRow_other X g k cs (by omega)⟩
def readV : Option Idn → Value
  | none => .tuple #[idV 0 0 0, .int .i64 210]
  | some i => .tuple #[i.val, .int .i64 0]
/-- the three numbers' cells. -/
abbrev nC (st : PSt) : Array Value := #[.int .u64 (st.n 0), .int .u64 (st.n 1), .int .u64 (st.n 2)]
theorem nC_get (st : PSt) {k : Nat} (h : k ≤ 2) : (nC st)[k]? = some (.int .u64 (st.n k)) := by
  have : k = 0 ∨ k = 1 ∨ k = 2 := by omega
  rcases this with rfl | rfl | rfl <;> rfl
theorem nC_set (st : PSt) (d : Nat) (h : st.at_ ≤ 2) : (nC st).setIfInBounds st.at_ (.int .u64 ((10 * st.n st.at_ + d : Nat) : Int)) = nC (st.bump d) := by
  have : st.at_ = 0 ∨ st.at_ = 1 ∨ st.at_ = 2 := by omega
  rcases this with h | h | h <;> simp [h, PSt.bump]
theorem iter_setCell (X : World) (s : ByteArray) (p : Nat) {g i : Nat} {v : Value} (hg : g < X.heap.size) : (X.iter s p).setCell ⟨g, i, none⟩ v = (X.setCell ⟨g, i, none⟩ v).iter s p := World.setCell_alloc_past _ g i v hg
theorem Blk.iter {X : World} {g : Nat} {T : TypeId} {cs : Array Value} (h : Blk X g T cs) (s : ByteArray) (p : Nat) : Blk (X.iter s p) g T cs := h.alloc _
theorem below_iter {B : Nat} {w X : World} (h : Below B w X) (hB : B ≤ X.heap.size) (s : ByteArray) (p : Nat) : Below B w (X.iter s p) := h.alloc hB _
theorem take_succ_ba (s : ByteArray) (p : Nat) (h : p < s.size) : s.data.toList.take (p + 1) = s.data.toList.take p ++ [s[p]] := by
  rw [List.take_succ_eq_append_getElem (by simpa using h)]; rfl

set_option maxRecDepth 100000 in
set_option maxHeartbeats 4000000 in
theorem Read_any (s : ByteArray) (w : World) (htab : Tab w) :
    Calls Tryd.prog 12 #[.string s] w (Ret (readV (readB s.data.toList)) w) := by
  have HT := Lib.hid htab
  have HR0 := Lib.hid ((Blk.new w 27 #[.int .u64 0, .int .i64 0, .int .u64 0]).alloc (.cells #[.int .u64 0, .int .u64 0, .int .u64 0] 74))
  have hn0 := Blk.new (w.alloc (.cells #[.int .u64 0, .int .i64 0, .int .u64 0] 27)) 74 #[.int .u64 0, .int .u64 0, .int .u64 0]
  rw [World.size_alloc] at hn0
  have HN0 := Lib.hid hn0
  have HW : Hid (Below w.heap.size w ((w.alloc (.cells #[.int .u64 0, .int .i64 0, .int .u64 0] 27)).alloc (.cells #[.int .u64 0, .int .u64 0, .int .u64 0] 74))) := by show Below _ _ _; go_grown
  clear htab hn0
  go_enter Tryd.func12, Tryd.ntmps12
  go_wp2_with fail
  have hX0 : ((w.alloc (.cells #[.int .u64 0, .int .i64 0, .int .u64 0] 27)).alloc (.cells #[.int .u64 0, .int .u64 0, .int .u64 0] 74)).heap.size = w.heap.size + 1 + 1 := by simp
  have HX0 := Lib.hid hX0
  clear hX0
  generalize (w.alloc (.cells #[.int .u64 0, .int .i64 0, .int .u64 0] 27)).alloc (.cells #[.int .u64 0, .int .u64 0, .int .u64 0] 74) = X0 at HR0 HN0 HW HX0 ⊢
  go_loopw [5] (fun a wr => ∃ (pos : Nat) (st : PSt) (X : World), wr = X.iter s pos ∧ Hid (X.heap.size = w.heap.size + 1 + 1) ∧ a = .int .i64 st.at_ ∧ st.good ∧ pos ≤ s.size ∧ Hid (parse (s.data.toList.take pos) = some st) ∧ Blk X w.heap.size 27 #[.int .u64 0, .int .i64 0, .int .u64 0] ∧ Blk X (w.heap.size + 1) 74 (nC st) ∧ Below w.heap.size w X) (fun _ wr => s.size - wr.iterPos (w.heap.size + 1 + 1))
  case atStart => exact ⟨0, ⟨0, fun _ => 0⟩, X0, rfl, HX0, rfl, good0, Nat.zero_le _, rfl, HR0.out, HN0.out, HW.out⟩
  case round =>
    obtain ⟨pos, st, X, rfl, HXH, rfl, hgood, hpos, HPA, hr, hn, hB⟩ := hrel
    clear HR0 HN0 HW HX0
    have hat := hgood.1
    have hnb := hgood.2 st.at_
    have hBz := hB.size
    by_cases hp : pos < s.size
    · by_cases ha : (s[pos]).toNat < 128
      · have hnx : ∀ ty, (Instr.next (.pointer (some ⟨w.heap.size + 1 + 1, 0, none⟩)) true ty).run Tryd.prog (X.iter s pos) = .ok (.tuple #[.bool true, .int .i64 pos, .int .i32 ((s[pos]).toNat : Int)]) (X.iter s (pos + 1)) := fun ty => by
          rw [← HXH.out]; exact run_next_ascii X s pos ty hp ha
        have HTK := Lib.hid (take_succ_ba s pos hp)
        generalize s[pos] = ch at ha hnx HTK
        have HGO := Lib.hid hgood
        have HR := Lib.hid (hr.iter s (pos + 1))
        have HN := Lib.hid (hn.iter s (pos + 1))
        have HBI := Lib.hid (below_iter hB hBz s (pos + 1))
        have HXr := Lib.hid hr
        have HXn := Lib.hid hn
        have HXB := Lib.hid hB
        have n0 := (HN.out.cell st.at_).trans (nC_get st hat)
        have f0 := HN.out.frozen st.at_
        clear hgood hr hn hB
        have ha0 : (0 : Int) ≤ (st.at_ : Int) := by omega
        have ha3 : (st.at_ : Int) < 3 := by omega
        by_cases h1 : ch.toNat = 46 ∧ st.at_ < 2
        · have hd1 : (((ch.toNat : Nat) : Int) == 46) = true := by rw [beq_iff_eq]; omega
          have hd2 : decide (st.at_ < 2) = true := by simp; omega
          have hd3 : decide ((st.at_ : Int) < 2) = true := by simp; omega
          have HS : Hid (pstep st ch = some ⟨st.at_ + 1, st.n⟩) := by show _ = _; unfold pstep; rw [if_pos h1]
          clear h1
          go_wp2_with fail
          go_roundw
          case rel =>
            refine ⟨pos + 1, ⟨st.at_ + 1, st.n⟩, X, rfl, HXH, by go_num, pstep_good HGO.out HS.out, by omega, ?_, HXr.out, HXn.out, HXB.out⟩
            show parse _ = _
            rw [HTK.out]
            unfold parse at HPA ⊢
            rw [pfold_snoc, HPA.out]
            exact HS.out
          case measure =>
            rw [show (X.iter s (pos + 1)).iterPos (w.heap.size + 1 + 1) = pos + 1 by rw [← HXH.out]; exact World.iterPos_iter X s (pos + 1), show (X.iter s pos).iterPos (w.heap.size + 1 + 1) = pos by rw [← HXH.out]; exact World.iterPos_iter X s pos]
            omega
        · by_cases h2 : 48 ≤ ch.toNat ∧ ch.toNat ≤ 57 ∧ st.n st.at_ ≤ 1844674407370955160
          · obtain ⟨h48, h57, hK⟩ := h2
            have HS : Hid (pstep st ch = some (st.bump (ch.toNat - 48))) := by show _ = _; unfold pstep; rw [if_neg h1, if_pos ⟨h48, h57, hK⟩]
            have hd1 : (((ch.toNat : Nat) : Int) == 46) = false := by rw [beq_eq_false_iff_ne]; omega
            have hd2 : decide (48 ≤ ch.toNat) = true := by simp; omega
            have hd3 : decide (ch.toNat ≤ 57) = true := by simp; omega
            have hd4 : decide (st.n st.at_ ≤ 1844674407370955160) = true := by simp; omega
            have hd5 : decide ((48 : Int) ≤ (ch.toNat : Int)) = true := by simp; omega
            have hd6 : decide ((ch.toNat : Int) ≤ 57) = true := by simp; omega
            have hd7 : decide ((st.n st.at_ : Int) ≤ 1844674407370955160) = true := by simp; omega
            have HE : Hid (10 * (st.n st.at_ : Int) + ((ch.toNat : Int) - 48) = ((10 * st.n st.at_ + (ch.toNat - 48) : Nat) : Int)) := by show _ = _; omega
            have hw1 : IntKind.u64.wrap (10 * (st.n st.at_ : Int)) = 10 * (st.n st.at_ : Int) := IntWalk.u64_in _ (by omega)
            have hw2 : IntKind.u64.wrap (10 * (st.n st.at_ : Int) + ((ch.toNat : Int) - 48)) = 10 * (st.n st.at_ : Int) + ((ch.toNat : Int) - 48) := IntWalk.u64_in _ (by omega)
            have hw3 : IntKind.i32.wrap ((ch.toNat : Int) - 48) = (ch.toNat : Int) - 48 := by unfold IntKind.wrap; simp [IntKind.bits, IntKind.signed]; omega
            have hw4 : IntKind.u64.wrap ((ch.toNat : Int) - 48) = (ch.toNat : Int) - 48 := IntWalk.u64_in _ (by omega)
            clear h1 h48 h57 hK
            go_wp2_with fail
            go_roundw
            case rel =>
              refine ⟨pos + 1, st.bump (ch.toNat - 48), X.setCell ⟨w.heap.size + 1, st.at_, none⟩ (.int .u64 ((10 * st.n st.at_ + (ch.toNat - 48) : Nat) : Int)), ?_, ?_, rfl, pstep_good HGO.out HS.out, by omega, ?_, ?_, ?_, ?_⟩
              · rw [HE.out]; exact iter_setCell X s (pos + 1) HXn.out.lt
              · have := HXH.out
                show (X.setCell _ _).heap.size = _
                simpa [World.setCell] using this
              · show parse _ = _
                rw [HTK.out]
                unfold parse at HPA ⊢
                rw [pfold_snoc, HPA.out]
                exact HS.out
              · exact HXr.out.set_other (by simp) _
              · have := HXn.out.set st.at_ (.int .u64 ((10 * st.n st.at_ + (ch.toNat - 48) : Nat) : Int))
                rwa [nC_set st _ hat] at this
              · exact HXB.out.setCell (by simp) _
            case measure =>
              rw [HE.out, iter_setCell X s (pos + 1) HXn.out.lt]
              rw [show ((X.setCell ⟨w.heap.size + 1, st.at_, none⟩ (.int .u64 ((10 * st.n st.at_ + (ch.toNat - 48) : Nat) : Int))).iter s (pos + 1)).iterPos (w.heap.size + 1 + 1) = pos + 1 by
                rw [← HXH.out, show X.heap.size = (X.setCell ⟨w.heap.size + 1, st.at_, none⟩ (.int .u64 ((10 * st.n st.at_ + (ch.toNat - 48) : Nat) : Int))).heap.size by simp [World.setCell]]
                exact World.iterPos_iter _ s (pos + 1), show (X.iter s pos).iterPos (w.heap.size + 1 + 1) = pos by rw [← HXH.out]; exact World.iterPos_iter X s pos]
              omega
          · have HS : Hid (pstep st ch = none) := by show _ = _; unfold pstep; rw [if_neg h1, if_neg h2]
            have HNO : Hid (readB s.data.toList = none) := by
              have h0 : parse (s.data.toList.take (pos + 1)) = none := by
                rw [HTK.out]
                unfold parse at HPA ⊢
                rw [pfold_snoc, HPA.out]
                exact HS.out
              have h9 : parse s.data.toList = none := by rw [← List.take_append_drop (pos + 1) s.data.toList]; exact parse_none h0
              show _ = _
              unfold readB; rw [h9]
            clear HS HTK HXr HXn HXB HPA HGO
            by_cases c46 : ch.toNat = 46
            · have hd1 : (((ch.toNat : Nat) : Int) == 46) = true := by rw [beq_iff_eq]; omega
              have hd2 : decide (st.at_ < 2) = false := by simp; omega
              have hd7 : decide ((st.at_ : Int) < 2) = false := by simp; omega
              have hd3 : decide (48 ≤ ch.toNat) = false := by simp; omega
              have hd4 : decide ((48 : Int) ≤ (ch.toNat : Int)) = false := by simp; omega
              clear c46 h1 h2
              go_wp2_with (refine L_istore (.tmp 2) (.tmp 14) 0 0 0 rfl rfl HR.out ?_)
              refine bodyPost_ret (v := readV none) (results_ctR rfl _ _ rfl (HR.out.row #[.int .u64 0, .int .i64 0, .int .u64 0]).idload rfl) rfl ?_
              rw [HNO.out]
              exact ⟨rfl, below_setRowI HBI.out (by omega) _⟩
            · have hd1 : (((ch.toNat : Nat) : Int) == 46) = false := by rw [beq_eq_false_iff_ne]; omega
              by_cases c48 : 48 ≤ ch.toNat
              · skip
                have hd3 : decide (48 ≤ ch.toNat) = true := by simp; omega
                have hd4 : decide ((48 : Int) ≤ (ch.toNat : Int)) = true := by simp; omega
                by_cases c57 : ch.toNat ≤ 57
                · skip
                  have hd5 : decide (ch.toNat ≤ 57) = true := by simp; omega
                  have hd6 : decide ((ch.toNat : Int) ≤ 57) = true := by simp; omega
                  have hd7 : decide (st.n st.at_ ≤ 1844674407370955160) = false := by simp; omega
                  have hd8 : decide ((st.n st.at_ : Int) ≤ 1844674407370955160) = false := by simp; omega
                  clear c46 c48 c57 h1 h2
                  go_wp2_with (refine L_istore (.tmp 2) (.tmp 14) 0 0 0 rfl rfl HR.out ?_)
                  refine bodyPost_ret (v := readV none) (results_ctR rfl _ _ rfl (HR.out.row #[.int .u64 0, .int .i64 0, .int .u64 0]).idload rfl) rfl ?_
                  rw [HNO.out]
                  exact ⟨rfl, below_setRowI HBI.out (by omega) _⟩
                · skip
                  have hd5 : decide (ch.toNat ≤ 57) = false := by simp; omega
                  have hd6 : decide ((ch.toNat : Int) ≤ 57) = false := by simp; omega
                  clear c46 c48 c57 h1 h2
                  go_wp2_with (refine L_istore (.tmp 2) (.tmp 14) 0 0 0 rfl rfl HR.out ?_)
                  refine bodyPost_ret (v := readV none) (results_ctR rfl _ _ rfl (HR.out.row #[.int .u64 0, .int .i64 0, .int .u64 0]).idload rfl) rfl ?_
                  rw [HNO.out]
                  exact ⟨rfl, below_setRowI HBI.out (by omega) _⟩
              · skip
                have hd3 : decide (48 ≤ ch.toNat) = false := by simp; omega
                have hd4 : decide ((48 : Int) ≤ (ch.toNat : Int)) = false := by simp; omega
                clear c46 c48 h1 h2
                go_wp2_with (refine L_istore (.tmp 2) (.tmp 14) 0 0 0 rfl rfl HR.out ?_)
                refine bodyPost_ret (v := readV none) (results_ctR rfl _ _ rfl (HR.out.row #[.int .u64 0, .int .i64 0, .int .u64 0]).idload rfl) rfl ?_
                rw [HNO.out]
                exact ⟨rfl, below_setRowI HBI.out (by omega) _⟩
      · have hh := decode_high s pos hp (by omega)
        have hl := decode_le s pos
        have hnx : ∀ ty, (Instr.next (.pointer (some ⟨w.heap.size + 1 + 1, 0, none⟩)) true ty).run Tryd.prog (X.iter s pos) = .ok (.tuple #[.bool true, .int .i64 pos, .int .i32 ((Utf8.decode s pos).1 : Nat)]) (X.iter s (pos + (Utf8.decode s pos).2)) := fun ty => by
          rw [← HXH.out]; exact run_next_any X s pos ty hp
        have HNO : Hid (readB s.data.toList = none) := by
          have h1 : ¬ ((s[pos]).toNat = 46 ∧ st.at_ < 2) := by omega
          have h2 : ¬ (48 ≤ (s[pos]).toNat ∧ (s[pos]).toNat ≤ 57 ∧ st.n st.at_ ≤ 1844674407370955160) := by omega
          have h0 : parse (s.data.toList.take (pos + 1)) = none := by
            rw [take_succ_ba s pos hp]
            unfold parse at HPA ⊢
            rw [pfold_snoc, HPA.out]
            show pstep st s[pos] = none
            unfold pstep; rw [if_neg h1, if_neg h2]
          have h9 : parse s.data.toList = none := by rw [← List.take_append_drop (pos + 1) s.data.toList]; exact parse_none h0
          show _ = _
          unfold readB; rw [h9]
        generalize (Utf8.decode s pos).1 = r at hh hl hnx
        generalize pos + (Utf8.decode s pos).2 = pos2 at hnx
        have HR := Lib.hid (hr.iter s pos2)
        have HBI := Lib.hid (below_iter hB hBz s pos2)
        obtain ⟨hh, -⟩ := hh
        have hd1 : (((r : Nat) : Int) == 46) = false := by rw [beq_eq_false_iff_ne]; omega
        have hd3 : decide (48 ≤ r) = true := by simp; omega
        have hd4 : decide ((48 : Int) ≤ (r : Int)) = true := by simp; omega
        have hd5 : decide (r ≤ 57) = false := by simp; omega
        have hd6 : decide ((r : Int) ≤ 57) = false := by simp; omega
        clear hgood hr hn hB hat hnb HPA ha hh hl
        go_wp2_with (refine L_istore (.tmp 2) (.tmp 14) 0 0 0 rfl rfl HR.out ?_)
        refine bodyPost_ret (v := readV none) (results_ctR rfl _ _ rfl (HR.out.row #[.int .u64 0, .int .i64 0, .int .u64 0]).idload rfl) rfl ?_
        rw [HNO.out]
        exact ⟨rfl, below_setRowI HBI.out (by omega) _⟩
    · have hpe : pos = s.size := by omega
      have hnx : ∀ ty, (Instr.next (.pointer (some ⟨w.heap.size + 1 + 1, 0, none⟩)) true ty).run Tryd.prog (X.iter s pos) = .ok (.tuple #[.bool false]) (X.iter s pos) := fun ty => by
        rw [← HXH.out]; exact run_next_end X s pos ty hp
      have HPS : Hid (parse s.data.toList = some st) := by
        have := HPA.out
        rw [List.take_of_length_le (by rw [hpe]; simp)] at this
        exact this
      have HR := Lib.hid (hr.iter s pos)
      have HN := Lib.hid (hn.iter s pos)
      have HBI := Lib.hid (below_iter hB hBz s pos)
      have HTI : Hid (Tab (X.iter s pos)) := tab_below HT.out (below_iter hB hBz s pos)
      have HGO := Lib.hid hgood
      clear hr hn hB HPA hpe hp hpos hat hnb hgood HXH
      generalize X.iter s pos = Y at hnx HR HN HBI HTI ⊢
      have n0 := HN.out.cell 0
      have n1 := HN.out.cell 1
      have n2 := HN.out.cell 2
      simp at n0 n1 n2
      by_cases h8 : 8 < st.n 1
      · have hd1 : decide (8 < st.n 1) = true := by simp; omega
        have hd2 : decide ((8 : Int) < (st.n 1 : Int)) = true := by simp; omega
        have HNO : Hid (readB s.data.toList = none) := by show _ = _; unfold readB; rw [HPS.out]; simp [h8]
        clear h8
        go_wp2_with (refine L_istore (.tmp 2) (.tmp 50) 0 0 0 rfl rfl HR.out ?_)
        refine bodyPost_ret (v := readV none) (results_ctR rfl _ _ rfl (HR.out.row #[.int .u64 0, .int .i64 0, .int .u64 0]).idload rfl) rfl ?_
        rw [HNO.out]
        exact ⟨rfl, below_setRowI HBI.out (by omega) _⟩
      · have hd1 : decide (8 < st.n 1) = false := by simp; omega
        have hd2 : decide ((8 : Int) < (st.n 1 : Int)) = false := by simp; omega
        have hw : IntKind.i64.wrap (st.n 1 : Int) = (st.n 1 : Int) := IntWalk.i64_in _ (by omega)
        have h8' : (st.n 1 : Int) ≤ 8 := by omega
        cases hid : okId (st.n 0) (st.n 1) (st.n 2) with
        | false =>
          have HC := Lib.hid (fun W => Check_id_bad (st.n 0) (st.n 1) (st.n 2) hid W)
          have HNO : Hid (readB s.data.toList = none) := by show _ = _; unfold readB; rw [HPS.out]; simp [hid]
          clear h8 hid
          go_wp2_with fail
          refine (HC.out _).mono ?_
          rintro e W2 ⟨rfl, hb⟩
          have hby := Below.trans ((Below.refl _ _).alloc (Nat.le_refl _) _) (hb.mono (by simp))
          replace HR := Lib.hid (HR.out.below hby HR.out.lt)
          replace HBI := Lib.hid (HBI.out.trans (hby.mono HBI.out.size))
          clear hb hby
          go_wp2_with (refine L_istore (.tmp 2) (.tmp 68) 0 0 0 rfl rfl HR.out ?_)
          refine bodyPost_ret (v := readV none) (results_ctR rfl _ _ rfl (HR.out.row #[.int .u64 0, .int .i64 0, .int .u64 0]).idload rfl) rfl ?_
          rw [HNO.out]
          exact ⟨rfl, below_setRowI HBI.out (by omega) _⟩
        | true =>
          have HC := Lib.hid (fun W => Check_id_ok (st.n 0) (st.n 1) (st.n 2) hid W)
          have HX := Lib.hid (fun W h => TextId_any (st.n 0) (st.n 1) (st.n 2) (HGO.out.2 0) (by omega) (by omega) (HGO.out.2 2) W h)
          have HID := Lib.hid hid
          have HI0 := Lib.hid (Blk.new Y 27 #[.int .u64 (st.n 0 : Int), .int .i64 (st.n 1 : Int), .int .u64 (st.n 2 : Int)])
          have hby : Below Y.heap.size Y (Y.alloc (.cells #[.int .u64 (st.n 0 : Int), .int .i64 (st.n 1 : Int), .int .u64 (st.n 2 : Int)] 27)) := (Below.refl _ _).alloc (Nat.le_refl _) _
          have HR1 := Lib.hid (HR.out.below hby HR.out.lt)
          have HBI1 := Lib.hid (HBI.out.trans (hby.mono HBI.out.size))
          have HTI1 : Hid (Tab (Y.alloc (.cells #[.int .u64 (st.n 0 : Int), .int .i64 (st.n 1 : Int), .int .u64 (st.n 2 : Int)] 27))) := tab_below HTI.out hby
          clear hid hby HR HBI HTI
          go_wp2_with fail
          refine (HC.out _).mono ?_
          rintro e W2 ⟨rfl, hb⟩
          have HI2 := Lib.hid (HI0.out.below hb HI0.out.lt)
          have HR2 := Lib.hid (HR1.out.below hb HR1.out.lt)
          have HB2 := Lib.hid (HBI1.out.trans (hb.mono HBI1.out.size))
          have HT2 := Lib.hid (tab_below HTI1.out hb)
          clear hb HI0 HR1 HBI1 HTI1
          generalize Y.heap.size = p8 at HI2 ⊢
          have i0 := HI2.out.cell 0
          have i1 := HI2.out.cell 1
          have i2 := HI2.out.cell 2
          simp at i0 i1 i2
          go_wp2_with fail
          refine (HX.out _ HT2.out).mono ?_
          rintro e W3 ⟨rfl, hb⟩
          have HI := Lib.hid (HI2.out.below hb HI2.out.lt)
          have HR := Lib.hid (HR2.out.below hb HR2.out.lt)
          have HBI := Lib.hid (HB2.out.trans (hb.mono HB2.out.size))
          clear hb HI2 HR2 HB2 HT2 i0 i1 i2
          have i0 := HI.out.cell 0
          have i1 := HI.out.cell 1
          have i2 := HI.out.cell 2
          simp at i0 i1 i2
          by_cases heq : textOf (st.n 0) (st.n 1) (st.n 2) = s.data.toList
          · have hb1 : (textOf (st.n 0) (st.n 1) (st.n 2) == s.toList) = true := by rw [ByteArray.toList_eq, beq_iff_eq]; exact heq
            have HNO : Hid (readB s.data.toList = some ⟨st.n 0, st.n 1, st.n 2⟩) := by show _ = _; unfold readB; rw [HPS.out]; simp only; rw [if_neg h8, if_pos ⟨HID.out, heq⟩]
            clear heq h8 h8' HPS HID HGO
            generalize textOf (st.n 0) (st.n 1) (st.n 2) = tx at hb1 ⊢
            go_wp2_with (refine L_istore (.tmp 2) (.tmp 69) (st.n 0) (st.n 1) (st.n 2) rfl rfl HR.out ?_)
            refine bodyPost_ret (v := readV (some ⟨st.n 0, st.n 1, st.n 2⟩)) (results_ctR rfl _ _ rfl (HR.out.row #[.int .u64 (st.n 0 : Int), .int .i64 (st.n 1 : Int), .int .u64 (st.n 2 : Int)]).idload rfl) rfl ?_
            rw [HNO.out]
            exact ⟨rfl, below_setRowI HBI.out (by omega) _⟩
          · have hb1 : (textOf (st.n 0) (st.n 1) (st.n 2) == s.toList) = false := by rw [ByteArray.toList_eq, beq_eq_false_iff_ne]; exact heq
            have HNO : Hid (readB s.data.toList = none) := by show _ = _; unfold readB; rw [HPS.out]; simp only; rw [if_neg h8, if_neg (fun h => heq h.2)]
            clear heq h8 h8' HPS HID HGO
            generalize textOf (st.n 0) (st.n 1) (st.n 2) = tx at hb1 ⊢
            go_wp2_with (refine L_istore (.tmp 2) (.tmp 68) 0 0 0 rfl rfl HR.out ?_)
            refine bodyPost_ret (v := readV none) (results_ctR rfl _ _ rfl (HR.out.row #[.int .u64 0, .int .i64 0, .int .u64 0]).idload rfl) rfl ?_
            rw [HNO.out]
            exact ⟨rfl, below_setRowI HBI.out (by omega) _⟩
end Go.Proofs.YtoiaecfiinkmjaaDoor
