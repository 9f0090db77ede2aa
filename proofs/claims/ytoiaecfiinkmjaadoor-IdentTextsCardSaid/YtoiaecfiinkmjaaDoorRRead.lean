/- gessoref11.Read: its contract. -/
import Derived.Test.YtoiaecfiinkmjaaDoorRPart
import Derived.Test.YtoiaecfiinkmjaaDoorRefTxt2
import Derived.Test.YtoiaecfiinkmjaaDoorRef11S
import Derived.Test.YtoiaecfiinkmjaaDoorClock
import Derived.Test.YtoiaecfiinkmjaaDoorAppend
namespace Go.Proofs.YtoiaecfiinkmjaaDoor
open Go.RowKit Go.Shelf

theorem infoStr : (Tryd.prog.info? 9).map (fun i => (i.zero, i.size, i.bytes)) = some (some (.string ⟨#[]⟩), 1, 16) := by kernel_rfl
theorem ba_part (l : List UInt8) (f k : Nat) : (⟨l.toArray⟩ : ByteArray).extract f k = ⟨((l.take k).drop f).toArray⟩ := by
  apply ByteArray.ext
  rw [ByteArray.data_extract]
  simp [List.drop_take]
theorem own_slice {w : World} {B e size n : Nat} {v : Value} {xs : List Value} (h : w.ownsRow B e size v n xs) : ∃ p c, v = .slice p n c := by
  rcases h.2 with ⟨rfl, h0⟩ | ⟨g, cap, cur, rfl, _⟩
  · exact ⟨none, 0, by rw [h0]⟩
  · exact ⟨_, _, rfl⟩
theorem pv_lt (l : List UInt8) : (pv l).1 < 10000000000000000000 := by
  unfold pv
  split
  · rename_i h; exact numOf_take_lt (all_take h 19) (Nat.le_refl _)
  · simp
/-- what is known through the loop. -/
structure RdR (l : List UInt8) (w : World) (k : Nat) (v fr : Value) (wr : World) : Prop where
  fr : fr = .int .i64 ((seg l k).2 : Nat)
  own : wr.ownsRow (w.heap.size + 1) 9 1 v (seg l k).1.length ((seg l k).1.map strV)
  hb : Below w.heap.size w wr
  res : Blk wr w.heap.size 27 #[.int .u64 0, .int .i64 0, .int .u64 0]
theorem own_below {w w' : World} {B e size n : Nat} {v : Value} {xs : List Value} (h : w.ownsRow B e size v n xs) (hb : Below w.heap.size w w') : w'.ownsRow B e size v n xs := by
  refine ⟨h.1, ?_⟩
  rcases h.2 with hn | ⟨g, cap, cur, rfl, hg, hgg, rest⟩
  · exact .inl hn
  · exact .inr ⟨g, cap, cur, rfl, hg, by rw [hb.block g (Array.getElem?_eq_some_iff.1 hgg).1]; exact hgg, rest⟩
theorem grown_below {W w1 : World} {B C e size k : Nat} {v : Value} {xs : List Value} (hrow : W.ownsRow B e size v k xs) (hCB : C ≤ B) (hB : C ≤ W.heap.size) (hgrow : W.grownBy w1 v.ownBlock) : Below C W w1 :=
  (Below.refl C W).grown hgrow hB fun j ej => by
    rcases hrow.2 with ⟨rfl, _⟩ | ⟨g, cap, cur, rfl, hb, _, _⟩
    · simp [Value.ownBlock] at ej
    · obtain rfl : g = j := by simpa [Value.ownBlock] using ej
      omega
theorem rd_step {l : List UInt8} {w wr w3 : World} {k f : Nat} {P : List (List UInt8)} {v fr v' x : Value} {T : TypeId} (h : RdR l w k v fr wr) (hh : k = l.length ∨ l[k]? = some 46) (hq : seg l k = (P, f))
    (hown : w3.ownsRow (w.heap.size + 1) 9 1 v' ((seg l k).1.length + 1) ((seg l k).1.map strV ++ [strV ((l.take k).drop f)])) (hg : (wr.alloc (.cells #[x] T)).grownBy w3 v.ownBlock) : RdR l w (k + 1) v' (.int .i64 ((k : Int) + 1)) w3 := by
  have hs := seg_hit hh
  have ho := own_below h.own ((Below.refl _ _).alloc (Nat.le_refl _) (.cells #[x] T))
  have hb : Below (w.heap.size + 1) (wr.alloc (.cells #[x] T)) w3 := grown_below ho (Nat.le_refl _) (by have := h.res.lt; simp; omega) hg
  have hb2 : Below (w.heap.size + 1) wr w3 := ((Below.refl _ _).alloc (by have := h.res.lt; omega) _).trans hb
  refine ⟨by rw [hs]; simp, ?_, h.hb.trans (hb2.mono (Nat.le_succ _)), h.res.below hb2 (Nat.lt_succ_self _)⟩
  rw [hs]
  simp only [List.length_append, List.length_singleton, List.map_append, List.map_cons, List.map_nil]
  rw [hq] at hown ⊢
  exact hown

/-- the last region: what holds of each world; what is known of the operations; what each leaves. -/
def rdS (w : World) (p : Nat) (va vb vc : Nat) (Y : World) : Prop := Blk Y p 27 #[.int .u64 va, .int .i64 vb, .int .u64 vc] ∧ (∃ a b c, Blk Y w.heap.size 27 #[a, b, c]) ∧ Below w.heap.size w Y
def rdF (r : Nat) (b : Bool) (tx : List UInt8) (va vb vc : Nat) : Nat → Value → World → Prop := fun k u Y => match k with
  | 2 => u = .bool b
  | 5 => b = true → u = strV tx
  | 9 => Blk Y r 27 #[.int .u64 va, .int .i64 vb, .int .u64 vc]
  | _ => True
def rdR : Nat → World → World → Prop := fun k Y Y' => match k with
  | 9 => True
  | _ => Below Y.heap.size Y Y'
theorem rd_no {r : Nat} {b : Bool} {tx : List UInt8} {va vb vc : Nat} : ∀ j ∈ [9], ∀ v w, rdF r b tx va vb vc j v w → rdF r b tx va vb vc j undef w := by
  intro j hj v w h
  simp at hj
  subst hj
  exact h
theorem rd_stab {late : Nat → Nat → Bool} {r : Nat} {b : Bool} {tx : List UInt8} {va vb vc : Nat} : Rely.Outlasts (rdF r b tx va vb vc) rdR late := by
  intro j k v w w' _ hne hR hF
  unfold rdF at hF ⊢
  split
  · exact hF
  · exact hF
  · unfold rdR at hR
    split at hR
    · exact absurd rfl hne
    · exact hF.below hR hF.lt
  · trivial

set_option maxRecDepth 100000 in
set_option maxHeartbeats 2000000 in
theorem RRead_any (l : List UInt8) (hl : l.length ≤ 1000) (w : World) : Calls Tryd.prog 13 #[strV l] w (Ret (.tuple #[(rread l).1.val, .bool (rread l).2]) w) := by
  obtain ⟨i0, hi, hz0, hz1, hz2⟩ := info_parts infoStr
  have HR := Lib.hid (Blk.new w 27 #[.int .u64 0, .int .i64 0, .int .u64 0])
  have HW : Hid (Below w.heap.size w (w.alloc (.cells #[.int .u64 0, .int .i64 0, .int .u64 0] 27))) := (Below.refl _ _).alloc (Nat.le_refl _) _
  go_enter Tryd.func13, Tryd.ntmps13
  go_wp2_with fail
  generalize w.alloc (.cells #[.int .u64 0, .int .i64 0, .int .u64 0] 27) = X0 at HR HW ⊢
  go_loopw [4, 5, 17] (fun v fr i wr => ∃ k : Nat, k ≤ l.length + 1 ∧ i = .int .i64 k ∧ Hid (RdR l w k v fr wr)) (fun _ _ i _ => l.length + 1 - (RowKit.intOf i).toNat)
  case atStart => exact ⟨0, Nat.zero_le _, rfl, ⟨rfl, ⟨by simp [seg], .inl ⟨rfl, rfl⟩⟩, HW.out, HR.out⟩⟩
  case round =>
    obtain ⟨k, hk, rfl, HF⟩ := hrel
    clear HR HW
    obtain rfl := HF.out.fr
    have hfk := seg_le l k
    have hex := ba_part l (seg l k).2 k
    obtain ⟨P, f, HQ⟩ : ∃ P f, Hid (seg l k = (P, f)) := ⟨_, _, rfl⟩
    have hfe : (seg l k).2 = f := by rw [HQ.out]
    rw [hfe] at hfk hex
    rw [hfe] at HF ⊢
    clear hfe
    by_cases hlt : k < l.length
    · have hb1 : ((k : Int) == (l.length : Int)) = false := by rw [beq_eq_false_iff_ne]; omega
      obtain ⟨c, hc⟩ : ∃ c : UInt8, (⟨l.toArray⟩ : ByteArray)[k]'(by show k < l.toArray.size; simpa using hlt) = c := ⟨_, rfl⟩
      have HC : Hid (l[k]? = some c) := by show _ = _; rw [List.getElem?_eq_getElem hlt]; exact congrArg some hc
      by_cases h46 : c.toNat = 46
      · have hb2 : ((c.toNat : Int) == 46) = true := by rw [beq_iff_eq]; omega
        have HH : Hid (k = l.length ∨ l[k]? = some 46) := .inr (by rw [HC.out]; congr 1; exact UInt8.toNat_inj.1 h46)
        clear h46
        go_wp2_with (at_builtin; go_loud (refine wpList_append_own _ rfl _ _ 23 rfl (w.heap.size + 1) 9 i0 (.string ⟨#[]⟩) 1 16 Tryd.underlying23 hi hz0 hz1 hz2 rfl (by decide) _ _ _ rfl (own_below HF.out.own ((Below.refl _ _).alloc (Nat.le_refl _) _)) ⟨wr.heap.size, 0, none⟩ 1 1 [strV ((l.take k).drop f)] rfl rfl ?news ?one ?h63 ?hby ?hbase ?_))
        try (case news => intro j u hu; rw [show (⟨wr.heap.size, 0, none⟩ : Addr).add j = ⟨wr.heap.size, j, none⟩ from by simp [Addr.add]; omega, (Blk.new wr 9 #[strV ((l.take k).drop f)]).cell]; simpa using hu)
        try (case one => first | (intro u hu; simp at hu; subst hu; rfl) | rfl | (simp [Value.oneCell']; done))
        case h63 => have := seg_len l (k); have := HQ.out; unfold maxLen; simp_all; omega
        case hby => have := seg_len l (k); have := HQ.out; simp_all; omega
        case hbase => have := HF.out.res.lt; simp; omega
        intro v' w3 hown' hgrow' _
        have HF' : Hid (RdR l w (k + 1) v' (.int .i64 (((k : Nat) : Int) + 1)) w3) := rd_step HF.out (HH.out) HQ.out (hown') hgrow'
        clear hown' hgrow'
        go_wp2_with fail
        go_roundw
        case rel => exact ⟨k + 1, by omega, by go_num, HF'⟩
        case measure => simp [RowKit.intOf] <;> omega
      · have hb2 : ((c.toNat : Int) == 46) = false := by rw [beq_eq_false_iff_ne]; omega
        have HS : Hid (seg l (k + 1) = seg l k) := seg_miss (fun h => by
          rcases h with h | h
          · omega
          · rw [HC.out] at h; obtain rfl := Option.some.inj h; exact h46 rfl)
        clear h46
        go_wp2_with fail
        go_roundw
        case rel => exact ⟨k + 1, by omega, by go_num, ⟨by rw [HS.out, HQ.out], by rw [HS.out]; exact HF.out.own, HF.out.hb, HF.out.res⟩⟩
        case measure => simp [RowKit.intOf]; omega
    · by_cases hke : k = l.length
      · subst hke
        have HH : Hid (l.length = l.length ∨ l[l.length]? = some 46) := .inl rfl
        rw [List.take_length] at hex
        go_wp2_with (at_builtin; go_loud (refine wpList_append_own _ rfl _ _ 23 rfl (w.heap.size + 1) 9 i0 (.string ⟨#[]⟩) 1 16 Tryd.underlying23 hi hz0 hz1 hz2 rfl (by decide) _ _ _ rfl (own_below HF.out.own ((Below.refl _ _).alloc (Nat.le_refl _) _)) ⟨wr.heap.size, 0, none⟩ 1 1 [strV (l.drop f)] rfl rfl ?news ?one ?h63 ?hby ?hbase ?_))
        try (case news => intro j u hu; rw [show (⟨wr.heap.size, 0, none⟩ : Addr).add j = ⟨wr.heap.size, j, none⟩ from by simp [Addr.add]; omega, (Blk.new wr 9 #[strV (l.drop f)]).cell]; simpa using hu)
        try (case one => first | (intro u hu; simp at hu; subst hu; rfl) | rfl | (simp [Value.oneCell']; done))
        case h63 => have := seg_len l (l.length); have := HQ.out; unfold maxLen; simp_all; omega
        case hby => have := seg_len l (l.length); have := HQ.out; simp_all; omega
        case hbase => have := HF.out.res.lt; simp; omega
        intro v' w3 hown' hgrow' _
        have HF' : Hid (RdR l w (l.length + 1) v' (.int .i64 (((l.length : Nat) : Int) + 1)) w3) := rd_step HF.out (.inl rfl) HQ.out ((by rw [List.take_length]; exact hown')) hgrow'
        clear hown' hgrow'
        go_wp2_with fail
        go_roundw
        case rel => exact ⟨l.length + 1, by omega, by go_num, HF'⟩
        case measure => simp [RowKit.intOf] <;> omega
      · obtain rfl : k = l.length + 1 := by omega
        have ho := HF.out.own
        have HR := Lib.hid HF.out.res
        have HB := Lib.hid HF.out.hb
        rw [HQ.out] at ho
        clear HF hex hk hlt hke
        by_cases h3 : P.length = 3
        · obtain ⟨a, b, c, rfl⟩ : ∃ a b c, P = [a, b, c] := by
            match P, h3 with
            | [a, b, c], _ => exact ⟨a, b, c, rfl⟩
          have hpl := seg_part l (l.length + 1)
          rw [HQ.out] at hpl
          have hla := hpl a (by simp)
          have hlb := hpl b (by simp)
          have hlc := hpl c (by simp)
          have HA := Lib.hid (fun W => RPart_any a (by omega) W)
          have HB2 := Lib.hid (fun W => RPart_any b (by omega) W)
          have HC := Lib.hid (fun W => RPart_any c (by omega) W)
          have HV : Hid (rread l = if (pv a).2 = true ∧ (pv b).2 = true ∧ (pv c).2 = true ∧ (pv b).1 ≤ 8 then (⟨(pv a).1, (pv b).1, (pv c).1⟩, okId (pv a).1 (pv b).1 (pv c).1 && (textOf (pv a).1 (pv b).1 (pv c).1 == l)) else (⟨0, 0, 0⟩, false)) := by
            show _ = _; unfold rread; rw [HQ.out]
          have hva := pv_lt a
          have hvc := pv_lt c
          generalize pv a = xa at HA HV hva
          generalize pv b = xb at HB2 HV
          generalize pv c = xc at HC HV hvc
          obtain ⟨va, oa⟩ := xa
          obtain ⟨vb, ob⟩ := xb
          obtain ⟨vc, oc⟩ := xc
          simp only at HV hva hvc
          obtain ⟨g, cap, rfl⟩ := ownsRow_succ (k := 2) ho
          have hcs := ho.cells (g := g) rfl
          have e0 := hcs 0 _ rfl
          have e1 := hcs 1 _ rfl
          have e2 := hcs 2 _ rfl
          simp [Addr.add] at e0 e1 e2
          clear hcs ho hpl h3 HQ
          go_wp2_with fail
          refine (HA.out _).mono ?_
          rintro e w' ⟨rfl, rfl⟩
          go_wp2_with fail
          refine (HB2.out _).mono ?_
          rintro e w' ⟨rfl, rfl⟩
          go_wp2_with fail
          refine (HC.out _).mono ?_
          rintro e w' ⟨rfl, rfl⟩
          clear HA HB2 HC e0 e1 e2
          by_cases hok : oa = true ∧ ob = true ∧ oc = true ∧ vb ≤ 8
          · obtain ⟨rfl, rfl, rfl, h8⟩ := hok
            replace HV : Hid (rread l = (⟨va, vb, vc⟩, okId va vb vc && (textOf va vb vc == l))) := by show _ = _; rw [HV.out, if_pos ⟨rfl, rfl, rfl, h8⟩]
            have hw1 : IntKind.i64.wrap (vb : Int) = (vb : Int) := IntWalk.i64_in _ (by omega)
            go_wp2_with fail
            have HX := Lib.hid (Blk.new w' 27 #[.int .u64 va, .int .i64 vb, .int .u64 vc])
            have hby : Below w'.heap.size w' (w'.alloc (.cells #[.int .u64 va, .int .i64 vb, .int .u64 vc] 27)) := (Below.refl _ _).alloc (Nat.le_refl _) _
            have HR0 : Hid (w.heap.size < w'.heap.size) := HR.out.lt
            replace HR := Lib.hid (HR.out.below hby HR.out.lt)
            replace HB := Lib.hid (HB.out.trans (hby.mono HB.out.size))
            have HPL : Hid (w.heap.size < w'.heap.size) := HR0.out
            clear hby hw1 HR0
            generalize w'.alloc (.cells #[.int .u64 va, .int .i64 vb, .int .u64 vc] 27) = W at HX HR HB ⊢
            generalize w'.heap.size = p1 at HX HPL ⊢
            have C1 := Lib.hid (fun Y => RId_any va vb vc Y)
            have C2 := Lib.hid (fun Y => RText_any va vb vc (by omega) (by omega) (by omega) (by omega) Y)
            obtain ⟨S, hS⟩ : ∃ S : World → Prop, S = rdS w p1 va vb vc := ⟨_, rfl⟩
            have HS : Hid (∀ Y, S Y → rdS w p1 va vb vc Y) := by intro Y hY; rw [hS] at hY; exact hY
            have HSi : Hid (∀ Y, rdS w p1 va vb vc Y → S Y) := by intro Y hY; rw [hS]; exact hY
            have HSx : Hid (∀ Y, S Y → Y.cell? ⟨p1, 0, none⟩ = some (.int .u64 va) ∧ Y.cell? ⟨p1, 1, none⟩ = some (.int .i64 vb) ∧ Y.cell? ⟨p1, 2, none⟩ = some (.int .u64 vc)) := fun Y hY => by
              have h := (HS.out Y hY).1
              exact ⟨h.cell 0, h.cell 1, h.cell 2⟩
            have HSn : Hid (∀ Y Y', S Y → Below Y.heap.size Y Y' → S Y') := by
              intro Y Y' hY hb
              obtain ⟨k1, ⟨a0, b0, c0, k2⟩, kb⟩ := HS.out Y hY
              exact HSi.out _ ⟨k1.below hb k1.lt, ⟨_, _, _, k2.below hb k2.lt⟩, kb.trans (hb.mono kb.size)⟩
            have hS0 : S W.drew := HSi.out _ ⟨HX.out.drew, ⟨_, _, _, HR.out.drew⟩, HB.out.drew⟩
            have HP : Hid (w.heap.size < p1) := HPL.out
            clear hS HR HB HX
            cases hok : okId va vb vc with
            | true =>
              have HRD : Hid (rread l = (⟨va, vb, vc⟩, textOf va vb vc == l)) := by show _ = _; rw [HV.out, hok, Bool.true_and]
              rw [hok] at C1
              clear HV hok
              generalize textOf va vb vc = tx at HRD C2
              refine Rely.wp_region 10 S (rdF w.heap.size (true) (tx) va vb vc) rdR rfl (by kernel_rfl) (by kernel_rfl) (by kernel_rfl) (by kernel_rfl) [9] (by kernel_rfl) rd_no rd_stab hS0 ?_
              clear hS0
              simp only [List.take_succ_cons, List.take_zero, List.drop_succ_cons, List.drop_zero]
              refine Rely.relSeq_on rfl (fun K hK w1 hS1 hD1 => ?_)
              obtain ⟨i0, i1, i2⟩ := HSx.out w1 hS1
              go_simp
              refine ⟨⟨trivial, hS1, Below.refl _ _⟩, hK _ ?_⟩
              clear hK hD1 i0 i1 i2 hS1 K w1
              refine Rely.relSeq_on rfl (fun K hK w1 hS1 hD1 => ?_)
              obtain ⟨i0, i1, i2⟩ := HSx.out w1 hS1
              go_simp
              refine ⟨⟨trivial, hS1, Below.refl _ _⟩, hK _ ?_⟩
              clear hK hD1 i0 i1 i2 hS1 K w1
              refine Rely.relSeq_on rfl (fun K hK w1 hS1 hD1 => ?_)
              go_simp
              refine ⟨(C1.out w1).mono fun e w2 he => ⟨_, he.1, rfl, HSn.out _ _ hS1 he.2, he.2⟩, fun v hv => ?_⟩
              obtain ⟨_, _, hv⟩ := hv.out
              obtain rfl : v = .bool (true) := hv
              refine hK _ ?_
              clear hK hD1 hS1 K w1 hv
              refine Rely.relSeq_on rfl (fun K hK w1 hS1 hD1 => ?_)
              go_simp
              refine ⟨⟨trivial, hS1, Below.refl _ _⟩, hK _ ?_⟩
              clear hK hD1 hS1 K w1
              refine Rely.relSeq_on rfl (fun K hK w1 hS1 hD1 => ?_)
              obtain ⟨i0, i1, i2⟩ := HSx.out w1 hS1
              go_simp
              refine ⟨⟨trivial, hS1, Below.refl _ _⟩, hK _ ?_⟩
              clear hK hD1 i0 i1 i2 hS1 K w1
              refine Rely.relSeq_on rfl (fun K hK w1 hS1 hD1 => ?_)
              go_simp
              refine ⟨(C2.out w1).mono fun e w2 he => ⟨_, he.1, (fun _ => rfl), HSn.out _ _ hS1 he.2, he.2⟩, fun v hv => ?_⟩
              obtain ⟨_, _, hv⟩ := hv.out
              obtain rfl : v = strV tx := hv rfl
              refine hK _ ?_
              clear hK hD1 hS1 K w1 hv
              refine Rely.relSeq_on rfl (fun K hK w1 hS1 hD1 => ?_)
              go_simp
              refine ⟨⟨trivial, hS1, Below.refl _ _⟩, hK _ ?_⟩
              clear hK hD1 hS1 K w1
              refine Rely.relSeq_on rfl (fun K hK w1 hS1 hD1 => ?_)
              go_simp
              refine ⟨⟨trivial, hS1, Below.refl _ _⟩, hK _ ?_⟩
              clear hK hD1 hS1 K w1
              refine Rely.relSeq_on rfl (fun K hK w1 hS1 hD1 => ?_)
              go_simp
              refine ⟨⟨trivial, hS1, Below.refl _ _⟩, hK _ ?_⟩
              clear hK hD1 hS1 K w1
              refine Rely.relSeq_on rfl (fun K hK w1 hS1 hD1 => ?_)
              obtain ⟨k1, ⟨a0, b0, c0, k2⟩, kb⟩ := HS.out w1 hS1
              refine Rely.step_store 27 (.tmp 2) (.tmp 85) rfl _ _ rfl rfl (k2.store (cs' := #[.int .u64 va, .int .i64 vb, .int .u64 vc]) (by kernel_rfl) rfl (by simp [Value.oneCell'])) ⟨k2.row _, HSi.out _ ⟨k1.row_other (by have := HP.out; omega) _, ⟨_, _, _, k2.row _⟩, below_setRowK kb (Nat.le_refl _) _⟩, trivial⟩ (hK _ ?_)
              clear hK hD1 hS1 K k1 k2 kb w1
              refine Rely.relSeq_nil ?_
              intro listed Z hSZ hFZ hlZ
              have HRZ : Hid (Blk Z w.heap.size 27 #[.int .u64 va, .int .i64 vb, .int .u64 vc]) := hFZ.2 9 _ rfl rfl (hlZ 9 (by omega))
              have HBZ := Lib.hid (HS.out Z hSZ).2.2
              clear hFZ hlZ hSZ HS HSi HSx HSn
              go_wp2_with fail
              refine bodyPost_ret (v := .tuple #[idV va vb vc, .bool (tx == l)]) (results_ctR rfl _ _ rfl HRZ.out.iload (by simp)) rfl ?_
              rw [HRD.out]
              exact ⟨rfl, HBZ.out⟩
            | false =>
              have HRD : Hid (rread l = (⟨va, vb, vc⟩, false)) := by show _ = _; rw [HV.out, hok, Bool.false_and]
              rw [hok] at C1
              clear HV C2 hok
              refine Rely.wp_region 10 S (rdF w.heap.size (false) ([]) va vb vc) rdR rfl (by kernel_rfl) (by kernel_rfl) (by kernel_rfl) (by kernel_rfl) [9] (by kernel_rfl) rd_no rd_stab hS0 ?_
              clear hS0
              simp only [List.take_succ_cons, List.take_zero, List.drop_succ_cons, List.drop_zero]
              refine Rely.relSeq_on rfl (fun K hK w1 hS1 hD1 => ?_)
              obtain ⟨i0, i1, i2⟩ := HSx.out w1 hS1
              go_simp
              refine ⟨⟨trivial, hS1, Below.refl _ _⟩, hK _ ?_⟩
              clear hK hD1 i0 i1 i2 hS1 K w1
              refine Rely.relSeq_on rfl (fun K hK w1 hS1 hD1 => ?_)
              obtain ⟨i0, i1, i2⟩ := HSx.out w1 hS1
              go_simp
              refine ⟨⟨trivial, hS1, Below.refl _ _⟩, hK _ ?_⟩
              clear hK hD1 i0 i1 i2 hS1 K w1
              refine Rely.relSeq_on rfl (fun K hK w1 hS1 hD1 => ?_)
              go_simp
              refine ⟨(C1.out w1).mono fun e w2 he => ⟨_, he.1, rfl, HSn.out _ _ hS1 he.2, he.2⟩, fun v hv => ?_⟩
              obtain ⟨_, _, hv⟩ := hv.out
              obtain rfl : v = .bool (false) := hv
              refine hK _ ?_
              clear hK hD1 hS1 K w1 hv
              refine Rely.relSeq_on rfl (fun K hK w1 hS1 hD1 => ?_)
              go_simp
              refine ⟨⟨trivial, hS1, Below.refl _ _⟩, hK _ ?_⟩
              clear hK hD1 hS1 K w1
              refine Rely.relSeq_off rfl (fun _ _ => trivial) (fun K hK => hK _ ?_)
              clear hK K
              refine Rely.relSeq_off rfl (fun _ _ h => by cases h) (fun K hK => hK _ ?_)
              clear hK K
              refine Rely.relSeq_off rfl (fun _ _ => trivial) (fun K hK => hK _ ?_)
              clear hK K
              refine Rely.relSeq_off rfl (fun _ _ => trivial) (fun K hK => hK _ ?_)
              clear hK K
              refine Rely.relSeq_on rfl (fun K hK w1 hS1 hD1 => ?_)
              go_simp
              refine ⟨⟨trivial, hS1, Below.refl _ _⟩, hK _ ?_⟩
              clear hK hD1 hS1 K w1
              refine Rely.relSeq_on rfl (fun K hK w1 hS1 hD1 => ?_)
              obtain ⟨k1, ⟨a0, b0, c0, k2⟩, kb⟩ := HS.out w1 hS1
              refine Rely.step_store 27 (.tmp 2) (.tmp 85) rfl _ _ rfl rfl (k2.store (cs' := #[.int .u64 va, .int .i64 vb, .int .u64 vc]) (by kernel_rfl) rfl (by simp [Value.oneCell'])) ⟨k2.row _, HSi.out _ ⟨k1.row_other (by have := HP.out; omega) _, ⟨_, _, _, k2.row _⟩, below_setRowK kb (Nat.le_refl _) _⟩, trivial⟩ (hK _ ?_)
              clear hK hD1 hS1 K k1 k2 kb w1
              refine Rely.relSeq_nil ?_
              intro listed Z hSZ hFZ hlZ
              have HRZ : Hid (Blk Z w.heap.size 27 #[.int .u64 va, .int .i64 vb, .int .u64 vc]) := hFZ.2 9 _ rfl rfl (hlZ 9 (by omega))
              have HBZ := Lib.hid (HS.out Z hSZ).2.2
              clear hFZ hlZ hSZ HS HSi HSx HSn
              go_wp2_with fail
              refine bodyPost_ret (v := .tuple #[idV va vb vc, .bool (false)]) (results_ctR rfl _ _ rfl HRZ.out.iload (by simp)) rfl ?_
              rw [HRD.out]
              exact ⟨rfl, HBZ.out⟩
          · have HRD : Hid (rread l = (⟨0, 0, 0⟩, false)) := by show _ = _; rw [HV.out, if_neg hok]
            clear HV
            cases oa
            · skip
              go_wp2_with (refine L_istoreV (.tmp 2) (.tmp 79) 0 0 0 rfl rfl HR.out ?_)
              refine bodyPost_ret (v := .tuple #[idV 0 0 0, .bool false]) (results_ctR rfl _ _ rfl (HR.out.row #[.int .u64 0, .int .i64 0, .int .u64 0]).iload rfl) rfl ?_
              rw [HRD.out]
              exact ⟨rfl, below_setRowK HB.out (Nat.le_refl _) _⟩
            · cases ob
              · skip
                go_wp2_with (refine L_istoreV (.tmp 2) (.tmp 79) 0 0 0 rfl rfl HR.out ?_)
                refine bodyPost_ret (v := .tuple #[idV 0 0 0, .bool false]) (results_ctR rfl _ _ rfl (HR.out.row #[.int .u64 0, .int .i64 0, .int .u64 0]).iload rfl) rfl ?_
                rw [HRD.out]
                exact ⟨rfl, below_setRowK HB.out (Nat.le_refl _) _⟩
              · cases oc
                · skip
                  go_wp2_with (refine L_istoreV (.tmp 2) (.tmp 79) 0 0 0 rfl rfl HR.out ?_)
                  refine bodyPost_ret (v := .tuple #[idV 0 0 0, .bool false]) (results_ctR rfl _ _ rfl (HR.out.row #[.int .u64 0, .int .i64 0, .int .u64 0]).iload rfl) rfl ?_
                  rw [HRD.out]
                  exact ⟨rfl, below_setRowK HB.out (Nat.le_refl _) _⟩
                · have hd : decide ((8 : Int) < (vb : Int)) = true := by simp at hok ⊢; omega
                  clear hok
                  go_wp2_with (refine L_istoreV (.tmp 2) (.tmp 79) 0 0 0 rfl rfl HR.out ?_)
                  refine bodyPost_ret (v := .tuple #[idV 0 0 0, .bool false]) (results_ctR rfl _ _ rfl (HR.out.row #[.int .u64 0, .int .i64 0, .int .u64 0]).iload rfl) rfl ?_
                  rw [HRD.out]
                  exact ⟨rfl, below_setRowK HB.out (Nat.le_refl _) _⟩
        · have hb3 : ((P.length : Int) == 3) = false := by rw [beq_eq_false_iff_ne]; omega
          have HRD : Hid (rread l = (⟨0, 0, 0⟩, false)) := by
            show _ = _
            unfold rread
            rw [HQ.out]
            split
            · rename_i hP
              exact absurd (by rw [show P = _ from hP]; rfl) h3
            · rfl
          obtain ⟨p, c', hv⟩ := own_slice ho
          clear ho h3
          subst hv
          go_wp2_with (refine L_istoreV (.tmp 2) (.tmp 43) 0 0 0 rfl rfl HR.out ?_)
          refine bodyPost_ret (v := .tuple #[idV 0 0 0, .bool false]) (results_ctR rfl _ _ rfl (HR.out.row #[.int .u64 0, .int .i64 0, .int .u64 0]).iload rfl) rfl ?_
          rw [HRD.out]
          exact ⟨rfl, below_setRowK HB.out (Nat.le_refl _) _⟩
end Go.Proofs.YtoiaecfiinkmjaaDoor
