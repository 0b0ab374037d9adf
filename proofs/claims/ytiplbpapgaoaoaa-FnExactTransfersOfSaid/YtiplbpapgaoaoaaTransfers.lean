/- Lists of transfers, and the indices of those from or to a party, in the program and in the reference. Conditions: none. -/
import Derived.Test.YtiplbpapgaoaoaaSmall
import Derived.Test.YtiplbpapgaoaoaaGen
import Derived.Test.YtiplbpapgaoaoaaGen2
namespace Go.Proofs.Ytiplbpapgaoaoaa
open Go.RowKit Enc Go.Shelf
set_option linter.unusedVariables false
set_option linter.unusedSimpArgs false
set_option maxHeartbeats 4000000 in
theorem c_spec_l28Are (v : Value) (xs : List Transfer) (w : World) (hv : Rd w v xs) (hx : ∀ x ∈ xs, Ms.ok x) (hm : xs.length ≤ 1048576) :
    Calls Try.prog 64 #[v] w fun e w' => e = .returned (.bool (allB transferB 10 xs)) ∧ Below w.heap.size w w' := by
  obtain ⟨A, cap, rfl, hlc, hcap, hrd⟩ := hv
  have HR := Lib.hid hrd; clear hrd
  go_enter Try.func64, Try.ntmps64
  go_wp2
  go_loopw [3] (fun i wr => ∃ (n : Nat), n ≤ xs.length ∧ i = .int .i64 n ∧ Hid ((xs.take n).all transferB = true) ∧ Below w.heap.size w wr) (fun i _ => xs.length - (intOf i).toNat)
  case atStart => exact ⟨0, Nat.zero_le _, rfl, rfl, below_rf _⟩
  case round =>
    obtain ⟨n, hn, rfl, HL, hb⟩ := hrel
    by_cases hlt : n < xs.length
    · obtain ⟨b, off, rfl, hbl, hc⟩ := HR.out (by omega)
      have c0 := (hb.cell hbl).trans (hc n hlt 0 _ rfl)
      have c1 := (hb.cell hbl).trans (hc n hlt 1 _ rfl)
      have c2 := (hb.cell hbl).trans (hc n hlt 2 _ rfl)
      simp only [Nat.add_zero, Enc.k] at c0 c1 c2
      clear hc
      have HL2 := Lib.hid (allN_succ transferB xs n hlt)
      have k1 := fun W : World => c_spec_l28Is xs[n] W (hx _ (List.getElem_mem hlt))
      cases hq : transferB xs[n] with
      | false =>
        rw [hq] at k1
        have K1 := Lib.hid k1; clear k1
        have HQ := Lib.hid hq; clear hq
        go_wp2_with (go_at_call 95; refine (K1.out _).mono ?_; rintro e w1 ⟨rfl, hb1⟩)
        go_ret
        exact ⟨ret_bool (by rw [allB, all_no transferB xs n hlt HQ.out]; rfl), below_tr hb hb1⟩
      | true =>
        rw [hq] at k1
        have K1 := Lib.hid k1; clear k1
        have HQ := Lib.hid hq; clear hq
        go_wp2_with (go_at_call 95; refine (K1.out _).mono ?_; rintro e w1 ⟨rfl, hb1⟩)
        go_roundw
        case rel => exact ⟨n + 1, by omega, by go_num, by unfold Hid; rw [HL2.out, HL.out, HQ.out]; rfl, below_tr hb hb1⟩
        case measure => simp [intOf]; omega
    · obtain rfl : n = xs.length := by omega
      have hl := HL.out
      rw [List.take_length] at hl
      have HF := Lib.hid hl; clear hl
      go_wp2
      all_goals go_ret
      all_goals refine ⟨ret_bool ?_, hb⟩
      all_goals (rw [allB, HF.out, Bool.eq_iff_iff]; simp; try omega)
theorem fn_impl_isTransfer (xs : List Transfer) (w : World) (hx : ∀ x ∈ xs, Ms.ok x) : FnB Try.prog 94 #[] (fun x : Transfer => .agg #[.string x.frm, .string x.dst, .int .i64 x.amount]) transferB xs w :=
  ⟨enters_of Try.func94 (by kernel_rfl) rfl, fun W x _ h => c_impl_isTransfer x W (hx x h)⟩
set_option maxHeartbeats 1000000 in
theorem c_impl_areTransfers (v : Value) (xs : List Transfer) (w : World) (hv : Rd w v xs) (hx : ∀ x ∈ xs, Ms.ok x) (hm : xs.length ≤ 1048576) :
    Calls Try.prog 66 #[v] w fun e w' => e = .returned (.bool (allB transferB 10 xs)) ∧ Below w.heap.size w w' := by
  have HV := Lib.hid hv
  obtain ⟨A, cap, rfl, hlc, hcap, hrd⟩ := hv
  clear hrd
  unfold allB
  cases h1 : xs.all transferB
  all_goals
    have k1 := fun W (hW : Rd W (.slice A xs.length cap) xs) => c_impl_all_impl_Transfer (.slice A xs.length cap) xs _ _ _ W hW (fn_impl_isTransfer xs W hx)
    rw [h1] at k1
    have K1 := Lib.hid k1; clear k1 h1
    go_enter Try.func66, Try.ntmps66
    go_wp2_with (go_at_call 96; refine (K1.out _ HV.out).mono ?_; rintro e w1 ⟨rfl, hb1⟩)
    all_goals go_ret
    all_goals refine ⟨ret_bool (by simp_all; try (first | rfl | omega)), ?_⟩
    all_goals first
      | exact hb1
      | exact below_rf _
def toP (a : ByteArray) (t : Transfer) : Bool := t.frm.toList == a.toList || t.dst.toList == a.toList
theorem toP_or {a : ByteArray} {x : Transfer} (h : toP a x = true) : (x.frm.toList == a.toList) = true ∨ ((x.frm.toList == a.toList) = false ∧ (x.dst.toList == a.toList) = true) := by
  unfold toP at h
  cases h1 : (x.frm.toList == a.toList) with
  | true => exact .inl rfl
  | false => rw [h1] at h; exact .inr ⟨rfl, h⟩
def toL (xs : List Transfer) (a : ByteArray) : List Int := if allB transferB 10 xs then idxTo (toP a) xs xs.length else []
def toC (xs : List Transfer) : Int := if allB transferB 10 xs then 0 else 1
theorem toL_len (xs : List Transfer) (a : ByteArray) : (toL xs a).length ≤ xs.length := by
  unfold toL
  split
  · exact idxTo_len _ _ _
  · simp
set_option maxHeartbeats 2000000 in
theorem c_spec_TransfersOf (v : Value) (xs : List Transfer) (a : ByteArray) (w : World) (hv : Rd w v xs) (hx : ∀ x ∈ xs, Ms.ok x) (hm : xs.length ≤ 1048576) (hs : a.size ≤ 9223372036854775807) :
    Calls Try.prog 30 #[v, .string a] w (OwPost2 2 (toL xs a) (toC xs) w) := by
  have HV := Lib.hid hv
  obtain ⟨A, cap, rfl, hlc, hcap, hrd⟩ := hv
  have HR := Lib.hid hrd; clear hrd
  have k1 := c_spec_l28Are _ xs w HV.out hx hm
  unfold toL toC
  cases h8 : allB transferB 10 xs with
  | false =>
    rw [h8] at k1
    have K1 := Lib.hid k1; clear k1
    simp only [Bool.false_eq_true, if_false]
    go_enter Try.func30, Try.ntmps30
    go_wp2_with (go_at_call 64; refine K1.out.mono ?_; rintro e w1 ⟨rfl, hb1⟩)
    go_ret2
    exact ⟨_, rfl, Ow.nil _ _ _, hb1⟩
  | true =>
  rw [h8] at k1
  have K1 := Lib.hid k1; clear k1
  simp only [if_true]
  go_enter Try.func30, Try.ntmps30
  go_wp2_with (go_at_call 64; refine K1.out.mono ?_; rintro e w1 ⟨rfl, BS⟩)
  go_loopw [6, 7] (fun u i wr => ∃ (n : Nat) (v1 : Value), n ≤ xs.length ∧ i = .int .i64 n ∧ v1 = u ∧ Hid (Ow 2 w.heap.size wr v1 (idxTo (toP a) xs n)) ∧ Below w.heap.size w wr) (fun _ i _ => xs.length - (intOf i).toNat)
  case atStart => exact ⟨0, _, Nat.zero_le _, rfl, rfl, Ow.lit0 _ _ _ BS.size, below_al BS _⟩
  case round =>
    obtain ⟨n, v1, hn, rfl, rfl, HW, hb⟩ := hrel
    by_cases hlt : n < xs.length
    · obtain ⟨b, off, rfl, hbl, hc⟩ := HR.out (by omega)
      have c0 := (hb.cell hbl).trans (hc n hlt 0 _ rfl)
      have c1 := (hb.cell hbl).trans (hc n hlt 1 _ rfl)
      have c2 := (hb.cell hbl).trans (hc n hlt 2 _ rfl)
      simp only [Nat.add_zero, Enc.k] at c0 c1 c2
      clear hc
      have i1 : (n : Int) < (xs.length : Int) := by omega
      have hbw := hb.size
      have HI := idxTo_len (toP a) xs n
      have HX := idxTo_succ (toP a) xs n hlt
      have HB := Lib.hid hb
      cases hq : (toP a) xs[n] with
      | true =>
        rw [hq] at HX
        have HQ := Lib.hid HX; clear HX
        refine (toP_or hq).elim (fun hq1 => ?_) (fun hq3 => ?_)
        · skip
          clear hq
          go_wp2_with (at_builtin; refine wpList_app (w0 := w) (lo := w.heap.size) rfl _ _ _ _ _ 8 rfl Try.underlying38 info_int64 rfl (by decide) (by decide) v1 (idxTo (toP a) xs n) (n : Int) rfl rfl HW.out HB.out (Nat.le_refl _) HB.out.size (by omega) ?_; intro v2 w2 ho2 hb2 hg2 hat2)
          go_roundw
          case rel => exact ⟨n + 1, v2, by omega, by go_num, rfl, by unfold Hid; rw [HQ.out]; exact ho2, hb2⟩
          case measure => simp [intOf]; omega
        · obtain ⟨hq1, hq2⟩ := hq3
          clear hq
          go_wp2_with (at_builtin; refine wpList_app (w0 := w) (lo := w.heap.size) rfl _ _ _ _ _ 8 rfl Try.underlying38 info_int64 rfl (by decide) (by decide) v1 (idxTo (toP a) xs n) (n : Int) rfl rfl HW.out HB.out (Nat.le_refl _) HB.out.size (by omega) ?_; intro v2 w2 ho2 hb2 hg2 hat2)
          go_roundw
          case rel => exact ⟨n + 1, v2, by omega, by go_num, rfl, by unfold Hid; rw [HQ.out]; exact ho2, hb2⟩
          case measure => simp [intOf]; omega
      | false =>
        rw [hq] at HX
        have HQ := Lib.hid HX; clear HX
        have hq1 : (xs[n].frm.toList == a.toList) = false := by simp [toP] at hq; simpa using hq.1
        have hq2 : (xs[n].dst.toList == a.toList) = false := by simp [toP] at hq; simpa using hq.2
        clear hq
        go_wp2
        go_roundw
        case rel => exact ⟨n + 1, v1, by omega, by go_num, rfl, by unfold Hid; rw [HQ.out]; simpa using HW.out, hb⟩
        case measure => simp [intOf]; omega
    · obtain rfl : n = xs.length := by omega
      go_wp2
      go_ret2
      exact ⟨v1, rfl, HW.out, hb⟩
set_option maxHeartbeats 400000 in
theorem c_impl_TransfersOf_1 (x : Transfer) (a : ByteArray) (B : Nat) (W : World) (hB : W.cell? ⟨B, 0, none⟩ = some (.string a)) :
    Calls Try.prog 68 #[.agg #[.string x.frm, .string x.dst, .int .i64 x.amount], .pointer (some ⟨B, 0, none⟩)] W fun e w' => e = .returned (.bool (toP a x)) ∧ Below W.heap.size W w' := by
  have hBW : B < W.heap.size := World.block_lt_of_cell? W _ hB
  go_enter Try.func68, Try.ntmps68
  go_wp2
  all_goals go_ret
  all_goals exact ⟨ret_bool (by simp_all [toP]), below_al (below_rf _) _⟩
set_option maxHeartbeats 2000000 in
theorem c_impl_TransfersOf (v : Value) (xs : List Transfer) (a : ByteArray) (w : World) (hv : Rd w v xs) (hx : ∀ x ∈ xs, Ms.ok x) (hm : xs.length ≤ 1048576) (hs : a.size ≤ 9223372036854775807) :
    Calls Try.prog 32 #[v, .string a] w (OwPost2 2 (toL xs a) (toC xs) w) := by
  have HV := Lib.hid hv
  obtain ⟨A, cap, rfl, hlc, hcap, hrd⟩ := hv
  clear hrd
  have k1 := fun (W : World) (h : Below w.heap.size w W) => c_impl_areTransfers _ xs W (HV.out.below h) hx hm
  unfold toL toC
  cases h8 : allB transferB 10 xs with
  | false =>
    rw [h8] at k1
    have K1 := Lib.hid k1; clear k1
    simp only [Bool.false_eq_true, if_false]
    go_enter Try.func32, Try.ntmps32
    go_wp2_with (go_at_call 66; refine (K1.out _ (below_al (below_rf _) _)).mono ?_; rintro e w1 ⟨rfl, hb1⟩)
    go_ret2
    exact ⟨_, rfl, Ow.nil _ _ _, below_tr (below_al (below_rf _) _) hb1⟩
  | true =>
  rw [h8] at k1
  have K1 := Lib.hid k1; clear k1
  simp only [if_true]
  go_enter Try.func32, Try.ntmps32
  go_wp2_with (first
    | (go_at_call 66; refine (K1.out _ (below_al (below_rf _) _)).mono ?_; rintro e w1 ⟨rfl, hb1⟩; have hB1 := below_tr (below_al (below_rf w) (.cells #[.string a] 9)) hb1)
    | (go_at_call 67; refine (c_impl_indices_impl_Transfer _ xs 68 #[.pointer (some ⟨w.heap.size, 0, none⟩)] (toP a) _ (HV.out.below hB1) ⟨enters_of Try.func68 (by kernel_rfl) rfl, fun W x hW _ => c_impl_TransfersOf_1 x a w.heap.size W ((hW.cell (p := ⟨w.heap.size, 0, none⟩) (bsz hb1)).trans ((hb1.cell (p := ⟨w.heap.size, 0, none⟩) (by simp)).trans (by simp [go_sem])))⟩ hm).mono ?_; rintro e w2 ⟨v2, rfl, ho2, hb2⟩))
  go_ret2
  exact ⟨v2, rfl, ho2.lo hB1.size, below_tr hB1 hb2⟩
end Go.Proofs.Ytiplbpapgaoaoaa
