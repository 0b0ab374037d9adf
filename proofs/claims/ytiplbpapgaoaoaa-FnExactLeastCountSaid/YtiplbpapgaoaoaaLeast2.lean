/- The open lines, and the least count of transfers, in the reference and in the program. Conditions: none. -/
import Derived.Test.YtiplbpapgaoaoaaLeast
namespace Go.Proofs.Ytiplbpapgaoaoaa
open Go.RowKit Enc Go.Shelf
set_option linter.unusedVariables false
set_option linter.unusedSimpArgs false
def openP (l : Line) : Bool := l.amount != 0
def openL (xs : List Line) : List Line := xs.filter openP
def nums (xs : List Line) : List Int := (openL xs).map (·.amount)
def leastV (xs : List Line) : Int := if balB xs then (openL xs).length - groups (nums xs) else 0
def balC (xs : List Line) : Int := if balB xs then 0 else 1
set_option maxHeartbeats 4000000 in
theorem c_impl_open (v : Value) (xs : List Line) (w : World) (hv : Rd w v xs) (hm : xs.length ≤ 1048576) :
    Calls Try.prog 71 #[v] w (OwPost 72 (openL xs) w) := by
  obtain ⟨A, cap, rfl, hlc, hcap, hrd⟩ := hv
  have HR := Lib.hid hrd; clear hrd
  go_enter Try.func71, Try.ntmps71
  go_wp2
  go_loopw [3, 9] (fun u i wr => ∃ (n : Nat) (v1 : Value), n ≤ xs.length ∧ i = .int .i64 n ∧ v1 = u ∧ Hid (Ow 72 w.heap.size wr v1 ((xs.take n).filter openP)) ∧ Below w.heap.size w wr) (fun _ i _ => xs.length - (intOf i).toNat)
  case atStart => exact ⟨0, _, Nat.zero_le _, rfl, rfl, Ow.lit0 _ _ _ (Nat.le_refl _), below_al (below_rf _) _⟩
  case round =>
    obtain ⟨n, v1, hn, rfl, rfl, HW, hb⟩ := hrel
    by_cases hlt : n < xs.length
    · obtain ⟨b, off, rfl, hbl, hc⟩ := HR.out (by omega)
      have c0 := (hb.cell hbl).trans (hc n hlt 0 _ rfl)
      have c1 := (hb.cell hbl).trans (hc n hlt 1 _ rfl)
      simp only [Nat.add_zero, Enc.k] at c0 c1
      clear hc
      have hbw := hb.size
      have HI := filt_len openP xs n
      have HX := filt_succ openP xs n hlt
      have hbA := below_al hb (.cells #[.string xs[n].party, .int .i64 xs[n].amount] 72)
      have HW2 := HW.out.below (below_al (below_rf wr) (.cells #[.string xs[n].party, .int .i64 xs[n].amount] 72))
      have HB := Lib.hid hbA
      have HO := Lib.hid HW2; clear HW2
      have HSZ := Lib.hid (show (wr.alloc (.cells #[.string xs[n].party, .int .i64 xs[n].amount] 72)).heap.size = wr.heap.size + 1 by simp)
      cases hq : openP xs[n] with
      | true =>
        rw [hq] at HX
        have HQ := Lib.hid HX; clear HX
        have hq1 : (xs[n].amount != 0) = true := hq
        clear hq
        go_wp2_with (at_builtin; refine wpList_app (w0 := w) (lo := w.heap.size) rfl _ _ _ _ _ 24 rfl Try.underlying25 info_Line rfl (by decide) (by decide) v1 ((xs.take n).filter openP) xs[n] rfl (by rw [HSZ.out]; rfl) HO.out HB.out (Nat.le_refl _) HB.out.size (by omega) ?_; intro v2 w2 ho2 hb2 hg2 hat2)
        go_roundw
        case rel => exact ⟨n + 1, v2, by omega, by go_num, rfl, by unfold Hid; rw [HQ.out]; exact ho2, hb2⟩
        case measure => simp [intOf]; omega
      | false =>
        rw [hq] at HX
        have HQ := Lib.hid HX; clear HX
        have hq1 : (xs[n].amount != 0) = false := hq
        clear hq
        go_wp2
        go_roundw
        case rel => exact ⟨n + 1, v1, by omega, by go_num, rfl, by unfold Hid; rw [HQ.out]; simpa using HO.out, HB.out⟩
        case measure => simp [intOf]; omega
    · obtain rfl : n = xs.length := by omega
      go_wp2
      go_ret
      exact ⟨v1, rfl, by have := HW.out; rw [List.take_length] at this; exact this, hb⟩
theorem nums_succ (xs : List Line) (n : Nat) (h : n < xs.length) : nums (xs.take (n + 1)) = nums (xs.take n) ++ if openP xs[n] then [xs[n].amount] else [] := by
  unfold nums openL
  rw [filt_succ openP xs n h, List.map_append]
  cases openP xs[n] <;> simp
theorem nums_len (xs : List Line) : (nums xs).length ≤ xs.length := by
  unfold nums openL
  rw [List.length_map]
  exact List.length_filter_le _ _
theorem nums_bd (xs : List Line) (h : xs.all lineB = true) : ∀ y ∈ nums xs, -1000000000000 ≤ y ∧ y ≤ 1000000000000 := by
  intro y hy
  obtain ⟨x, hx, rfl⟩ := List.mem_map.1 hy
  have := List.all_eq_true.1 h x (List.mem_filter.1 hx).1
  simp only [lineB, valueB, inB, Bool.and_eq_true, decide_eq_true_eq] at this
  exact this.2
theorem balB_all {xs : List Line} (h : balB xs = true) : xs.all lineB = true ∧ xs.length ≤ 10 := by
  simp only [balB, Bool.and_eq_true, decide_eq_true_eq] at h
  exact ⟨h.1, h.2.2.1⟩
set_option maxHeartbeats 4000000 in
theorem c_spec_LeastCount (v : Value) (xs : List Line) (w : World) (hv : Rd w v xs) (hx : ∀ x ∈ xs, Ms.ok x) (hm : xs.length ≤ 1048576) :
    Calls Try.prog 35 #[v] w fun e w' => e = .returned (.tuple #[.int .i64 (leastV xs), .int .i64 (balC xs)]) ∧ Below w.heap.size w w' := by
  have HV := Lib.hid hv
  obtain ⟨A, cap, rfl, hlc, hcap, hrd⟩ := hv
  have HR := Lib.hid hrd; clear hrd
  have k1 := c_spec_AreBalanced _ xs w HV.out hx hm
  unfold leastV balC
  cases h8 : balB xs with
  | false =>
    rw [h8] at k1
    have K1 := Lib.hid k1; clear k1
    simp only [Bool.false_eq_true, if_false]
    go_enter Try.func35, Try.ntmps35
    go_wp2_with (go_at_call 11; refine K1.out.mono ?_; rintro e w1 ⟨rfl, hb1⟩)
    go_ret2
    exact ⟨rfl, hb1⟩
  | true =>
  rw [h8] at k1
  have K1 := Lib.hid k1; clear k1
  simp only [if_true]
  obtain ⟨hal, hl10⟩ := balB_all h8
  have HAL := Lib.hid hal; clear hal
  go_enter Try.func35, Try.ntmps35
  go_wp2_with (go_at_call 11; refine K1.out.mono ?_; rintro e w1 ⟨rfl, BS⟩)
  go_loopw [4, 5] (fun u i wr => ∃ (n : Nat) (v1 : Value), n ≤ xs.length ∧ i = .int .i64 n ∧ v1 = u ∧ Hid (Ow 2 w.heap.size wr v1 (nums (xs.take n))) ∧ Below w.heap.size w wr) (fun _ i _ => xs.length - (intOf i).toNat)
  case atStart => exact ⟨0, _, Nat.zero_le _, rfl, rfl, Ow.lit0 _ _ _ BS.size, below_al BS _⟩
  case round =>
    obtain ⟨n, v1, hn, rfl, rfl, HW, hb⟩ := hrel
    by_cases hlt : n < xs.length
    · obtain ⟨b, off, rfl, hbl, hc⟩ := HR.out (by omega)
      have c1 := (hb.cell hbl).trans (hc n hlt 1 _ rfl)
      simp only [Nat.add_zero, Enc.k] at c1
      clear hc
      have hbw := hb.size
      have HI := nums_len (xs.take n)
      rw [List.length_take] at HI
      have HX := nums_succ xs n hlt
      have HB := Lib.hid hb
      cases hq : openP xs[n] with
      | true =>
        rw [hq] at HX
        have HQ := Lib.hid HX; clear HX
        have hq1 : (xs[n].amount != 0) = true := hq
        clear hq
        go_wp2_with (at_builtin; refine wpList_app (w0 := w) (lo := w.heap.size) rfl _ _ _ _ _ 8 rfl Try.underlying38 info_int64 rfl (by decide) (by decide) v1 (nums (xs.take n)) xs[n].amount rfl rfl HW.out HB.out (Nat.le_refl _) HB.out.size (by omega) ?_; intro v2 w2 ho2 hb2 hg2 hat2)
        go_roundw
        case rel => exact ⟨n + 1, v2, by omega, by go_num, rfl, by unfold Hid; rw [HQ.out]; exact ho2, hb2⟩
        case measure => simp [intOf]; omega
      | false =>
        rw [hq] at HX
        have HQ := Lib.hid HX; clear HX
        have hq1 : (xs[n].amount != 0) = false := hq
        clear hq
        go_wp2
        go_roundw
        case rel => exact ⟨n + 1, v1, by omega, by go_num, rfl, by unfold Hid; rw [HQ.out]; simpa using HW.out, hb⟩
        case measure => simp [intOf]; omega
    · obtain rfl : n = xs.length := by omega
      have hW := HW.out
      rw [List.take_length] at hW
      have HO := Lib.hid hW; clear hW
      obtain ⟨A3, cap3, rfl⟩ := HO.out.form
      have hL := nums_len xs
      have hg0 : 0 ≤ groups (nums xs) ∧ groups (nums xs) ≤ 1024 := groups_bd _ (by omega)
      obtain ⟨hg1, hg2⟩ := hg0
      have HN : (nums xs).length = (openL xs).length := List.length_map _
      have HNN := Lib.hid HN; clear HN
      go_wp2_with (go_at_call 70; refine (c_spec_l28Groups _ (nums xs) _ HO.out.rd (nums_bd xs HAL.out) (by omega)).mono ?_; rintro e w2 ⟨rfl, hb2⟩)
      go_ret2
      exact ⟨by simp [HNN.out], below_tr hb hb2⟩
end Go.Proofs.Ytiplbpapgaoaoaa
