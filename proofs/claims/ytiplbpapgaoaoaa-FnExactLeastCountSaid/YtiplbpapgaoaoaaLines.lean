/- Lines: their order, balanced lists of them, as the program and the reference test them. Conditions: none. -/
import Derived.Test.YtiplbpapgaoaoaaSmall
import Derived.Test.YtiplbpapgaoaoaaGen
import Derived.Test.YtiplbpapgaoaoaaGen2
import Derived.Test.YtiplbpapgaoaoaaShelf
namespace Go.Proofs.Ytiplbpapgaoaoaa
open Go.RowKit Enc Go.Shelf
set_option linter.unusedVariables false
set_option linter.unusedSimpArgs false

def cmpS (a b : ByteArray) : Int := Lib.compareBytes a.data.toList b.data.toList
theorem c_strings_Compare (a b : ByteArray) (w : World) : Calls Try.prog 109 #[.string a, .string b] w fun e w' => e = .returned (.int .i64 (cmpS a b)) ∧ w = w' :=
  (Try.strings_Compare a b w).mono fun _ _ ⟨h1, h2⟩ => ⟨h1, h2.symm⟩
theorem bl_eq (a b : List UInt8) : Op.bytesLess a b = decide (Lib.compareBytes a b < 0) := by
  induction a generalizing b with
  | nil => cases b <;> simp [Op.bytesLess, Lib.compareBytes]
  | cons x a ih =>
    cases b with
    | nil => simp [Op.bytesLess, Lib.compareBytes]
    | cons y b =>
      simp only [Op.bytesLess, Lib.compareBytes, ih]
      by_cases h1 : x < y
      · simp [h1]
      · by_cases h2 : y < x
        · have : ¬ x = y := fun h => by subst h; exact h1 h2
          simp [h1, h2, this]
        · have : x = y := by
            have a1 : x.toNat = y.toNat := by
              rw [UInt8.lt_iff_toNat_lt] at h1 h2; omega
            exact UInt8.toNat_inj.1 a1
          simp [h1, h2, this]
theorem bl_cmp (a b : ByteArray) : Op.bytesLess a.toList b.toList = decide (cmpS a b < 0) := by rw [toList_data, toList_data, bl_eq]; rfl
def ltL (x y : Line) : Bool := decide (cmpS x.party y.party < 0)
def sumA (xs : List Line) : Int := (xs.map (·.amount)).sum
def balB (xs : List Line) : Bool := xs.all lineB && (risB ltL xs && (decide (xs.length ≤ 10) && decide (sumA xs = 0)))
theorem sumA_succ (xs : List Line) (n : Nat) (h : n < xs.length) : sumA (xs.take (n + 1)) = sumA (xs.take n) + xs[n].amount := by
  unfold sumA; rw [List.take_succ_eq_append_getElem h, List.map_append, List.sum_append]; simp only [List.map_cons, List.map_nil, List.sum_cons, List.sum_nil, Int.add_zero]
set_option maxHeartbeats 400000 in
theorem c_impl_compareLines (x y : Line) (w : World) : Calls Try.prog 90 #[.agg #[.string x.party, .int .i64 x.amount], .agg #[.string y.party, .int .i64 y.amount]] w fun e w' => e = .returned (.int .i64 (cmpS x.party y.party)) ∧ Below w.heap.size w w' := by
  go_enter Try.func90, Try.ntmps90
  go_wp2_with (go_at_call 109; refine (c_strings_Compare _ _ _).mono ?_; rintro e w1 ⟨rfl, rfl⟩)
  go_ret
  exact ⟨rfl, below_al (below_al (below_rf _) _) _⟩
theorem fn_isLine (xs : List Line) (w : World) (hx : ∀ x ∈ xs, Ms.ok x) : FnB Try.prog 88 #[] (fun x : Line => .agg #[.string x.party, .int .i64 x.amount]) lineB xs w :=
  ⟨enters_of Try.func88 (by kernel_rfl) rfl, fun W x _ h => c_impl_isLine x W (hx x h)⟩
theorem fn_compareLines (xs : List Line) (w : World) : FnI Try.prog 90 #[] (fun x : Line => .agg #[.string x.party, .int .i64 x.amount]) (fun x y => cmpS x.party y.party) xs w :=
  ⟨enters_of Try.func90 (by kernel_rfl) rfl, fun W x y _ _ _ => c_impl_compareLines x y W⟩
set_option maxHeartbeats 1000000 in
theorem c_impl_areLines (v : Value) (xs : List Line) (most : Int) (w : World) (hv : Rd w v xs) (hx : ∀ x ∈ xs, Ms.ok x) (hm : xs.length ≤ 1048576) :
    Calls Try.prog 50 #[v, .int .i64 most] w fun e w' => e = .returned (.bool (decide ((xs.length : Int) ≤ most) && (xs.all lineB && risB ltL xs))) ∧ Below w.heap.size w w' := by
  have HV := Lib.hid hv
  obtain ⟨A, cap, rfl, hlc, hcap, hrd⟩ := hv
  clear hrd
  cases h1 : xs.all lineB with
  | true =>
    have k1 := fun W (hW : Rd W (.slice A xs.length cap) xs) => c_impl_all_impl_Line (.slice A xs.length cap) xs _ _ _ W hW (fn_isLine xs W hx)
    rw [h1] at k1
    have K1 := Lib.hid k1; clear k1 h1
    go_enter Try.func50, Try.ntmps50
    go_wp2_with (first | (go_at_call 87; refine (K1.out _ HV.out).mono ?_; rintro e w1 ⟨rfl, hb1⟩) | (go_at_call 89; refine (c_impl_rising_impl_Line _ xs _ _ _ _ (HV.out.below hb1) (fn_compareLines xs _) hm).mono ?_; rintro e w2 ⟨rfl, hb2⟩))
    all_goals go_ret
    all_goals refine ⟨ret_bool (by simp_all; try (first | rfl | omega)), ?_⟩
    all_goals first
      | exact below_tr hb1 hb2
      | exact below_rf _
  | false =>
    have k1 := fun W (hW : Rd W (.slice A xs.length cap) xs) => c_impl_all_impl_Line (.slice A xs.length cap) xs _ _ _ W hW (fn_isLine xs W hx)
    rw [h1] at k1
    have K1 := Lib.hid k1; clear k1 h1
    go_enter Try.func50, Try.ntmps50
    go_wp2_with (first | (go_at_call 87; refine (K1.out _ HV.out).mono ?_; rintro e w1 ⟨rfl, hb1⟩))
    all_goals go_ret
    all_goals refine ⟨ret_bool (by simp_all), ?_⟩
    all_goals first
      | exact hb1
      | exact below_rf _
set_option maxHeartbeats 2000000 in
theorem c_impl_AreBalanced (v : Value) (xs : List Line) (w : World) (hv : Rd w v xs) (hx : ∀ x ∈ xs, Ms.ok x) (hm : xs.length ≤ 1048576) :
    Calls Try.prog 13 #[v] w fun e w' => e = .returned (.bool (balB xs)) ∧ Below w.heap.size w w' := by
  have HV := Lib.hid hv
  obtain ⟨A, cap, rfl, hlc, hcap, hrd⟩ := hv
  have HR := Lib.hid hrd; clear hrd
  go_enter Try.func13, Try.ntmps13
  go_wp2
  go_loopw [3, 8] (fun a i wr => ∃ (n : Nat) (s : Int), n ≤ xs.length ∧ i = .int .i64 n ∧ a = .int .i64 s ∧ -1000000000000 * n ≤ s ∧ s ≤ 1000000000000 * n ∧ Hid (s = sumA (xs.take n)) ∧ Below w.heap.size w wr) (fun _ i _ => xs.length - (intOf i).toNat)
  case atStart => exact ⟨0, 0, Nat.zero_le _, rfl, rfl, by omega, by omega, rfl, below_rf _⟩
  case round =>
    obtain ⟨n, s, hn, rfl, rfl, hs1, hs2, HS, hb⟩ := hrel
    by_cases hlt : n < xs.length
    · obtain ⟨b, off, rfl, hbl, hc⟩ := HR.out (by omega)
      have c0 := (hb.cell hbl).trans (hc n hlt 0 _ rfl)
      have c1 := (hb.cell hbl).trans (hc n hlt 1 _ rfl)
      simp only [Nat.add_zero, Enc.k] at c0 c1
      clear hc
      have HA := sumA_succ xs n hlt
      have HA' := Lib.hid HA; clear HA
      by_cases hq : valueB xs[n].amount = true
      · have k1 := c_impl_isValue xs[n].amount
        rw [hq] at k1
        have K1 := Lib.hid k1; clear k1
        have hq2 := hq
        simp only [valueB, inB, Bool.and_eq_true, decide_eq_true_eq] at hq2
        obtain ⟨hq3, hq4⟩ := hq2
        have HQ := Lib.hid hq; clear hq
        go_wp2_with (go_at_call 49; refine (K1.out _).mono ?_; rintro e w1 ⟨rfl, rfl⟩)
        go_roundw
        case rel => exact ⟨n + 1, s + xs[n].amount, by omega, by go_num, rfl, by omega, by omega, by unfold Hid; rw [HA'.out, HS.out], by repeat (first | exact hb | apply below_al)⟩
        case measure => simp [intOf]; omega
      · have hq : valueB xs[n].amount = false := by simpa using hq
        have k1 := c_impl_isValue xs[n].amount
        rw [hq] at k1
        have K1 := Lib.hid k1; clear k1
        have HQ := Lib.hid hq; clear hq
        go_wp2_with (go_at_call 49; refine (K1.out _).mono ?_; rintro e w1 ⟨rfl, rfl⟩)
        go_ret
        exact ⟨ret_bool (by rw [balB, all_no lineB xs n hlt (by simp [lineB, HQ.out])]; rfl), by repeat (first | exact hb | apply below_al)⟩
    · obtain rfl : n = xs.length := by omega
      have hs := HS.out
      rw [List.take_length] at hs
      have HE := Lib.hid hs; clear hs
      by_cases h0 : s = 0
      · obtain rfl := h0
        go_wp2_with (go_at_call 50; refine (c_impl_areLines _ xs _ _ (HV.out.below hb) hx hm).mono ?_; rintro e w1 ⟨rfl, hb1⟩)
        go_ret
        exact ⟨ret_bool (by rw [balB, ← HE.out, Bool.eq_iff_iff]; simp; rw [show ((xs.length : Int) ≤ 10) = (xs.length ≤ 10) from by simp; omega]; constructor <;> (intro h; simp_all)), below_tr hb hb1⟩
      · have hz : (s == 0) = false := by simpa using h0
        go_wp2
        go_ret
        exact ⟨ret_bool (by rw [balB, ← HE.out]; simp [h0]), hb⟩
set_option maxHeartbeats 4000000 in
theorem c_spec_AreBalanced (v : Value) (xs : List Line) (w : World) (hv : Rd w v xs) (hx : ∀ x ∈ xs, Ms.ok x) (hm : xs.length ≤ 1048576) :
    Calls Try.prog 11 #[v] w fun e w' => e = .returned (.bool (balB xs)) ∧ Below w.heap.size w w' := by
  obtain ⟨A, cap, rfl, hlc, hcap, hrd⟩ := hv
  have HR := Lib.hid hrd; clear hrd
  go_enter Try.func11, Try.ntmps11
  go_wp2
  go_loopw [3, 4] (fun a i wr => ∃ (n : Nat) (s : Int), n ≤ xs.length ∧ i = .int .i64 n ∧ a = .int .i64 s ∧ -1000000000000 * n ≤ s ∧ s ≤ 1000000000000 * n ∧ Hid (s = sumA (xs.take n)) ∧ Hid ((xs.take n).all lineB = true) ∧ Hid (risN ltL xs n = true) ∧ Below w.heap.size w wr) (fun _ i _ => xs.length - (intOf i).toNat)
  case atStart => exact ⟨0, 0, Nat.zero_le _, rfl, rfl, by omega, by omega, rfl, rfl, rfl, below_rf _⟩
  case round =>
    obtain ⟨n, s, hn, rfl, rfl, hs1, hs2, HS, HL, HN, hb⟩ := hrel
    by_cases hlt : n < xs.length
    · obtain ⟨b, off, rfl, hbl, hc⟩ := HR.out (by omega)
      have c0 := (hb.cell hbl).trans (hc n hlt 0 _ rfl)
      have c1 := (hb.cell hbl).trans (hc n hlt 1 _ rfl)
      simp only [Nat.add_zero, Enc.k] at c0 c1
      have C0 : ∀ p : InW wr, p.v.cell? _ = _ := fun p => (p.h.cell (Nat.lt_of_lt_of_le hbl hb.size)).trans c0
      have C1 : ∀ p : InW wr, p.v.cell? _ = _ := fun p => (p.h.cell (Nat.lt_of_lt_of_le hbl hb.size)).trans c1
      clear c0 c1
      have HA := Lib.hid (sumA_succ xs n hlt)
      have HL2 := Lib.hid (allN_succ lineB xs n hlt)
      have i0 : (0:Int) ≤ n := by omega
      have i1 : (n:Int) < (xs.length:Int) := by omega
      have hbr := Nat.lt_of_lt_of_le hbl hb.size
      have k1 := fun p : InW wr => c_spec_l18Line xs[n] p.v (hx _ (List.getElem_mem hlt))
      cases hq : lineB xs[n] with
      | false =>
        rw [hq] at k1
        have K1 := Lib.hid k1; clear k1 hc
        go_wp2
        refine wp_region_in (by kernel_rfl) (by kernel_rfl) ?_
        repeat (go_big_quiet_step ((go_at_call 47; exact in_call (K1.out _))))
        refine wpQuiet_nil ?_
        rintro y1 ⟨⟨y2, hb1⟩, hy⟩
        obtain rfl : y1 = y2 := hy
        go_wp2
        go_ret
        exact ⟨ret_bool (by rw [balB, all_no lineB xs n hlt hq]; rfl), below_tr hb hb1⟩
      | true =>
        rw [hq] at k1
        have K1 := Lib.hid k1; clear k1
        have hq2 := hq
        simp only [lineB, valueB, inB, Bool.and_eq_true, decide_eq_true_eq] at hq2
        obtain ⟨_, hq3, hq4⟩ := hq2
        have HQ := Lib.hid hq; clear hq
        by_cases h0 : n = 0
        · have hg0 : ¬ 0 < n := by omega
          have hg1 : decide (0 < n) = false := by simpa using hg0
          have H0 := Lib.hid h0
          clear hc h0
          go_wp2
          refine wp_region_in (by kernel_rfl) (by kernel_rfl) ?_
          repeat (go_big_quiet_step ((go_at_call 47; exact in_call (K1.out _))))
          refine wpQuiet_nil ?_
          rintro y1 ⟨⟨y2, hb1⟩, hy⟩
          obtain rfl : y1 = y2 := hy
          have c0 := C0 ⟨y1, hb1⟩
          have c1 := C1 ⟨y1, hb1⟩
          clear C0 C1
          go_wp2
          go_roundw
          case rel => exact ⟨n + 1, s + xs[n].amount, by omega, by go_num, rfl, by omega, by omega, by unfold Hid; rw [HA.out, HS.out], by unfold Hid; rw [HL2.out, HL.out, HQ.out]; rfl, by unfold Hid; rw [H0.out]; rfl, below_tr hb hb1⟩
          case measure => simp [intOf]; omega
        · have hg0 : 0 < n := by omega
          have hg1 : decide (0 < n) = true := by simpa using hg0
          have hlt0 : n - 1 < xs.length := by omega
          have d0 := (hb.cell hbl).trans (hc (n - 1) hlt0 0 _ rfl)
          simp only [Nat.add_zero, Enc.k] at d0
          have D0 : ∀ p : InW wr, p.v.cell? _ = _ := fun p => (p.h.cell hbr).trans d0
          have j0 : (0:Int) ≤ (n:Int) - 1 := by omega
          have j1 : (n:Int) - 1 < (xs.length:Int) := by omega
          have jw : IntKind.i64.wrap ((n:Int) - 1) = (n:Int) - 1 := IntWalk.i64_in _ (by omega)
          have jt : ((n:Int) - 1).toNat = n - 1 := by omega
          have hr := risN_succ ltL xs n (by omega) hlt
          have hl : ltL xs[n - 1] xs[n] = Op.bytesLess xs[n - 1].party.toList xs[n].party.toList := by rw [bl_cmp]; rfl
          rw [hl] at hr
          have HRN := Lib.hid hr
          clear hc d0 hl hr
          go_wp2
          refine wp_region_in (by kernel_rfl) (by kernel_rfl) ?_
          repeat (go_big_quiet_step ((go_at_call 47; exact in_call (K1.out _))))
          refine wpQuiet_nil ?_
          rintro y1 ⟨⟨y2, hb1⟩, hy⟩
          obtain rfl : y1 = y2 := hy
          have c0 := C0 ⟨y1, hb1⟩
          have c1 := C1 ⟨y1, hb1⟩
          clear C0 C1 D0 jw jt
          generalize Op.bytesLess xs[n - 1].party.toList xs[n].party.toList = q at HRN ⊢
          cases q with
          | true =>
            go_wp2
            go_roundw
            case rel => exact ⟨n + 1, s + xs[n].amount, by omega, by go_num, rfl, by omega, by omega, by unfold Hid; rw [HA.out, HS.out], by unfold Hid; rw [HL2.out, HL.out, HQ.out]; rfl, by unfold Hid; rw [HRN.out, HN.out]; rfl, below_tr hb hb1⟩
            case measure => simp [intOf]; omega
          | false =>
            go_wp2
            go_ret
            refine ⟨ret_bool ?_, below_tr hb hb1⟩
            have h5 : risN ltL xs (n + 1) = false := by rw [HRN.out]; simp
            have h6 : risB ltL xs = false := risN_le _ xs xs.length (n + 1) (by omega) h5
            rw [balB, h6]; simp
    · obtain rfl : n = xs.length := by omega
      have hs := HS.out
      rw [List.take_length] at hs
      have hl := HL.out
      rw [List.take_length] at hl
      have HE := Lib.hid hs; clear hs
      have HF := Lib.hid hl; clear hl
      go_wp2
      all_goals go_ret
      all_goals refine ⟨ret_bool ?_, hb⟩
      all_goals (rw [balB, HF.out, show risB ltL xs = true from HN.out, ← HE.out, Bool.eq_iff_iff]; simp; try omega)
end Go.Proofs.Ytiplbpapgaoaoaa
