/- Ledgers, as the program and the reference test them. Conditions: none. -/
import Derived.Test.YtiplbpapgaoaoaaSmall
namespace Go.Proofs.Ytiplbpapgaoaoaa
open Go.RowKit Enc
set_option linter.unusedVariables false
set_option linter.unusedSimpArgs false
def leDay (x y : Entry) : Bool := decide (x.day ≤ y.day)
set_option maxHeartbeats 4000000 in
theorem c_spec_IsLedger (v : Value) (xs : List Entry) (w : World) (hv : Rd w v xs) (hx : ∀ x ∈ xs, Ms.ok x) (hm : xs.length ≤ 1048576) :
    Calls Try.prog 16 #[v] w fun e w' => e = .returned (.bool (ordB entryB leDay 20 xs)) ∧ Below w.heap.size w w' := by
  obtain ⟨A, cap, rfl, hlc, hcap, hrd⟩ := hv
  have HR := Lib.hid hrd; clear hrd
  go_enter Try.func16, Try.ntmps16
  go_wp2
  go_loopw [3] (fun i wr => ∃ (n : Nat), n ≤ xs.length ∧ i = .int .i64 n ∧ Hid ((xs.take n).all entryB = true) ∧ Hid (risN leDay xs n = true) ∧ Below w.heap.size w wr) (fun i _ => xs.length - (intOf i).toNat)
  case atStart => exact ⟨0, Nat.zero_le _, rfl, rfl, rfl, below_rf _⟩
  case round =>
    obtain ⟨n, hn, rfl, HL, HN, hb⟩ := hrel
    by_cases hlt : n < xs.length
    · obtain ⟨b, off, rfl, hbl, hc⟩ := HR.out (by omega)
      have hbr := Nat.lt_of_lt_of_le hbl hb.size
      have c0 := (hb.cell hbl).trans (hc n hlt 0 _ rfl)
      have c1 := (hb.cell hbl).trans (hc n hlt 1 _ rfl)
      have c2 := (hb.cell hbl).trans (hc n hlt 2 _ rfl)
      have c3 := (hb.cell hbl).trans (hc n hlt 3 _ rfl)
      simp only [Nat.add_zero, Enc.k] at c0 c1 c2 c3
      have C0 : ∀ p : InW wr, p.v.cell? _ = _ := fun p => (p.h.cell hbr).trans c0
      have C1 : ∀ p : InW wr, p.v.cell? _ = _ := fun p => (p.h.cell hbr).trans c1
      have C2 : ∀ p : InW wr, p.v.cell? _ = _ := fun p => (p.h.cell hbr).trans c2
      have C3 : ∀ p : InW wr, p.v.cell? _ = _ := fun p => (p.h.cell hbr).trans c3
      clear c0 c1 c2 c3
      have HL2 := Lib.hid (allN_succ entryB xs n hlt)
      have i0 : (0:Int) ≤ n := by omega
      have i1 : (n:Int) < (xs.length:Int) := by omega
      have k1 := fun p : InW wr => c_spec_l29Is xs[n] p.v (hx _ (List.getElem_mem hlt))
      cases hq : entryB xs[n] with
      | false =>
        rw [hq] at k1
        have K1 := Lib.hid k1; clear k1 hc
        go_wp2
        refine wp_region_in (by kernel_rfl) (by kernel_rfl) ?_
        repeat (go_big_quiet_step ((go_at_call 53; exact in_call (K1.out _))))
        refine wpQuiet_nil ?_
        rintro y1 ⟨⟨y2, hb1⟩, hy⟩
        obtain rfl : y1 = y2 := hy
        go_wp2
        go_ret
        exact ⟨ret_bool (by rw [ordB, all_no entryB xs n hlt hq]; rfl), below_tr hb hb1⟩
      | true =>
        rw [hq] at k1
        have K1 := Lib.hid k1; clear k1
        have HQ := Lib.hid hq; clear hq
        by_cases h0 : n = 0
        · have hg0 : ¬ 0 < n := by omega
          have hg1 : decide (0 < n) = false := by simpa using hg0
          have H0 := Lib.hid h0
          clear hc h0
          go_wp2
          refine wp_region_in (by kernel_rfl) (by kernel_rfl) ?_
          repeat (go_big_quiet_step ((go_at_call 53; exact in_call (K1.out _))))
          refine wpQuiet_nil ?_
          rintro y1 ⟨⟨y2, hb1⟩, hy⟩
          obtain rfl : y1 = y2 := hy
          clear C0 C1 C2 C3
          go_wp2
          go_roundw
          case rel => exact ⟨n + 1, by omega, by go_num, by unfold Hid; rw [HL2.out, HL.out, HQ.out]; rfl, by unfold Hid; rw [H0.out]; rfl, below_tr hb hb1⟩
          case measure => simp [intOf]; omega
        · have hg0 : 0 < n := by omega
          have hg1 : decide (0 < n) = true := by simpa using hg0
          have hlt0 : n - 1 < xs.length := by omega
          have d0 := (hb.cell hbl).trans (hc (n - 1) hlt0 0 _ rfl)
          simp only [Nat.add_zero, Enc.k] at d0
          have D0 : ∀ p : InW wr, p.v.cell? _ = _ := fun p => (p.h.cell hbr).trans d0
          have j0 : (0:Int) ≤ (n:Int) - 1 := by omega
          have j1 : (n:Int) - 1 < (xs.length:Int) := by omega
          have jw : IntKind.i64.wrap ((n:Int) - 1) = (n:Int) - 1 := IntWalk.i64_in _ (by omega)
          have jt : ((n:Int) - 1).toNat = n - 1 := by omega
          have hr := risN_succ leDay xs n (by omega) hlt
          by_cases ht : xs[n].day < xs[n - 1].day
          · have ht1 : decide (xs[n].day < xs[n - 1].day) = true := decide_eq_true ht
            rw [show leDay xs[n - 1] xs[n] = false from by simp [leDay]; omega] at hr
            have HRN := Lib.hid hr
            clear hc d0 hr
            go_wp2
            refine wp_region_in (by kernel_rfl) (by kernel_rfl) ?_
            repeat (go_big_quiet_step ((go_at_call 53; exact in_call (K1.out _))))
            refine wpQuiet_nil ?_
            rintro y1 ⟨⟨y2, hb1⟩, hy⟩
            obtain rfl : y1 = y2 := hy
            clear D0 jw jt C0 C1 C2 C3
            go_wp2
            go_ret
            refine ⟨ret_bool ?_, below_tr hb hb1⟩
            have h5 : risN leDay xs (n + 1) = false := by rw [HRN.out]; simp
            have h6 : risB leDay xs = false := risN_le _ xs xs.length (n + 1) (by omega) h5
            rw [ordB, h6]; simp
          · have ht1 : decide (xs[n].day < xs[n - 1].day) = false := decide_eq_false ht
            rw [show leDay xs[n - 1] xs[n] = true from by simp [leDay]; omega] at hr
            have HRN := Lib.hid hr
            clear hc d0 hr
            go_wp2
            refine wp_region_in (by kernel_rfl) (by kernel_rfl) ?_
            repeat (go_big_quiet_step ((go_at_call 53; exact in_call (K1.out _))))
            refine wpQuiet_nil ?_
            rintro y1 ⟨⟨y2, hb1⟩, hy⟩
            obtain rfl : y1 = y2 := hy
            clear D0 jw jt C0 C1 C2 C3
            go_wp2
            go_roundw
            case rel => exact ⟨n + 1, by omega, by go_num, by unfold Hid; rw [HL2.out, HL.out, HQ.out]; rfl, by unfold Hid; rw [HRN.out, HN.out]; rfl, below_tr hb hb1⟩
            case measure => simp [intOf]; omega
    · obtain rfl : n = xs.length := by omega
      have hl := HL.out
      rw [List.take_length] at hl
      have HF := Lib.hid hl; clear hl
      go_wp2
      all_goals go_ret
      all_goals refine ⟨ret_bool ?_, hb⟩
      all_goals (rw [ordB, HF.out, show risB leDay xs = true from HN.out, Bool.eq_iff_iff]; simp; try omega)
set_option maxHeartbeats 4000000 in
theorem c_impl_IsLedger (v : Value) (xs : List Entry) (w : World) (hv : Rd w v xs) (hx : ∀ x ∈ xs, Ms.ok x) (hm : xs.length ≤ 1048576) :
    Calls Try.prog 18 #[v] w fun e w' => e = .returned (.bool (ordB entryB leDay 20 xs)) ∧ Below w.heap.size w w' := by
  obtain ⟨A, cap, rfl, hlc, hcap, hrd⟩ := hv
  have HR := Lib.hid hrd; clear hrd
  go_enter Try.func18, Try.ntmps18
  go_wp2
  go_loopw [7] (fun i wr => ∃ (n : Nat), n ≤ xs.length ∧ i = .int .i64 n ∧ Hid ((xs.take n).all entryB = true) ∧ Hid (risN leDay xs n = true) ∧ Below w.heap.size w wr) (fun i _ => xs.length - (intOf i).toNat)
  case atStart => exact ⟨0, Nat.zero_le _, rfl, rfl, rfl, below_rf _⟩
  case round =>
    obtain ⟨n, hn, rfl, HL, HN, hb⟩ := hrel
    by_cases hlt : n < xs.length
    · obtain ⟨b, off, rfl, hbl, hc⟩ := HR.out (by omega)
      have hbr := Nat.lt_of_lt_of_le hbl hb.size
      have c0 := (hb.cell hbl).trans (hc n hlt 0 _ rfl)
      have c1 := (hb.cell hbl).trans (hc n hlt 1 _ rfl)
      have c2 := (hb.cell hbl).trans (hc n hlt 2 _ rfl)
      have c3 := (hb.cell hbl).trans (hc n hlt 3 _ rfl)
      simp only [Nat.add_zero, Enc.k] at c0 c1 c2 c3
      have C0 : ∀ p : InW (wr.alloc (.cells #[.int .i64 xs[n].day, .string xs[n].frm, .string xs[n].dst, .int .i64 xs[n].amount] 81)), p.v.cell? ⟨wr.heap.size, 0, none⟩ = some (.int .i64 xs[n].day) := fun p => (p.h.cell (p := ⟨wr.heap.size, 0, none⟩) (by simp)).trans (by simp [go_sem])
      have C1 : ∀ p : InW (wr.alloc (.cells #[.int .i64 xs[n].day, .string xs[n].frm, .string xs[n].dst, .int .i64 xs[n].amount] 81)), p.v.cell? ⟨wr.heap.size, 1, none⟩ = some (.string xs[n].frm) := fun p => (p.h.cell (p := ⟨wr.heap.size, 1, none⟩) (by simp)).trans (by simp [go_sem])
      have C2 : ∀ p : InW (wr.alloc (.cells #[.int .i64 xs[n].day, .string xs[n].frm, .string xs[n].dst, .int .i64 xs[n].amount] 81)), p.v.cell? ⟨wr.heap.size, 2, none⟩ = some (.string xs[n].dst) := fun p => (p.h.cell (p := ⟨wr.heap.size, 2, none⟩) (by simp)).trans (by simp [go_sem])
      have C3 : ∀ p : InW (wr.alloc (.cells #[.int .i64 xs[n].day, .string xs[n].frm, .string xs[n].dst, .int .i64 xs[n].amount] 81)), p.v.cell? ⟨wr.heap.size, 3, none⟩ = some (.int .i64 xs[n].amount) := fun p => (p.h.cell (p := ⟨wr.heap.size, 3, none⟩) (by simp)).trans (by simp [go_sem])
      have hbA : Below w.heap.size w (wr.alloc (.cells #[.int .i64 xs[n].day, .string xs[n].frm, .string xs[n].dst, .int .i64 xs[n].amount] 81)) := below_al hb _
      have HL2 := Lib.hid (allN_succ entryB xs n hlt)
      have i0 : (0:Int) ≤ n := by omega
      have i1 : (n:Int) < (xs.length:Int) := by omega
      have k1 := fun p : InW (wr.alloc (.cells #[.int .i64 xs[n].day, .string xs[n].frm, .string xs[n].dst, .int .i64 xs[n].amount] 81)) => c_impl_isEntry xs[n] p.v (hx _ (List.getElem_mem hlt))
      cases hq : entryB xs[n] with
      | false =>
        rw [hq] at k1
        have K1 := Lib.hid k1; clear k1 hc
        go_wp2
        refine wp_region_in (by kernel_rfl) (by kernel_rfl) ?_
        repeat (go_big_quiet_step ((go_at_call 55; exact in_call (K1.out _))))
        refine wpQuiet_nil ?_
        rintro y1 ⟨⟨y2, hb1⟩, hy⟩
        obtain rfl : y1 = y2 := hy
        go_wp2
        go_ret
        exact ⟨ret_bool (by rw [ordB, all_no entryB xs n hlt hq]; rfl), below_tr hbA hb1⟩
      | true =>
        rw [hq] at k1
        have K1 := Lib.hid k1; clear k1
        have HQ := Lib.hid hq; clear hq
        by_cases h0 : n = 0
        · have hg0 : ¬ 0 < n := by omega
          have hg1 : decide (0 < n) = false := by simpa using hg0
          have H0 := Lib.hid h0
          clear hc h0
          go_wp2
          refine wp_region_in (by kernel_rfl) (by kernel_rfl) ?_
          repeat (go_big_quiet_step ((go_at_call 55; exact in_call (K1.out _))))
          refine wpQuiet_nil ?_
          rintro y1 ⟨⟨y2, hb1⟩, hy⟩
          obtain rfl : y1 = y2 := hy
          clear C0 C1 C2 C3
          go_wp2
          go_roundw
          case rel => exact ⟨n + 1, by omega, by go_num, by unfold Hid; rw [HL2.out, HL.out, HQ.out]; rfl, by unfold Hid; rw [H0.out]; rfl, below_tr hbA hb1⟩
          case measure => simp [intOf]; omega
        · have hg0 : 0 < n := by omega
          have hg1 : decide (0 < n) = true := by simpa using hg0
          have hlt0 : n - 1 < xs.length := by omega
          have d0 := (hb.cell hbl).trans (hc (n - 1) hlt0 0 _ rfl)
          simp only [Nat.add_zero, Enc.k] at d0
          have D0 : ∀ p : InW (wr.alloc (.cells #[.int .i64 xs[n].day, .string xs[n].frm, .string xs[n].dst, .int .i64 xs[n].amount] 81)), p.v.cell? _ = _ := fun p => (p.h.cell (Nat.lt_of_lt_of_le hbr (by simp))).trans ((World.cell?_alloc_lt wr _ _ hbr).trans d0)
          have j0 : (0:Int) ≤ (n:Int) - 1 := by omega
          have j1 : (n:Int) - 1 < (xs.length:Int) := by omega
          have jw : IntKind.i64.wrap ((n:Int) - 1) = (n:Int) - 1 := IntWalk.i64_in _ (by omega)
          have jt : ((n:Int) - 1).toNat = n - 1 := by omega
          have hr := risN_succ leDay xs n (by omega) hlt
          by_cases ht : xs[n].day < xs[n - 1].day
          · have ht1 : decide (xs[n].day < xs[n - 1].day) = true := decide_eq_true ht
            rw [show leDay xs[n - 1] xs[n] = false from by simp [leDay]; omega] at hr
            have HRN := Lib.hid hr
            clear hc d0 hr
            go_wp2
            refine wp_region_in (by kernel_rfl) (by kernel_rfl) ?_
            repeat (go_big_quiet_step ((go_at_call 55; exact in_call (K1.out _))))
            refine wpQuiet_nil ?_
            rintro y1 ⟨⟨y2, hb1⟩, hy⟩
            obtain rfl : y1 = y2 := hy
            clear D0 jw jt C0 C1 C2 C3
            go_wp2
            go_ret
            refine ⟨ret_bool ?_, below_tr hbA hb1⟩
            have h5 : risN leDay xs (n + 1) = false := by rw [HRN.out]; simp
            have h6 : risB leDay xs = false := risN_le _ xs xs.length (n + 1) (by omega) h5
            rw [ordB, h6]; simp
          · have ht1 : decide (xs[n].day < xs[n - 1].day) = false := decide_eq_false ht
            rw [show leDay xs[n - 1] xs[n] = true from by simp [leDay]; omega] at hr
            have HRN := Lib.hid hr
            clear hc d0 hr
            go_wp2
            refine wp_region_in (by kernel_rfl) (by kernel_rfl) ?_
            repeat (go_big_quiet_step ((go_at_call 55; exact in_call (K1.out _))))
            refine wpQuiet_nil ?_
            rintro y1 ⟨⟨y2, hb1⟩, hy⟩
            obtain rfl : y1 = y2 := hy
            clear D0 jw jt C0 C1 C2 C3
            go_wp2
            go_roundw
            case rel => exact ⟨n + 1, by omega, by go_num, by unfold Hid; rw [HL2.out, HL.out, HQ.out]; rfl, by unfold Hid; rw [HRN.out, HN.out]; rfl, below_tr hbA hb1⟩
            case measure => simp [intOf]; omega
    · obtain rfl : n = xs.length := by omega
      have hl := HL.out
      rw [List.take_length] at hl
      have HF := Lib.hid hl; clear hl
      go_wp2
      all_goals go_ret
      all_goals refine ⟨ret_bool ?_, hb⟩
      all_goals (rw [ordB, HF.out, show risB leDay xs = true from HN.out, Bool.eq_iff_iff]; simp; try omega)
end Go.Proofs.Ytiplbpapgaoaoaa
