/- The laws' measuring functions. Conditions: none. -/
import Derived.Test.YtiplbpapgaoaoaaTypes
namespace Go.Proofs.Ytiplbpapgaoaoaa
open Go.RowKit
set_option linter.unusedVariables false
set_option linter.unusedSimpArgs false
set_option maxHeartbeats 400000 in
theorem c_laws_szLine (x : Line) (left : Int) (w : World) (h1 : 0 ≤ left) (h2 : left ≤ 1048576) (h3 : Ms.ok x) :
    Calls Try.prog 46 #[.agg #[.string x.party, .int .i64 x.amount], .int .i64 left] w (SzPost (Ms.ms x) left w) := by
  simp only [Ms.ok] at h3
  go_enter Try.func46, Try.ntmps46
  go_wp2
  all_goals (go_ret; exact ⟨_, rfl, by omega, by omega, by simp only [Ms.ms]; omega, below_al (below_rf _) _⟩)
set_option maxHeartbeats 400000 in
theorem c_laws_szLineS (v : Value) (xs : List Line) (left : Int) (w : World) (hv : Rd w v xs) (h1 : 0 ≤ left) (h2 : left ≤ 1048576) (h3 : ∀ x ∈ xs, Ms.ok x) :
    Calls Try.prog 10 #[v, .int .i64 left] w (SzPost (xs.length + msL xs) left w) := by
  obtain ⟨A, cap, rfl, hlc, hcap, hrd⟩ := hv
  go_enter Try.func10, Try.ntmps10
  go_wp2
  · go_ret; exact ⟨_, rfl, by omega, by omega, by omega, below_rf _⟩
  go_loopw [1, 5] (fun a i wr => ∃ (n : Nat) (l : Int), n ≤ xs.length ∧ i = .int .i64 n ∧ a = .int .i64 l ∧ 0 ≤ l ∧ Hid (l + msL (xs.take n) = left - xs.length) ∧ Below w.heap.size w wr) (fun _ i _ => xs.length - (intOf i).toNat)
  case atStart => exact ⟨0, _, Nat.zero_le _, rfl, rfl, by omega, by unfold Hid; simp [msL], below_rf _⟩
  case round =>
    obtain ⟨n, l, hn, rfl, rfl, hl0, HS, hb⟩ := hrel
    have hl1 : l ≤ 1048576 := by have := HS.out; omega
    by_cases hlt : n < xs.length
    · obtain ⟨b, off, rfl, hbl, hc⟩ := hrd (by omega)
      have h3n := h3 _ (List.getElem_mem hlt)
      have hms := msL_snoc xs n hlt
      have HM := Lib.hid hms; clear hms
      clear hrd
      have c0 := (hb.cell hbl).trans (hc n hlt 0 _ rfl)
      have c1 := (hb.cell hbl).trans (hc n hlt 1 _ rfl)
      simp only [Nat.add_zero, Enc.k] at c0 c1
      clear hc
      go_wp2_with (go_at_call 46; refine (c_laws_szLine xs[n] _ _ hl0 hl1 h3n).mono ?_; rintro e w1 ⟨r, rfl, hr1, hr2, hr3, hb1⟩)
      · go_ret
        have hA := HM.out; have hB := HS.out; have hC := msL_take xs n; have hD := msL_take xs (n+1)
        exact ⟨_, rfl, by omega, by omega, by omega, below_tr hb hb1⟩
      · go_roundw
        case rel => exact ⟨n + 1, _, by omega, by go_num, rfl, by omega, by have hA := HM.out; have hB := HS.out; unfold Hid; omega, below_tr hb hb1⟩
        case measure => simp [intOf]; omega
    · go_wp2
      go_ret
      obtain rfl : n = xs.length := by omega
      have hB := HS.out; rw [List.take_length] at hB
      exact ⟨_, rfl, by omega, by omega, by omega, hb⟩
set_option maxHeartbeats 400000 in
theorem c_laws_szEntry (x : Entry) (left : Int) (w : World) (h1 : 0 ≤ left) (h2 : left ≤ 1048576) (h3 : Ms.ok x) :
    Calls Try.prog 52 #[.agg #[.int .i64 x.day, .string x.frm, .string x.dst, .int .i64 x.amount], .int .i64 left] w (SzPost (Ms.ms x) left w) := by
  simp only [Ms.ok] at h3
  go_enter Try.func52, Try.ntmps52
  go_wp2
  all_goals (go_ret; exact ⟨_, rfl, by omega, by omega, by simp only [Ms.ms]; omega, below_al (below_rf _) _⟩)
set_option maxHeartbeats 400000 in
theorem c_laws_szEntryS (v : Value) (xs : List Entry) (left : Int) (w : World) (hv : Rd w v xs) (h1 : 0 ≤ left) (h2 : left ≤ 1048576) (h3 : ∀ x ∈ xs, Ms.ok x) :
    Calls Try.prog 15 #[v, .int .i64 left] w (SzPost (xs.length + msL xs) left w) := by
  obtain ⟨A, cap, rfl, hlc, hcap, hrd⟩ := hv
  go_enter Try.func15, Try.ntmps15
  go_wp2
  · go_ret; exact ⟨_, rfl, by omega, by omega, by omega, below_rf _⟩
  go_loopw [1, 5] (fun a i wr => ∃ (n : Nat) (l : Int), n ≤ xs.length ∧ i = .int .i64 n ∧ a = .int .i64 l ∧ 0 ≤ l ∧ Hid (l + msL (xs.take n) = left - xs.length) ∧ Below w.heap.size w wr) (fun _ i _ => xs.length - (intOf i).toNat)
  case atStart => exact ⟨0, _, Nat.zero_le _, rfl, rfl, by omega, by unfold Hid; simp [msL], below_rf _⟩
  case round =>
    obtain ⟨n, l, hn, rfl, rfl, hl0, HS, hb⟩ := hrel
    have hl1 : l ≤ 1048576 := by have := HS.out; omega
    by_cases hlt : n < xs.length
    · obtain ⟨b, off, rfl, hbl, hc⟩ := hrd (by omega)
      have h3n := h3 _ (List.getElem_mem hlt)
      have hms := msL_snoc xs n hlt
      have HM := Lib.hid hms; clear hms
      clear hrd
      have c0 := (hb.cell hbl).trans (hc n hlt 0 _ rfl)
      have c1 := (hb.cell hbl).trans (hc n hlt 1 _ rfl)
      have c2 := (hb.cell hbl).trans (hc n hlt 2 _ rfl)
      have c3 := (hb.cell hbl).trans (hc n hlt 3 _ rfl)
      simp only [Nat.add_zero, Enc.k] at c0 c1 c2 c3
      clear hc
      go_wp2_with (go_at_call 52; refine (c_laws_szEntry xs[n] _ _ hl0 hl1 h3n).mono ?_; rintro e w1 ⟨r, rfl, hr1, hr2, hr3, hb1⟩)
      · go_ret
        have hA := HM.out; have hB := HS.out; have hC := msL_take xs n; have hD := msL_take xs (n+1)
        exact ⟨_, rfl, by omega, by omega, by omega, below_tr hb hb1⟩
      · go_roundw
        case rel => exact ⟨n + 1, _, by omega, by go_num, rfl, by omega, by have hA := HM.out; have hB := HS.out; unfold Hid; omega, below_tr hb hb1⟩
        case measure => simp [intOf]; omega
    · go_wp2
      go_ret
      obtain rfl : n = xs.length := by omega
      have hB := HS.out; rw [List.take_length] at hB
      exact ⟨_, rfl, by omega, by omega, by omega, hb⟩
set_option maxHeartbeats 400000 in
theorem c_laws_szObjection (x : Objection) (left : Int) (w : World) (h1 : 0 ≤ left) (h2 : left ≤ 1048576) (h3 : Ms.ok x) :
    Calls Try.prog 57 #[.agg #[.string x.party, .int .i64 x.day, .int .i64 x.event, .int .i64 x.ground, .int .i64 x.value], .int .i64 left] w (SzPost (Ms.ms x) left w) := by
  simp only [Ms.ok] at h3
  go_enter Try.func57, Try.ntmps57
  go_wp2
  all_goals (go_ret; exact ⟨_, rfl, by omega, by omega, by simp only [Ms.ms]; omega, below_al (below_rf _) _⟩)
set_option maxHeartbeats 400000 in
theorem c_laws_szObjectionS (v : Value) (xs : List Objection) (left : Int) (w : World) (hv : Rd w v xs) (h1 : 0 ≤ left) (h2 : left ≤ 1048576) (h3 : ∀ x ∈ xs, Ms.ok x) :
    Calls Try.prog 20 #[v, .int .i64 left] w (SzPost (xs.length + msL xs) left w) := by
  obtain ⟨A, cap, rfl, hlc, hcap, hrd⟩ := hv
  go_enter Try.func20, Try.ntmps20
  go_wp2
  · go_ret; exact ⟨_, rfl, by omega, by omega, by omega, below_rf _⟩
  go_loopw [1, 5] (fun a i wr => ∃ (n : Nat) (l : Int), n ≤ xs.length ∧ i = .int .i64 n ∧ a = .int .i64 l ∧ 0 ≤ l ∧ Hid (l + msL (xs.take n) = left - xs.length) ∧ Below w.heap.size w wr) (fun _ i _ => xs.length - (intOf i).toNat)
  case atStart => exact ⟨0, _, Nat.zero_le _, rfl, rfl, by omega, by unfold Hid; simp [msL], below_rf _⟩
  case round =>
    obtain ⟨n, l, hn, rfl, rfl, hl0, HS, hb⟩ := hrel
    have hl1 : l ≤ 1048576 := by have := HS.out; omega
    by_cases hlt : n < xs.length
    · obtain ⟨b, off, rfl, hbl, hc⟩ := hrd (by omega)
      have h3n := h3 _ (List.getElem_mem hlt)
      have hms := msL_snoc xs n hlt
      have HM := Lib.hid hms; clear hms
      clear hrd
      have c0 := (hb.cell hbl).trans (hc n hlt 0 _ rfl)
      have c1 := (hb.cell hbl).trans (hc n hlt 1 _ rfl)
      have c2 := (hb.cell hbl).trans (hc n hlt 2 _ rfl)
      have c3 := (hb.cell hbl).trans (hc n hlt 3 _ rfl)
      have c4 := (hb.cell hbl).trans (hc n hlt 4 _ rfl)
      simp only [Nat.add_zero, Enc.k] at c0 c1 c2 c3 c4
      clear hc
      go_wp2_with (go_at_call 57; refine (c_laws_szObjection xs[n] _ _ hl0 hl1 h3n).mono ?_; rintro e w1 ⟨r, rfl, hr1, hr2, hr3, hb1⟩)
      · go_ret
        have hA := HM.out; have hB := HS.out; have hC := msL_take xs n; have hD := msL_take xs (n+1)
        exact ⟨_, rfl, by omega, by omega, by omega, below_tr hb hb1⟩
      · go_roundw
        case rel => exact ⟨n + 1, _, by omega, by go_num, rfl, by omega, by have hA := HM.out; have hB := HS.out; unfold Hid; omega, below_tr hb hb1⟩
        case measure => simp [intOf]; omega
    · go_wp2
      go_ret
      obtain rfl : n = xs.length := by omega
      have hB := HS.out; rw [List.take_length] at hB
      exact ⟨_, rfl, by omega, by omega, by omega, hb⟩
set_option maxHeartbeats 400000 in
theorem c_laws_szTransfer (x : Transfer) (left : Int) (w : World) (h1 : 0 ≤ left) (h2 : left ≤ 1048576) (h3 : Ms.ok x) :
    Calls Try.prog 63 #[.agg #[.string x.frm, .string x.dst, .int .i64 x.amount], .int .i64 left] w (SzPost (Ms.ms x) left w) := by
  simp only [Ms.ok] at h3
  go_enter Try.func63, Try.ntmps63
  go_wp2
  all_goals (go_ret; exact ⟨_, rfl, by omega, by omega, by simp only [Ms.ms]; omega, below_al (below_rf _) _⟩)
set_option maxHeartbeats 400000 in
theorem c_laws_szTransferS (v : Value) (xs : List Transfer) (left : Int) (w : World) (hv : Rd w v xs) (h1 : 0 ≤ left) (h2 : left ≤ 1048576) (h3 : ∀ x ∈ xs, Ms.ok x) :
    Calls Try.prog 29 #[v, .int .i64 left] w (SzPost (xs.length + msL xs) left w) := by
  obtain ⟨A, cap, rfl, hlc, hcap, hrd⟩ := hv
  go_enter Try.func29, Try.ntmps29
  go_wp2
  · go_ret; exact ⟨_, rfl, by omega, by omega, by omega, below_rf _⟩
  go_loopw [1, 5] (fun a i wr => ∃ (n : Nat) (l : Int), n ≤ xs.length ∧ i = .int .i64 n ∧ a = .int .i64 l ∧ 0 ≤ l ∧ Hid (l + msL (xs.take n) = left - xs.length) ∧ Below w.heap.size w wr) (fun _ i _ => xs.length - (intOf i).toNat)
  case atStart => exact ⟨0, _, Nat.zero_le _, rfl, rfl, by omega, by unfold Hid; simp [msL], below_rf _⟩
  case round =>
    obtain ⟨n, l, hn, rfl, rfl, hl0, HS, hb⟩ := hrel
    have hl1 : l ≤ 1048576 := by have := HS.out; omega
    by_cases hlt : n < xs.length
    · obtain ⟨b, off, rfl, hbl, hc⟩ := hrd (by omega)
      have h3n := h3 _ (List.getElem_mem hlt)
      have hms := msL_snoc xs n hlt
      have HM := Lib.hid hms; clear hms
      clear hrd
      have c0 := (hb.cell hbl).trans (hc n hlt 0 _ rfl)
      have c1 := (hb.cell hbl).trans (hc n hlt 1 _ rfl)
      have c2 := (hb.cell hbl).trans (hc n hlt 2 _ rfl)
      simp only [Nat.add_zero, Enc.k] at c0 c1 c2
      clear hc
      go_wp2_with (go_at_call 63; refine (c_laws_szTransfer xs[n] _ _ hl0 hl1 h3n).mono ?_; rintro e w1 ⟨r, rfl, hr1, hr2, hr3, hb1⟩)
      · go_ret
        have hA := HM.out; have hB := HS.out; have hC := msL_take xs n; have hD := msL_take xs (n+1)
        exact ⟨_, rfl, by omega, by omega, by omega, below_tr hb hb1⟩
      · go_roundw
        case rel => exact ⟨n + 1, _, by omega, by go_num, rfl, by omega, by have hA := HM.out; have hB := HS.out; unfold Hid; omega, below_tr hb hb1⟩
        case measure => simp [intOf]; omega
    · go_wp2
      go_ret
      obtain rfl : n = xs.length := by omega
      have hB := HS.out; rw [List.take_length] at hB
      exact ⟨_, rfl, by omega, by omega, by omega, hb⟩
set_option maxHeartbeats 400000 in
theorem c_laws_szDemand (x : Demand) (left : Int) (w : World) (h1 : 0 ≤ left) (h2 : left ≤ 1048576) (h3 : Ms.ok x) :
    Calls Try.prog 73 #[.agg #[.string x.party, .int .i64 x.rank, .int .i64 x.asked], .int .i64 left] w (SzPost (Ms.ms x) left w) := by
  simp only [Ms.ok] at h3
  go_enter Try.func73, Try.ntmps73
  go_wp2
  all_goals (go_ret; exact ⟨_, rfl, by omega, by omega, by simp only [Ms.ms]; omega, below_al (below_rf _) _⟩)
set_option maxHeartbeats 400000 in
theorem c_laws_szDemandS (v : Value) (xs : List Demand) (left : Int) (w : World) (hv : Rd w v xs) (h1 : 0 ≤ left) (h2 : left ≤ 1048576) (h3 : ∀ x ∈ xs, Ms.ok x) :
    Calls Try.prog 37 #[v, .int .i64 left] w (SzPost (xs.length + msL xs) left w) := by
  obtain ⟨A, cap, rfl, hlc, hcap, hrd⟩ := hv
  go_enter Try.func37, Try.ntmps37
  go_wp2
  · go_ret; exact ⟨_, rfl, by omega, by omega, by omega, below_rf _⟩
  go_loopw [1, 5] (fun a i wr => ∃ (n : Nat) (l : Int), n ≤ xs.length ∧ i = .int .i64 n ∧ a = .int .i64 l ∧ 0 ≤ l ∧ Hid (l + msL (xs.take n) = left - xs.length) ∧ Below w.heap.size w wr) (fun _ i _ => xs.length - (intOf i).toNat)
  case atStart => exact ⟨0, _, Nat.zero_le _, rfl, rfl, by omega, by unfold Hid; simp [msL], below_rf _⟩
  case round =>
    obtain ⟨n, l, hn, rfl, rfl, hl0, HS, hb⟩ := hrel
    have hl1 : l ≤ 1048576 := by have := HS.out; omega
    by_cases hlt : n < xs.length
    · obtain ⟨b, off, rfl, hbl, hc⟩ := hrd (by omega)
      have h3n := h3 _ (List.getElem_mem hlt)
      have hms := msL_snoc xs n hlt
      have HM := Lib.hid hms; clear hms
      clear hrd
      have c0 := (hb.cell hbl).trans (hc n hlt 0 _ rfl)
      have c1 := (hb.cell hbl).trans (hc n hlt 1 _ rfl)
      have c2 := (hb.cell hbl).trans (hc n hlt 2 _ rfl)
      simp only [Nat.add_zero, Enc.k] at c0 c1 c2
      clear hc
      go_wp2_with (go_at_call 73; refine (c_laws_szDemand xs[n] _ _ hl0 hl1 h3n).mono ?_; rintro e w1 ⟨r, rfl, hr1, hr2, hr3, hb1⟩)
      · go_ret
        have hA := HM.out; have hB := HS.out; have hC := msL_take xs n; have hD := msL_take xs (n+1)
        exact ⟨_, rfl, by omega, by omega, by omega, below_tr hb hb1⟩
      · go_roundw
        case rel => exact ⟨n + 1, _, by omega, by go_num, rfl, by omega, by have hA := HM.out; have hB := HS.out; unfold Hid; omega, below_tr hb hb1⟩
        case measure => simp [intOf]; omega
    · go_wp2
      go_ret
      obtain rfl : n = xs.length := by omega
      have hB := HS.out; rw [List.take_length] at hB
      exact ⟨_, rfl, by omega, by omega, by omega, hb⟩
end Go.Proofs.Ytiplbpapgaoaoaa
