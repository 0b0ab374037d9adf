/- The small tests of the program and of the reference: bounds, codes, days. Conditions: none. -/
import Derived.Test.YtiplbpapgaoaoaaTypes
namespace Go.Proofs.Ytiplbpapgaoaoaa
open Go.RowKit Enc
set_option linter.unusedVariables false
set_option linter.unusedSimpArgs false

def inB (n lo hi : Int) : Bool := decide (lo ≤ n) && decide (n ≤ hi)
def valueB (n : Int) : Bool := inB n (-1000000000000) 1000000000000
def amountB (n : Int) : Bool := inB n 0 1000000000
def rankB (n : Int) : Bool := inB n 1 5
def dayB (n : Int) : Bool := inB n 0 36524
def byteIn (lo hi : Int) (c : UInt8) : Bool := decide (lo ≤ (c.toNat : Int)) && decide ((c.toNat : Int) ≤ hi)
def spelledB (s : ByteArray) (least most lo hi : Int) : Bool := s.data.toList.all (byteIn lo hi) && (decide (least ≤ (s.size : Int)) && decide ((s.size : Int) ≤ most))
def codeB (s : ByteArray) : Bool := spelledB s 1 6 97 122

set_option maxHeartbeats 400000 in
theorem c_impl_in (n lo hi : Int) (w : World) : Calls Try.prog 86 #[.int .i64 n, .int .i64 lo, .int .i64 hi] w fun e w' => e = .returned (.bool (inB n lo hi)) ∧ w = w' := by
  go_enter Try.func86, Try.ntmps86
  go_wp2
  · have h : lo ≤ n := by assumption
    go_ret; exact ⟨ret_bool (by simp [inB, h]), rfl⟩
  · have h : ¬ lo ≤ n := by omega
    go_ret; exact ⟨ret_bool (by simp [inB, h]), rfl⟩
set_option maxHeartbeats 400000 in
theorem c_spec_l01In (n lo hi : Int) (w : World) : Calls Try.prog 92 #[.int .i64 n, .int .i64 lo, .int .i64 hi] w fun e w' => e = .returned (.bool (inB n lo hi)) ∧ w = w' := by
  go_enter Try.func92, Try.ntmps92
  go_wp2
  · have h : lo ≤ n := by assumption
    go_ret; exact ⟨ret_bool (by simp [inB, h]), rfl⟩
  · have h : ¬ lo ≤ n := by omega
    go_ret; exact ⟨ret_bool (by simp [inB, h]), rfl⟩
theorem c_impl_isValue (n : Int) (w : World) : Calls Try.prog 49 #[.int .i64 n] w fun e w' => e = .returned (.bool (valueB n)) ∧ w = w' := by
  go_enter Try.func49, Try.ntmps49
  go_wp2_with (go_at_call 86; refine (c_impl_in _ _ _ _).mono ?_; rintro e w1 ⟨rfl, rfl⟩)
  go_ret; exact ⟨rfl, rfl⟩
theorem c_impl_IsAmount (n : Int) (w : World) : Calls Try.prog 102 #[.int .i64 n] w fun e w' => e = .returned (.bool (amountB n)) ∧ w = w' := by
  go_enter Try.func102, Try.ntmps102
  go_wp2_with (go_at_call 86; refine (c_impl_in _ _ _ _).mono ?_; rintro e w1 ⟨rfl, rfl⟩)
  go_ret; exact ⟨rfl, rfl⟩
theorem c_spec_l01Is (n : Int) (w : World) : Calls Try.prog 85 #[.int .i64 n] w fun e w' => e = .returned (.bool (valueB n)) ∧ w = w' := by
  go_enter Try.func85, Try.ntmps85
  go_wp2_with (go_at_call 92; refine (c_spec_l01In _ _ _ _).mono ?_; rintro e w1 ⟨rfl, rfl⟩)
  go_ret; exact ⟨rfl, rfl⟩
theorem c_spec_IsAmount (n : Int) (w : World) : Calls Try.prog 98 #[.int .i64 n] w fun e w' => e = .returned (.bool (amountB n)) ∧ w = w' := by
  go_enter Try.func98, Try.ntmps98
  go_wp2_with (go_at_call 92; refine (c_spec_l01In _ _ _ _).mono ?_; rintro e w1 ⟨rfl, rfl⟩)
  go_ret; exact ⟨rfl, rfl⟩
theorem c_spec_l02Is (n : Int) (w : World) : Calls Try.prog 91 #[.int .i64 n] w fun e w' => e = .returned (.bool (dayB n)) ∧ w = w' := by
  go_enter Try.func91, Try.ntmps91
  go_wp2_with (go_at_call 92; refine (c_spec_l01In _ _ _ _).mono ?_; rintro e w1 ⟨rfl, rfl⟩)
  go_ret; exact ⟨rfl, rfl⟩
theorem c_impl_isRank (n : Int) (w : World) : Calls Try.prog 116 #[.int .i64 n] w fun e w' => e = .returned (.bool (rankB n)) ∧ w = w' := by
  go_enter Try.func116, Try.ntmps116
  go_wp2_with (go_at_call 86; refine (c_impl_in _ _ _ _).mono ?_; rintro e w1 ⟨rfl, rfl⟩)
  go_ret; exact ⟨rfl, rfl⟩
theorem c_spec_l23Rank (n : Int) (w : World) : Calls Try.prog 113 #[.int .i64 n] w fun e w' => e = .returned (.bool (rankB n)) ∧ w = w' := by
  go_enter Try.func113, Try.ntmps113
  go_wp2_with (go_at_call 92; refine (c_spec_l01In _ _ _ _).mono ?_; rintro e w1 ⟨rfl, rfl⟩)
  go_ret; exact ⟨rfl, rfl⟩

theorem all_take (s : ByteArray) (p : UInt8 → Bool) (n : Nat) (h : n < s.size) : (s.data.toList.take (n + 1)).all p = ((s.data.toList.take n).all p && p s[n]) := by
  rw [take_snoc s n h, List.all_append]; simp
theorem all_not (s : ByteArray) (p : UInt8 → Bool) (n : Nat) (h : n < s.size) (hp : p s[n] = false) : s.data.toList.all p = false := by
  rw [List.all_eq_false]
  exact ⟨s[n], Array.getElem_mem_toList (by exact h), by simp [hp]⟩
theorem all_all (s : ByteArray) (p : UInt8 → Bool) (n : Nat) (hn : s.size ≤ n) (h : (s.data.toList.take n).all p = true) : s.data.toList.all p = true := by
  rwa [List.take_of_length_le (by simpa using hn)] at h
set_option maxHeartbeats 400000 in
theorem c_impl_spelled (s : ByteArray) (least most lo hi : Int) (w : World) (hs : s.size ≤ 9223372036854775807) :
    Calls Try.prog 122 #[.string s, .int .i64 least, .int .i64 most, .int .u8 lo, .int .u8 hi] w fun e w' => e = .returned (.bool (spelledB s least most lo hi)) ∧ w = w' := by
  go_enter Try.func122, Try.ntmps122
  go_wp2
  go_loop [11, 14] (fun _ i => ∃ n : Nat, n ≤ s.size ∧ i = .int .i64 n ∧ Hid ((s.data.toList.take n).all (byteIn lo hi) = true)) (fun _ i => s.size - (intOf i).toNat)
  case atStart => exact ⟨0, Nat.zero_le _, rfl, rfl⟩
  case round =>
    obtain ⟨n, hn, rfl, HA⟩ := hrel
    by_cases hlt : n < s.size
    · by_cases h1 : ((s[n].toNat : Nat) : Int) < lo
      · go_wp2
        go_ret
        exact ⟨ret_bool (by rw [spelledB, all_not s _ n hlt (by simp [byteIn]; omega)]; rfl), rfl⟩
      · by_cases h2 : hi < ((s[n].toNat : Nat) : Int)
        · go_wp2
          go_ret
          exact ⟨ret_bool (by rw [spelledB, all_not s _ n hlt (by simp [byteIn]; omega)]; rfl), rfl⟩
        · go_wp2
          go_round
          case rel => exact ⟨n + 1, by omega, by go_num, by unfold Hid; rw [all_take s _ n hlt, HA.out]; simp [byteIn]; omega⟩
          case measure => simp [intOf]; omega
    · have hA := all_all s _ n (by omega) HA.out
      by_cases h3 : least ≤ (s.size : Int)
      · go_wp2
        go_ret
        exact ⟨ret_bool (by rw [spelledB, hA]; simp [h3]), rfl⟩
      · go_wp2
        go_ret
        exact ⟨ret_bool (by rw [spelledB, hA]; simp; omega), rfl⟩
theorem c_impl_IsPartyCode (s : ByteArray) (w : World) (hs : s.size ≤ 9223372036854775807) :
    Calls Try.prog 108 #[.string s] w fun e w' => e = .returned (.bool (codeB s)) ∧ w = w' := by
  go_enter Try.func108, Try.ntmps108
  go_wp2_with (go_at_call 122; refine (c_impl_spelled _ _ _ _ _ _ hs).mono ?_; rintro e w1 ⟨rfl, rfl⟩)
  go_ret; exact ⟨rfl, rfl⟩
set_option maxHeartbeats 400000 in
theorem c_spec_IsPartyCode (s : ByteArray) (w : World) (hs : s.size ≤ 9223372036854775807) :
    Calls Try.prog 84 #[.string s] w fun e w' => e = .returned (.bool (codeB s)) ∧ w = w' := by
  go_enter Try.func84, Try.ntmps84
  go_wp2
  go_loop [3] (fun i => ∃ n : Nat, n ≤ s.size ∧ i = .int .i64 n ∧ Hid ((s.data.toList.take n).all (byteIn 97 122) = true)) (fun i => s.size - (intOf i).toNat)
  case atStart => exact ⟨0, Nat.zero_le _, rfl, rfl⟩
  case round =>
    obtain ⟨n, hn, rfl, HA⟩ := hrel
    by_cases hlt : n < s.size
    · by_cases h1 : ((s[n].toNat : Nat) : Int) < 97
      · go_wp2
        go_ret
        exact ⟨ret_bool (by rw [codeB, spelledB, all_not s _ n hlt (by simp [byteIn]; omega)]; rfl), rfl⟩
      · by_cases h2 : 122 < ((s[n].toNat : Nat) : Int)
        · go_wp2
          go_ret
          exact ⟨ret_bool (by rw [codeB, spelledB, all_not s _ n hlt (by simp [byteIn]; omega)]; rfl), rfl⟩
        · go_wp2
          go_round
          case rel => exact ⟨n + 1, by omega, by go_num, by unfold Hid; rw [all_take s _ n hlt, HA.out]; simp [byteIn]; omega⟩
          case measure => simp [intOf]; omega
    · have hA := all_all s _ n (by omega) HA.out
      go_wp2_with (go_at_call 92; refine (c_spec_l01In _ _ _ _).mono ?_; rintro e w1 ⟨rfl, rfl⟩)
      go_ret
      exact ⟨ret_bool (by rw [codeB, spelledB, hA]; rfl), rfl⟩

/-! lines, transfers, entries -/
def lineB (l : Line) : Bool := codeB l.party && valueB l.amount
set_option maxHeartbeats 400000 in
theorem c_impl_isLine (x : Line) (w : World) (hx : Ms.ok x) : Calls Try.prog 88 #[.agg #[.string x.party, .int .i64 x.amount]] w fun e w' => e = .returned (.bool (lineB x)) ∧ Below w.heap.size w w' := by
  simp only [Ms.ok] at hx
  go_enter Try.func88, Try.ntmps88
  go_wp2_with (first | (go_at_call 108; refine (c_impl_IsPartyCode _ _ hx).mono ?_; rintro e w1 ⟨rfl, rfl⟩) | (go_at_call 49; refine (c_impl_isValue _ _).mono ?_; rintro e w1 ⟨rfl, rfl⟩))
  all_goals (go_ret; exact ⟨ret_bool (by simp_all [lineB]), below_al (below_rf _) _⟩)
set_option maxHeartbeats 400000 in
theorem c_spec_l18Line (x : Line) (w : World) (hx : Ms.ok x) : Calls Try.prog 47 #[.agg #[.string x.party, .int .i64 x.amount]] w fun e w' => e = .returned (.bool (lineB x)) ∧ Below w.heap.size w w' := by
  simp only [Ms.ok] at hx
  go_enter Try.func47, Try.ntmps47
  go_wp2_with (first | (go_at_call 84; refine (c_spec_IsPartyCode _ _ hx).mono ?_; rintro e w1 ⟨rfl, rfl⟩) | (go_at_call 85; refine (c_spec_l01Is _ _).mono ?_; rintro e w1 ⟨rfl, rfl⟩))
  all_goals (go_ret; exact ⟨ret_bool (by simp_all [lineB]), below_al (below_rf _) _⟩)

/-! days -/
def dimI (y m : Int) : Int := if m = 2 then (if y % 4 = 0 then 29 else 28) else if m = 4 ∨ m = 6 ∨ m = 9 ∨ m = 11 then 30 else 31
def cumN (y : Int) : Nat → Int
  | 0 => 0
  | n + 1 => cumN y n + dimI y ((n : Int) + 1)
def dayNo (y m d : Int) : Int := 365 * (y - 1970) + (y - 1970 + 1) / 4 + d - 1 + cumN y (m - 1).toNat
theorem dimI_bd (y m : Int) : 28 ≤ dimI y m ∧ dimI y m ≤ 31 := by unfold dimI; repeat' split <;> omega
theorem cumN_bd (y : Int) (n : Nat) : 0 ≤ cumN y n ∧ cumN y n ≤ 31 * n := by
  induction n with
  | zero => simp [cumN]
  | succ n ih => have := dimI_bd y ((n : Int) + 1); unfold cumN; omega
set_option maxHeartbeats 1000000 in
theorem c_impl_daysIn (y m : Int) (w : World) (h0 : 0 ≤ y) : Calls Try.prog 124 #[.int .i64 y, .int .i64 m] w fun e w' => e = .returned (.int .i64 (dimI y m)) ∧ w = w' := by
  by_cases h2 : m = 2
  · obtain rfl := h2
    by_cases h4 : y % 4 = 0
    · have b4 : (y % 4 == 0) = true := by simpa using h4
      have e : dimI y 2 = 29 := by simp [dimI, h4]
      rw [e]; clear e h4
      go_enter Try.func124, Try.ntmps124
      go_wp2; go_ret; exact ⟨rfl, rfl⟩
    · have b4 : (y % 4 == 0) = false := by simpa using h4
      have e : dimI y 2 = 28 := by simp [dimI, h4]
      rw [e]; clear e h4
      go_enter Try.func124, Try.ntmps124
      go_wp2; go_ret; exact ⟨rfl, rfl⟩
  · have b2 : (m == 2) = false := by simpa using h2
    by_cases h : m = 4 ∨ m = 6 ∨ m = 9 ∨ m = 11
    · have e : dimI y m = 30 := by simp [dimI, h2, h]
      rw [e]; clear e h2 b2
      rcases h with rfl | rfl | rfl | rfl <;> (go_enter Try.func124, Try.ntmps124; go_wp2; go_ret; exact ⟨rfl, rfl⟩)
    · have e : dimI y m = 31 := by simp [dimI, h2, h]
      rw [e]; clear e
      have c4 : (m == 4) = false := by simp; omega
      have c6 : (m == 6) = false := by simp; omega
      have c9 : (m == 9) = false := by simp; omega
      have c11 : (m == 11) = false := by simp; omega
      clear h2 h
      go_enter Try.func124, Try.ntmps124
      go_wp2; go_ret; exact ⟨rfl, rfl⟩
set_option maxHeartbeats 1000000 in
theorem c_impl_dayOf (y m d : Int) (w : World) (h0 : 1970 ≤ y) (h1 : y ≤ 100000) (h2 : 1 ≤ m) (h3 : m ≤ 13) (h4 : -1000000 ≤ d) (h5 : d ≤ 1000000) :
    Calls Try.prog 110 #[.agg #[.int .i64 y, .int .i64 m, .int .i64 d]] w fun e w' => e = .returned (.int .i64 (dayNo y m d)) ∧ Below w.heap.size w w' := by
  go_enter Try.func110, Try.ntmps110
  go_wp2
  go_loopw [4, 5] (fun a i wr => ∃ n : Nat, (n : Int) ≤ m - 1 ∧ i = .int .i64 (n + 1) ∧ a = .int .i64 (365 * (y - 1970) + (y - 1970 + 1) / 4 + d - 1 + cumN y n) ∧ wr = w.alloc (.cells #[.int .i64 y, .int .i64 m, .int .i64 d] 127)) (fun _ i _ => (m - intOf i).toNat)
  case atStart => exact ⟨0, by omega, rfl, by simp [cumN], rfl⟩
  case round =>
    obtain ⟨n, hn, rfl, rfl, rfl⟩ := hrel
    have cb := cumN_bd y n
    have cb2 := cumN_bd y (n + 1)
    by_cases hlt : (n : Int) + 1 < m
    · go_wp2_with (go_at_call 124; refine (c_impl_daysIn _ _ _ (by omega)).mono ?_; rintro e w1 ⟨rfl, rfl⟩)
      have e : cumN y (n + 1) = cumN y n + dimI y ((n : Int) + 1) := rfl
      have db := dimI_bd y ((n : Int) + 1)
      go_round
      case rel => exact ⟨n + 1, by omega, by go_num, by rw [e]; refine congrArg (Value.int .i64) ?_; unfold wrap64; omega, trivial⟩
      case measure => simp [intOf]; omega
    · go_wp2
      go_ret
      refine ⟨?_, below_al (below_rf _) _⟩
      rw [show dayNo y m d = 365 * (y - 1970) + (y - 1970 + 1) / 4 + d - 1 + cumN y n from by unfold dayNo; rw [show (m - 1).toNat = n by omega]]
      rfl
theorem day_max : dayNo 2069 12 31 = 36524 := by decide
set_option maxHeartbeats 400000 in
theorem c_impl_isDay (n : Int) (w : World) : Calls Try.prog 93 #[.int .i64 n] w fun e w' => e = .returned (.bool (dayB n)) ∧ Below w.heap.size w w' := by
  go_enter Try.func93, Try.ntmps93
  go_wp2_with (first | (go_at_call 110; refine (c_impl_dayOf _ _ _ _ (by omega) (by omega) (by omega) (by omega) (by omega) (by omega)).mono ?_; rintro e w1 ⟨rfl, hb1⟩) | (go_at_call 86; refine (c_impl_in _ _ _ _).mono ?_; rintro e w1 ⟨rfl, rfl⟩))
  go_ret
  exact ⟨by rw [dayB, ← day_max]; rfl, hb1⟩

/-! transfers, entries -/
def transferB (t : Transfer) : Bool := codeB t.frm && (codeB t.dst && (!(t.frm.toList == t.dst.toList) && inB t.amount 1 1000000000000))
def entryB (t : Entry) : Bool := dayB t.day && (codeB t.frm && (codeB t.dst && (!(t.frm.toList == t.dst.toList) && inB t.amount 1 1000000000)))
set_option maxHeartbeats 1000000 in
theorem c_impl_isTransfer (x : Transfer) (w : World) (hx : Ms.ok x) : Calls Try.prog 94 #[.agg #[.string x.frm, .string x.dst, .int .i64 x.amount]] w fun e w' => e = .returned (.bool (transferB x)) ∧ Below w.heap.size w w' := by
  simp only [Ms.ok] at hx
  obtain ⟨hx1, hx2⟩ := hx
  go_enter Try.func94, Try.ntmps94
  go_wp2_with (first | (go_at_call 108; refine (c_impl_IsPartyCode _ _ (by assumption)).mono ?_; rintro e w1 ⟨rfl, rfl⟩) | (go_at_call 86; refine (c_impl_in _ _ _ _).mono ?_; rintro e w1 ⟨rfl, rfl⟩))
  all_goals (go_ret; exact ⟨ret_bool (by simp_all [transferB]), below_al (below_rf _) _⟩)
set_option maxHeartbeats 1000000 in
theorem c_spec_l28Is (x : Transfer) (w : World) (hx : Ms.ok x) : Calls Try.prog 95 #[.agg #[.string x.frm, .string x.dst, .int .i64 x.amount]] w fun e w' => e = .returned (.bool (transferB x)) ∧ Below w.heap.size w w' := by
  simp only [Ms.ok] at hx
  obtain ⟨hx1, hx2⟩ := hx
  go_enter Try.func95, Try.ntmps95
  go_wp2_with (first | (go_at_call 84; refine (c_spec_IsPartyCode _ _ (by assumption)).mono ?_; rintro e w1 ⟨rfl, rfl⟩) | (go_at_call 92; refine (c_spec_l01In _ _ _ _).mono ?_; rintro e w1 ⟨rfl, rfl⟩))
  all_goals (go_ret; exact ⟨ret_bool (by simp_all [transferB]), below_al (below_rf _) _⟩)
set_option maxHeartbeats 1000000 in
theorem c_spec_l29Is (x : Entry) (w : World) (hx : Ms.ok x) : Calls Try.prog 53 #[.agg #[.int .i64 x.day, .string x.frm, .string x.dst, .int .i64 x.amount]] w fun e w' => e = .returned (.bool (entryB x)) ∧ Below w.heap.size w w' := by
  simp only [Ms.ok] at hx
  obtain ⟨hx1, hx2⟩ := hx
  go_enter Try.func53, Try.ntmps53
  go_wp2_with (first | (go_at_call 91; refine (c_spec_l02Is _ _).mono ?_; rintro e w1 ⟨rfl, rfl⟩) | (go_at_call 84; refine (c_spec_IsPartyCode _ _ (by assumption)).mono ?_; rintro e w1 ⟨rfl, rfl⟩) | (go_at_call 92; refine (c_spec_l01In _ _ _ _).mono ?_; rintro e w1 ⟨rfl, rfl⟩))
  all_goals (go_ret; exact ⟨ret_bool (by simp_all [entryB]), below_al (below_rf _) _⟩)
theorem entryB_eq (x : Entry) : entryB x = (dayB x.day && (transferB ⟨x.frm, x.dst, x.amount⟩ && decide (x.amount ≤ 1000000000))) := by
  unfold entryB transferB inB
  cases dayB x.day <;> cases codeB x.frm <;> cases codeB x.dst <;> cases (x.frm.toList == x.dst.toList) <;> simp
  rw [Bool.eq_iff_iff]; simp; omega
set_option maxHeartbeats 1000000 in
theorem c_impl_isEntry (x : Entry) (w : World) (hx : Ms.ok x) : Calls Try.prog 55 #[.agg #[.int .i64 x.day, .string x.frm, .string x.dst, .int .i64 x.amount]] w fun e w' => e = .returned (.bool (entryB x)) ∧ Below w.heap.size w w' := by
  simp only [Ms.ok] at hx
  rw [entryB_eq]
  go_enter Try.func55, Try.ntmps55
  go_wp2_with (first | (go_at_call 93; refine (c_impl_isDay _ _).mono ?_; rintro e w1 ⟨rfl, hb1⟩; obtain ⟨hc1, hf1⟩ := bcell hb1; have hz1 := bsz hb1) | (go_at_call 94; refine (c_impl_isTransfer ⟨x.frm, x.dst, x.amount⟩ _ hx).mono ?_; rintro e w2 ⟨rfl, hb2⟩; obtain ⟨hc2, hf2⟩ := bcell hb2))
  all_goals go_ret
  all_goals refine ⟨ret_bool (by simp_all), ?_⟩
  all_goals first
    | exact below_tr (below_al (below_rf _) _) (below_tr hb1 hb2)
    | exact below_tr (below_al (below_rf _) _) hb1
end Go.Proofs.Ytiplbpapgaoaoaa
