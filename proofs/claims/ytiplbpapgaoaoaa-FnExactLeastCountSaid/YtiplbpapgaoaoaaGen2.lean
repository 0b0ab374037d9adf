/- The program's function rising. Conditions: none. -/
import Derived.Test.YtiplbpapgaoaoaaTypes
namespace Go.Proofs.Ytiplbpapgaoaoaa
open Go.RowKit Enc Go.Shelf
set_option linter.unusedVariables false
set_option linter.unusedSimpArgs false
set_option maxHeartbeats 2000000 in
theorem c_impl_rising_impl_Line (v : Value) (xs : List Line) (g : Nat) (lb : Array Value) (f : Line → Line → Int) (w : World) (hv : Rd w v xs) (hf : FnI Try.prog g lb (fun x : Line => .agg #[.string x.party, .int .i64 x.amount]) f xs w) (hm : xs.length ≤ 1048576) :
    Calls Try.prog 89 #[v, .func (.func g) #[] lb] w fun e w' => e = .returned (.bool (risB (fun a b => decide (f a b < 0)) xs)) ∧ Below w.heap.size w w' := by
  obtain ⟨A, cap, rfl, hlc, hcap, hrd⟩ := hv
  obtain ⟨eg, hp⟩ := hf
  have HP := Lib.hid hp; clear hp
  have HR := Lib.hid hrd; clear hrd
  go_enter Try.func89, Try.ntmps89
  go_wp2
  go_loopw [5] (fun i wr => ∃ (n : Nat), 1 ≤ n ∧ (n ≤ xs.length ∨ n = 1) ∧ i = .int .i64 n ∧ Hid (n ≤ xs.length → risN (fun a b => decide (f a b < 0)) xs n = true) ∧ Below w.heap.size w wr) (fun i _ => xs.length + 1 - (intOf i).toNat)
  case atStart => exact ⟨1, Nat.le_refl _, by omega, rfl, fun _ => rfl, below_rf _⟩
  case round =>
    obtain ⟨n, hn1, hn, rfl, HS, hb⟩ := hrel
    by_cases hlt : n < xs.length
    · obtain ⟨b, off, rfl, hbl, hc⟩ := HR.out (by omega)
      have hlt0 : n - 1 < xs.length := by omega
      have c0 := (hb.cell hbl).trans (hc n hlt 0 _ rfl)
      have d0 := (hb.cell hbl).trans (hc (n - 1) hlt0 0 _ rfl)
      have c1 := (hb.cell hbl).trans (hc n hlt 1 _ rfl)
      have d1 := (hb.cell hbl).trans (hc (n - 1) hlt0 1 _ rfl)
      simp only [Nat.add_zero, Enc.k] at c0 d0 c1 d1
      have C0 : ∀ p : InW wr, p.v.cell? _ = _ := fun p => (p.h.cell (Nat.lt_of_lt_of_le hbl hb.size)).trans c0
      have D0 : ∀ p : InW wr, p.v.cell? _ = _ := fun p => (p.h.cell (Nat.lt_of_lt_of_le hbl hb.size)).trans d0
      have C1 : ∀ p : InW wr, p.v.cell? _ = _ := fun p => (p.h.cell (Nat.lt_of_lt_of_le hbl hb.size)).trans c1
      have D1 : ∀ p : InW wr, p.v.cell? _ = _ := fun p => (p.h.cell (Nat.lt_of_lt_of_le hbl hb.size)).trans d1
      clear hc c0 d0 c1 d1
      have i0 : (0:Int) ≤ n := by omega
      have i1 : (n:Int) < (xs.length:Int) := by omega
      have j0 : (0:Int) ≤ (n:Int) - 1 := by omega
      have j1 : (n:Int) - 1 < (xs.length:Int) := by omega
      have jw : IntKind.i64.wrap ((n:Int) - 1) = (n:Int) - 1 := IntWalk.i64_in _ (by omega)
      have jt : ((n:Int) - 1).toNat = n - 1 := by omega
      have hcall := fun (p : InW wr) => HP.out p.v xs[n - 1] xs[n] (below_tr hb p.h) (List.getElem_mem hlt0) (List.getElem_mem hlt)
      have HC := Lib.hid hcall; clear hcall
      go_wp2
      refine wp_region_in (by kernel_rfl) (by kernel_rfl) ?_
      repeat (go_big_quiet_step ((go_at_fn g; exact in_call (HC.out _))))
      refine wpQuiet_nil ?_
      rintro y1 ⟨⟨y2, hb1⟩, hy⟩
      obtain rfl : y1 = y2 := hy
      clear jw jt C0 D0 C1 D1
      generalize hq : f xs[n - 1] xs[n] = q
      have HQ := Lib.hid hq; clear hq
      by_cases h0 : 0 ≤ q
      · have h00 : decide (0 ≤ q) = true := decide_eq_true h0
        go_wp2
        go_ret
        refine ⟨ret_bool ?_, below_tr hb hb1⟩
        have h5 : risN (fun a b => decide (f a b < 0)) xs (n + 1) = false := by rw [risN_succ _ xs n (by omega) hlt, HQ.out]; simp; omega
        exact (risN_le _ xs xs.length (n + 1) (by omega) h5).symm
      · have h00 : decide (0 ≤ q) = false := decide_eq_false h0
        go_wp2
        go_roundw
        case rel => exact ⟨n + 1, by omega, by omega, by go_num, fun _ => by rw [risN_succ _ xs n (by omega) hlt, HQ.out, HS.out (by omega)]; simp; omega, below_tr hb hb1⟩
        case measure => simp [intOf]; omega
    · go_wp2
      go_ret
      refine ⟨ret_bool ?_, hb⟩
      by_cases he : xs.length = 0
      · rw [risB, he]; rfl
      · obtain rfl : n = xs.length := by omega
        exact (HS.out (by omega)).symm
set_option maxHeartbeats 2000000 in
theorem c_impl_rising_impl_Demand (v : Value) (xs : List Demand) (g : Nat) (lb : Array Value) (f : Demand → Demand → Int) (w : World) (hv : Rd w v xs) (hf : FnI Try.prog g lb (fun x : Demand => .agg #[.string x.party, .int .i64 x.rank, .int .i64 x.asked]) f xs w) (hm : xs.length ≤ 1048576) :
    Calls Try.prog 117 #[v, .func (.func g) #[] lb] w fun e w' => e = .returned (.bool (risB (fun a b => decide (f a b < 0)) xs)) ∧ Below w.heap.size w w' := by
  obtain ⟨A, cap, rfl, hlc, hcap, hrd⟩ := hv
  obtain ⟨eg, hp⟩ := hf
  have HP := Lib.hid hp; clear hp
  have HR := Lib.hid hrd; clear hrd
  go_enter Try.func117, Try.ntmps117
  go_wp2
  go_loopw [5] (fun i wr => ∃ (n : Nat), 1 ≤ n ∧ (n ≤ xs.length ∨ n = 1) ∧ i = .int .i64 n ∧ Hid (n ≤ xs.length → risN (fun a b => decide (f a b < 0)) xs n = true) ∧ Below w.heap.size w wr) (fun i _ => xs.length + 1 - (intOf i).toNat)
  case atStart => exact ⟨1, Nat.le_refl _, by omega, rfl, fun _ => rfl, below_rf _⟩
  case round =>
    obtain ⟨n, hn1, hn, rfl, HS, hb⟩ := hrel
    by_cases hlt : n < xs.length
    · obtain ⟨b, off, rfl, hbl, hc⟩ := HR.out (by omega)
      have hlt0 : n - 1 < xs.length := by omega
      have c0 := (hb.cell hbl).trans (hc n hlt 0 _ rfl)
      have d0 := (hb.cell hbl).trans (hc (n - 1) hlt0 0 _ rfl)
      have c1 := (hb.cell hbl).trans (hc n hlt 1 _ rfl)
      have d1 := (hb.cell hbl).trans (hc (n - 1) hlt0 1 _ rfl)
      have c2 := (hb.cell hbl).trans (hc n hlt 2 _ rfl)
      have d2 := (hb.cell hbl).trans (hc (n - 1) hlt0 2 _ rfl)
      simp only [Nat.add_zero, Enc.k] at c0 d0 c1 d1 c2 d2
      have C0 : ∀ p : InW wr, p.v.cell? _ = _ := fun p => (p.h.cell (Nat.lt_of_lt_of_le hbl hb.size)).trans c0
      have D0 : ∀ p : InW wr, p.v.cell? _ = _ := fun p => (p.h.cell (Nat.lt_of_lt_of_le hbl hb.size)).trans d0
      have C1 : ∀ p : InW wr, p.v.cell? _ = _ := fun p => (p.h.cell (Nat.lt_of_lt_of_le hbl hb.size)).trans c1
      have D1 : ∀ p : InW wr, p.v.cell? _ = _ := fun p => (p.h.cell (Nat.lt_of_lt_of_le hbl hb.size)).trans d1
      have C2 : ∀ p : InW wr, p.v.cell? _ = _ := fun p => (p.h.cell (Nat.lt_of_lt_of_le hbl hb.size)).trans c2
      have D2 : ∀ p : InW wr, p.v.cell? _ = _ := fun p => (p.h.cell (Nat.lt_of_lt_of_le hbl hb.size)).trans d2
      clear hc c0 d0 c1 d1 c2 d2
      have i0 : (0:Int) ≤ n := by omega
      have i1 : (n:Int) < (xs.length:Int) := by omega
      have j0 : (0:Int) ≤ (n:Int) - 1 := by omega
      have j1 : (n:Int) - 1 < (xs.length:Int) := by omega
      have jw : IntKind.i64.wrap ((n:Int) - 1) = (n:Int) - 1 := IntWalk.i64_in _ (by omega)
      have jt : ((n:Int) - 1).toNat = n - 1 := by omega
      have hcall := fun (p : InW wr) => HP.out p.v xs[n - 1] xs[n] (below_tr hb p.h) (List.getElem_mem hlt0) (List.getElem_mem hlt)
      have HC := Lib.hid hcall; clear hcall
      go_wp2
      refine wp_region_in (by kernel_rfl) (by kernel_rfl) ?_
      repeat (go_big_quiet_step ((go_at_fn g; exact in_call (HC.out _))))
      refine wpQuiet_nil ?_
      rintro y1 ⟨⟨y2, hb1⟩, hy⟩
      obtain rfl : y1 = y2 := hy
      clear jw jt C0 D0 C1 D1 C2 D2
      generalize hq : f xs[n - 1] xs[n] = q
      have HQ := Lib.hid hq; clear hq
      by_cases h0 : 0 ≤ q
      · have h00 : decide (0 ≤ q) = true := decide_eq_true h0
        go_wp2
        go_ret
        refine ⟨ret_bool ?_, below_tr hb hb1⟩
        have h5 : risN (fun a b => decide (f a b < 0)) xs (n + 1) = false := by rw [risN_succ _ xs n (by omega) hlt, HQ.out]; simp; omega
        exact (risN_le _ xs xs.length (n + 1) (by omega) h5).symm
      · have h00 : decide (0 ≤ q) = false := decide_eq_false h0
        go_wp2
        go_roundw
        case rel => exact ⟨n + 1, by omega, by omega, by go_num, fun _ => by rw [risN_succ _ xs n (by omega) hlt, HQ.out, HS.out (by omega)]; simp; omega, below_tr hb hb1⟩
        case measure => simp [intOf]; omega
    · go_wp2
      go_ret
      refine ⟨ret_bool ?_, hb⟩
      by_cases he : xs.length = 0
      · rw [risB, he]; rfl
      · obtain rfl : n = xs.length := by omega
        exact (HS.out (by omega)).symm
set_option maxHeartbeats 2000000 in
theorem c_impl_indices_impl_Objection (v : Value) (xs : List Objection) (g : Nat) (lb : Array Value) (p : Objection → Bool) (w : World) (hv : Rd w v xs) (hf : FnB Try.prog g lb (fun x : Objection => .agg #[.string x.party, .int .i64 x.day, .int .i64 x.event, .int .i64 x.ground, .int .i64 x.value]) p xs w) (hm : xs.length ≤ 1048576) :
    Calls Try.prog 59 #[v, .func (.func g) #[] lb] w (OwPost 2 (idxTo p xs xs.length) w) := by
  obtain ⟨A, cap, rfl, hlc, hcap, hrd⟩ := hv
  obtain ⟨eg, hp⟩ := hf
  have HP := Lib.hid hp; clear hp
  have HR := Lib.hid hrd; clear hrd
  go_enter Try.func59, Try.ntmps59
  go_wp2
  go_loopw [5, 11] (fun u i wr => ∃ (n : Nat) (v1 : Value), n ≤ xs.length ∧ i = .int .i64 n ∧ v1 = u ∧ Hid (Ow 2 w.heap.size wr v1 (idxTo p xs n)) ∧ Below w.heap.size w wr) (fun _ i _ => xs.length - (intOf i).toNat)
  case atStart => exact ⟨0, _, Nat.zero_le _, rfl, rfl, Ow.lit0 _ _ _ (Nat.le_refl _), below_al (below_rf _) _⟩
  case round =>
    obtain ⟨n, v1, hn, rfl, rfl, HW, hb⟩ := hrel
    by_cases hlt : n < xs.length
    · obtain ⟨b, off, rfl, hbl, hc⟩ := HR.out (by omega)
      have c0 := (hb.cell hbl).trans (hc n hlt 0 _ rfl)
      have c1 := (hb.cell hbl).trans (hc n hlt 1 _ rfl)
      have c2 := (hb.cell hbl).trans (hc n hlt 2 _ rfl)
      have c3 := (hb.cell hbl).trans (hc n hlt 3 _ rfl)
      have c4 := (hb.cell hbl).trans (hc n hlt 4 _ rfl)
      simp only [Nat.add_zero, Enc.k] at c0 c1 c2 c3 c4
      clear hc
      have i1 : (n : Int) < (xs.length : Int) := by omega
      have hbw := hb.size
      have hcall := fun (W : World) (hW : Below wr.heap.size wr W) => HP.out W xs[n] (below_tr hb hW) (List.getElem_mem hlt)
      have HI := idxTo_len p xs n
      have HX := idxTo_succ p xs n hlt
      cases hq : p xs[n] with
      | true =>
        rw [hq] at hcall HX
        have HC := Lib.hid hcall; clear hcall
        have HQ := Lib.hid HX; clear HX hq
        go_wp2_with (first
          | (go_at_fn g; refine (HC.out _ (by repeat (first | exact below_rf _ | apply below_al))).mono ?_; rintro e w1 ⟨rfl, hb1⟩; have H2 := Lib.hid ((HW.out.below (by repeat (first | exact below_rf _ | apply below_al))).below hb1); have HB2 := Lib.hid (below_tr hb (below_tr (by repeat (first | exact below_rf _ | apply below_al)) hb1)))
          | (at_builtin; refine wpList_app (w0 := w) (lo := w.heap.size) rfl _ _ _ _ _ 8 rfl Try.underlying38 info_int64 rfl (by decide) (by decide) v1 (idxTo p xs n) (n : Int) rfl rfl H2.out HB2.out (Nat.le_refl _) HB2.out.size (by omega) ?_; intro v2 w2 ho2 hb2 hg2 hat2))
        go_roundw
        case rel => exact ⟨n + 1, v2, by omega, by go_num, rfl, by unfold Hid; rw [HQ.out]; exact ho2, hb2⟩
        case measure => simp [intOf]; omega
      | false =>
        rw [hq] at hcall HX
        have HC := Lib.hid hcall; clear hcall
        have HQ := Lib.hid HX; clear HX hq
        go_wp2_with (go_at_fn g; refine (HC.out _ (by repeat (first | exact below_rf _ | apply below_al))).mono ?_; rintro e w1 ⟨rfl, hb1⟩; have H2 := Lib.hid ((HW.out.below (by repeat (first | exact below_rf _ | apply below_al))).below hb1); have HB2 := Lib.hid (below_tr hb (below_tr (by repeat (first | exact below_rf _ | apply below_al)) hb1)))
        go_roundw
        case rel => exact ⟨n + 1, v1, by omega, by go_num, rfl, by unfold Hid; rw [HQ.out]; simpa using H2.out, HB2.out⟩
        case measure => simp [intOf]; omega
    · go_wp2
      go_ret
      obtain rfl : n = xs.length := by omega
      exact ⟨v1, rfl, HW.out, hb⟩
set_option maxHeartbeats 2000000 in
theorem c_impl_indices_impl_Transfer (v : Value) (xs : List Transfer) (g : Nat) (lb : Array Value) (p : Transfer → Bool) (w : World) (hv : Rd w v xs) (hf : FnB Try.prog g lb (fun x : Transfer => .agg #[.string x.frm, .string x.dst, .int .i64 x.amount]) p xs w) (hm : xs.length ≤ 1048576) :
    Calls Try.prog 67 #[v, .func (.func g) #[] lb] w (OwPost 2 (idxTo p xs xs.length) w) := by
  obtain ⟨A, cap, rfl, hlc, hcap, hrd⟩ := hv
  obtain ⟨eg, hp⟩ := hf
  have HP := Lib.hid hp; clear hp
  have HR := Lib.hid hrd; clear hrd
  go_enter Try.func67, Try.ntmps67
  go_wp2
  go_loopw [5, 11] (fun u i wr => ∃ (n : Nat) (v1 : Value), n ≤ xs.length ∧ i = .int .i64 n ∧ v1 = u ∧ Hid (Ow 2 w.heap.size wr v1 (idxTo p xs n)) ∧ Below w.heap.size w wr) (fun _ i _ => xs.length - (intOf i).toNat)
  case atStart => exact ⟨0, _, Nat.zero_le _, rfl, rfl, Ow.lit0 _ _ _ (Nat.le_refl _), below_al (below_rf _) _⟩
  case round =>
    obtain ⟨n, v1, hn, rfl, rfl, HW, hb⟩ := hrel
    by_cases hlt : n < xs.length
    · obtain ⟨b, off, rfl, hbl, hc⟩ := HR.out (by omega)
      have c0 := (hb.cell hbl).trans (hc n hlt 0 _ rfl)
      have c1 := (hb.cell hbl).trans (hc n hlt 1 _ rfl)
      have c2 := (hb.cell hbl).trans (hc n hlt 2 _ rfl)
      simp only [Nat.add_zero, Enc.k] at c0 c1 c2
      clear hc
      have i1 : (n : Int) < (xs.length : Int) := by omega
      have hbw := hb.size
      have hcall := fun (W : World) (hW : Below wr.heap.size wr W) => HP.out W xs[n] (below_tr hb hW) (List.getElem_mem hlt)
      have HI := idxTo_len p xs n
      have HX := idxTo_succ p xs n hlt
      cases hq : p xs[n] with
      | true =>
        rw [hq] at hcall HX
        have HC := Lib.hid hcall; clear hcall
        have HQ := Lib.hid HX; clear HX hq
        go_wp2_with (first
          | (go_at_fn g; refine (HC.out _ (by repeat (first | exact below_rf _ | apply below_al))).mono ?_; rintro e w1 ⟨rfl, hb1⟩; have H2 := Lib.hid ((HW.out.below (by repeat (first | exact below_rf _ | apply below_al))).below hb1); have HB2 := Lib.hid (below_tr hb (below_tr (by repeat (first | exact below_rf _ | apply below_al)) hb1)))
          | (at_builtin; refine wpList_app (w0 := w) (lo := w.heap.size) rfl _ _ _ _ _ 8 rfl Try.underlying38 info_int64 rfl (by decide) (by decide) v1 (idxTo p xs n) (n : Int) rfl rfl H2.out HB2.out (Nat.le_refl _) HB2.out.size (by omega) ?_; intro v2 w2 ho2 hb2 hg2 hat2))
        go_roundw
        case rel => exact ⟨n + 1, v2, by omega, by go_num, rfl, by unfold Hid; rw [HQ.out]; exact ho2, hb2⟩
        case measure => simp [intOf]; omega
      | false =>
        rw [hq] at hcall HX
        have HC := Lib.hid hcall; clear hcall
        have HQ := Lib.hid HX; clear HX hq
        go_wp2_with (go_at_fn g; refine (HC.out _ (by repeat (first | exact below_rf _ | apply below_al))).mono ?_; rintro e w1 ⟨rfl, hb1⟩; have H2 := Lib.hid ((HW.out.below (by repeat (first | exact below_rf _ | apply below_al))).below hb1); have HB2 := Lib.hid (below_tr hb (below_tr (by repeat (first | exact below_rf _ | apply below_al)) hb1)))
        go_roundw
        case rel => exact ⟨n + 1, v1, by omega, by go_num, rfl, by unfold Hid; rw [HQ.out]; simpa using H2.out, HB2.out⟩
        case measure => simp [intOf]; omega
    · go_wp2
      go_ret
      obtain rfl : n = xs.length := by omega
      exact ⟨v1, rfl, HW.out, hb⟩

end Go.Proofs.Ytiplbpapgaoaoaa
