/- The indices of the objections against an event: the program's AgainstEvent and the reference's. Conditions: none. -/
import Derived.Test.YtiplbpapgaoaoaaGen2
namespace Go.Proofs.Ytiplbpapgaoaoaa
open Go.RowKit Enc Go.Shelf
set_option linter.unusedVariables false
set_option linter.unusedSimpArgs false
def agP (a : Int) (o : Objection) : Bool := o.event == a
def agL (xs : List Objection) (a : Int) : List Int := if 8 < xs.length then [] else idxTo (agP a) xs xs.length
def agC (xs : List Objection) : Int := if 8 < xs.length then 3 else 0
theorem agL_len (xs : List Objection) (a : Int) : (agL xs a).length ≤ xs.length := by
  unfold agL
  split
  · simp
  · exact idxTo_len _ _ _
set_option maxHeartbeats 2000000 in
theorem c_spec_AgainstEvent (v : Value) (xs : List Objection) (a : Int) (w : World) (hv : Rd w v xs) (hx : ∀ x ∈ xs, Ms.ok x) (hm : xs.length ≤ 1048576) :
    Calls Try.prog 21 #[v, .int .i64 a] w (OwPost2 2 (agL xs a) (agC xs) w) := by
  obtain ⟨A, cap, rfl, hlc, hcap, hrd⟩ := hv
  have HR := Lib.hid hrd; clear hrd
  by_cases h8 : 8 < xs.length
  · have e1 : agL xs a = [] := if_pos h8
    have e2 : agC xs = 3 := if_pos h8
    rw [e1, e2]; clear e1 e2
    go_enter Try.func21, Try.ntmps21
    go_wp2
    go_ret2
    exact ⟨_, rfl, Ow.nil _ _ _, below_rf _⟩
  have e1 : agL xs a = idxTo (agP a) xs xs.length := if_neg h8
  have e2 : agC xs = 0 := if_neg h8
  rw [e1, e2]; clear e1 e2
  have BS := below_rf w
  go_enter Try.func21, Try.ntmps21
  go_wp2
  go_loopw [6, 7] (fun u i wr => ∃ (n : Nat) (v1 : Value), n ≤ xs.length ∧ i = .int .i64 n ∧ v1 = u ∧ Hid (Ow 2 w.heap.size wr v1 (idxTo (agP a) xs n)) ∧ Below w.heap.size w wr) (fun _ i _ => xs.length - (intOf i).toNat)
  case atStart => exact ⟨0, _, Nat.zero_le _, rfl, rfl, Ow.lit0 _ _ _ BS.size, below_al BS _⟩
  case round =>
    obtain ⟨n, v1, hn, rfl, rfl, HW, hb⟩ := hrel
    by_cases hlt : n < xs.length
    · obtain ⟨b, off, rfl, hbl, hc⟩ := HR.out (by omega)
      have c0 := (hb.cell hbl).trans (hc n hlt 0 _ rfl)
      have c1 := (hb.cell hbl).trans (hc n hlt 1 _ rfl)
      have c2 := (hb.cell hbl).trans (hc n hlt 2 _ rfl)
      have c3 := (hb.cell hbl).trans (hc n hlt 3 _ rfl)
      have c4 := (hb.cell hbl).trans (hc n hlt 4 _ rfl)
      simp only [Nat.add_zero, Enc.k] at c0 c1 c2 c3 c4
      clear hc
      have i1 : (n : Int) < (xs.length : Int) := by omega
      have hbw := hb.size
      have HI := idxTo_len (agP a) xs n
      have HX := idxTo_succ (agP a) xs n hlt
      have HB := Lib.hid hb
      cases hq : (agP a) xs[n] with
      | true =>
        rw [hq] at HX
        have HQ := Lib.hid HX; clear HX
        have hq1 : (xs[n].event == a) = true := hq
        clear hq
        go_wp2_with (at_builtin; refine wpList_app (w0 := w) (lo := w.heap.size) rfl _ _ _ _ _ 8 rfl Try.underlying38 info_int64 rfl (by decide) (by decide) v1 (idxTo (agP a) xs n) (n : Int) rfl rfl HW.out HB.out (Nat.le_refl _) HB.out.size (by omega) ?_; intro v2 w2 ho2 hb2 hg2 hat2)
        go_roundw
        case rel => exact ⟨n + 1, v2, by omega, by go_num, rfl, by unfold Hid; rw [HQ.out]; exact ho2, hb2⟩
        case measure => simp [intOf]; omega
      | false =>
        rw [hq] at HX
        have HQ := Lib.hid HX; clear HX
        have hq1 : (xs[n].event == a) = false := hq
        clear hq
        go_wp2
        go_roundw
        case rel => exact ⟨n + 1, v1, by omega, by go_num, rfl, by unfold Hid; rw [HQ.out]; simpa using HW.out, hb⟩
        case measure => simp [intOf]; omega
    · obtain rfl : n = xs.length := by omega
      go_wp2
      go_ret2
      exact ⟨v1, rfl, HW.out, hb⟩
set_option maxHeartbeats 400000 in
theorem c_impl_AgainstEvent_1 (x : Objection) (a : Int) (B : Nat) (W : World) (hB : W.cell? ⟨B, 0, none⟩ = some (.int .i64 a)) :
    Calls Try.prog 60 #[.agg #[.string x.party, .int .i64 x.day, .int .i64 x.event, .int .i64 x.ground, .int .i64 x.value], .pointer (some ⟨B, 0, none⟩)] W fun e w' => e = .returned (.bool (agP a x)) ∧ Below W.heap.size W w' := by
  have hBW : B < W.heap.size := World.block_lt_of_cell? W _ hB
  go_enter Try.func60, Try.ntmps60
  go_wp2
  go_ret
  exact ⟨rfl, below_al (below_rf _) _⟩
set_option maxHeartbeats 2000000 in
theorem c_impl_AgainstEvent (v : Value) (xs : List Objection) (a : Int) (w : World) (hv : Rd w v xs) (hx : ∀ x ∈ xs, Ms.ok x) (hm : xs.length ≤ 1048576) :
    Calls Try.prog 23 #[v, .int .i64 a] w (OwPost2 2 (agL xs a) (agC xs) w) := by
  have HV := Lib.hid hv
  obtain ⟨A, cap, rfl, hlc, hcap, hrd⟩ := hv
  clear hrd
  by_cases h8 : 8 < xs.length
  · have e1 : agL xs a = [] := if_pos h8
    have e2 : agC xs = 3 := if_pos h8
    rw [e1, e2]; clear e1 e2
    go_enter Try.func23, Try.ntmps23
    go_wp2
    go_ret2
    exact ⟨_, rfl, Ow.nil _ _ _, below_al (below_rf _) _⟩
  have e1 : agL xs a = idxTo (agP a) xs xs.length := if_neg h8
  have e2 : agC xs = 0 := if_neg h8
  rw [e1, e2]; clear e1 e2
  go_enter Try.func23, Try.ntmps23
  go_wp2_with (go_at_call 59; refine (c_impl_indices_impl_Objection _ xs 60 #[.pointer (some ⟨w.heap.size, 0, none⟩)] (agP a) _ (HV.out.below (below_al (below_rf _) _)) ⟨enters_of Try.func60 (by kernel_rfl) rfl, fun W x hW _ => c_impl_AgainstEvent_1 x a w.heap.size W ((hW.cell (p := ⟨w.heap.size, 0, none⟩) (by simp)).trans (by simp [go_sem]))⟩ hm).mono ?_; rintro e w1 ⟨v1, rfl, ho1, hb1⟩)
  go_ret2
  exact ⟨v1, rfl, ho1.lo (by simp), below_tr (below_al (below_rf _) _) hb1⟩
end Go.Proofs.Ytiplbpapgaoaoaa
