/- The program's functions over all types of elements: all, rising, indices; the library's functions that they call. Conditions: none. -/
import Derived.Test.YtiplbpapgaoaoaaTypes
import Derived.Shelf.Abstract
namespace Go.Proofs.Ytiplbpapgaoaoaa
open Go.RowKit Enc Go.Shelf
set_option linter.unusedVariables false
set_option linter.unusedSimpArgs false
set_option maxHeartbeats 1000000 in
theorem c_slices_IndexFunc_impl_Line_impl_Line (v : Value) (xs : List Line) (g : Nat) (lb : Array Value) (p : Line → Bool) (w : World) (hv : Rd w v xs) (hf : FnB Try.prog g lb (fun x : Line => .agg #[.string x.party, .int .i64 x.amount]) p xs w) :
    Calls Try.prog 121 #[v, .func (.func g) #[] lb] w fun e w' => e = .returned (.int .i64 (idxI p xs 0)) ∧ Below w.heap.size w w' := by
  obtain ⟨A, cap, rfl, hlc, hcap, hrd⟩ := hv
  obtain ⟨eg, hp⟩ := hf
  have HP := Lib.hid hp; clear hp
  have HR := Lib.hid hrd; clear hrd
  go_enter Try.func121, Try.ntmps121
  go_wp2
  go_loopw [5, 8] (fun _ i wr => ∃ (n : Nat), n ≤ xs.length ∧ i = .int .i64 n ∧ Hid (idxI p xs 0 = idxI p (xs.drop n) n) ∧ Below w.heap.size w wr) (fun _ i _ => xs.length - (intOf i).toNat)
  case atStart => exact ⟨0, Nat.zero_le _, rfl, rfl, below_rf _⟩
  case round =>
    obtain ⟨n, hn, rfl, HS, hb⟩ := hrel
    by_cases hlt : n < xs.length
    · obtain ⟨b, off, rfl, hbl, hc⟩ := HR.out (by omega)
      have c0 := (hb.cell hbl).trans (hc n hlt 0 _ rfl)
      have c1 := (hb.cell hbl).trans (hc n hlt 1 _ rfl)
      simp only [Nat.add_zero, Enc.k] at c0 c1
      clear hc
      have hcall := HP.out wr xs[n] hb (List.getElem_mem hlt)
      have i1 : (n : Int) < (xs.length : Int) := by omega
      cases hq : p xs[n] with
      | true =>
        rw [hq] at hcall
        have HC := Lib.hid hcall; clear hcall
        have HQ := Lib.hid hq; clear hq
        go_wp2_with (go_at_fn g; refine HC.out.mono ?_; rintro e w1 ⟨rfl, hb1⟩)
        go_ret
        exact ⟨ret_int (by rw [HS.out, idxI_drop p xs n hlt, HQ.out]; rfl), below_tr hb hb1⟩
      | false =>
        rw [hq] at hcall
        have HC := Lib.hid hcall; clear hcall
        have HQ := Lib.hid hq; clear hq
        go_wp2_with (go_at_fn g; refine HC.out.mono ?_; rintro e w1 ⟨rfl, hb1⟩)
        go_roundw
        case rel => exact ⟨n + 1, by omega, by go_num, by unfold Hid; rw [HS.out, idxI_drop p xs n hlt, HQ.out]; rfl, below_tr hb hb1⟩
        case measure => simp [intOf]; omega
    · go_wp2
      go_ret
      obtain rfl : n = xs.length := by omega
      exact ⟨ret_int (by rw [HS.out, List.drop_length]; rfl), hb⟩
set_option maxHeartbeats 1000000 in
theorem c_slices_ContainsFunc_impl_Line_impl_Line (v : Value) (xs : List Line) (g : Nat) (lb : Array Value) (p : Line → Bool) (w : World) (hv : Rd w v xs) (hf : FnB Try.prog g lb (fun x : Line => .agg #[.string x.party, .int .i64 x.amount]) p xs w) :
    Calls Try.prog 106 #[v, .func (.func g) #[] lb] w fun e w' => e = .returned (.bool (xs.any p)) ∧ Below w.heap.size w w' := by
  rw [← idxI_any p xs 0]
  have HV := Lib.hid hv; clear hv
  go_enter Try.func106, Try.ntmps106
  go_wp2_with (go_at_call 121; refine (c_slices_IndexFunc_impl_Line_impl_Line v xs g lb p _ HV.out hf).mono ?_; rintro e w1 ⟨rfl, hb1⟩)
  go_ret
  exact ⟨rfl, hb1⟩
set_option maxHeartbeats 1000000 in
theorem c_impl_all_impl_Line_1 (x : Line) (B : Nat) (g : Nat) (lb : Array Value) (p : Line → Bool) (xs : List Line) (w W : World) (hB : W.cell? ⟨B, 0, none⟩ = some (.func (.func g) #[] lb)) (hb : Below w.heap.size w W) (hx : x ∈ xs) (hf : FnB Try.prog g lb (fun x : Line => .agg #[.string x.party, .int .i64 x.amount]) p xs w) :
    Calls Try.prog 107 #[.agg #[.string x.party, .int .i64 x.amount], .pointer (some ⟨B, 0, none⟩)] W fun e w' => e = .returned (.bool (!p x)) ∧ Below W.heap.size W w' := by
  obtain ⟨eg, hp⟩ := hf
  have hBW : B < W.heap.size := World.block_lt_of_cell? W _ hB
  have HP := Lib.hid hp; clear hp
  go_enter Try.func107, Try.ntmps107
  go_wp2_with (go_at_fn g; refine (HP.out _ x (by repeat (first | exact hb | apply below_al)) hx).mono ?_; rintro e w1 ⟨rfl, hb1⟩)
  go_ret
  exact ⟨rfl, below_tr (by repeat (first | exact below_rf _ | apply below_al)) hb1⟩
set_option maxHeartbeats 1000000 in
theorem c_impl_all_impl_Line (v : Value) (xs : List Line) (g : Nat) (lb : Array Value) (p : Line → Bool) (w : World) (hv : Rd w v xs) (hf : FnB Try.prog g lb (fun x : Line => .agg #[.string x.party, .int .i64 x.amount]) p xs w) :
    Calls Try.prog 87 #[v, .func (.func g) #[] lb] w fun e w' => e = .returned (.bool (xs.all p)) ∧ Below w.heap.size w w' := by
  rw [show xs.all p = !(xs.any fun x => !p x) from by simp [List.all_eq_not_any_not]]
  have HV := Lib.hid hv; clear hv
  have HF := Lib.hid hf; clear hf
  go_enter Try.func87, Try.ntmps87
  go_wp2_with (go_at_call 106; refine (c_slices_ContainsFunc_impl_Line_impl_Line v xs 107 #[.pointer (some ⟨w.heap.size, 0, none⟩)] (fun x => !p x) _ (HV.out.below (below_al (below_rf _) _)) ⟨enters_of Try.func107 (by kernel_rfl) rfl, fun W x hW hx => c_impl_all_impl_Line_1 x w.heap.size g lb p xs w W ((hW.cell (p := ⟨w.heap.size, 0, none⟩) (by simp)).trans (by simp [go_sem])) (below_tr (below_al (below_rf _) _) hW) hx HF.out⟩).mono ?_; rintro e w1 ⟨rfl, hb1⟩)
  go_ret
  exact ⟨rfl, below_tr (below_al (below_rf _) _) hb1⟩
set_option maxHeartbeats 1000000 in
theorem c_slices_IndexFunc_impl_Transfer_impl_Transfer (v : Value) (xs : List Transfer) (g : Nat) (lb : Array Value) (p : Transfer → Bool) (w : World) (hv : Rd w v xs) (hf : FnB Try.prog g lb (fun x : Transfer => .agg #[.string x.frm, .string x.dst, .int .i64 x.amount]) p xs w) :
    Calls Try.prog 125 #[v, .func (.func g) #[] lb] w fun e w' => e = .returned (.int .i64 (idxI p xs 0)) ∧ Below w.heap.size w w' := by
  obtain ⟨A, cap, rfl, hlc, hcap, hrd⟩ := hv
  obtain ⟨eg, hp⟩ := hf
  have HP := Lib.hid hp; clear hp
  have HR := Lib.hid hrd; clear hrd
  go_enter Try.func125, Try.ntmps125
  go_wp2
  go_loopw [5, 8] (fun _ i wr => ∃ (n : Nat), n ≤ xs.length ∧ i = .int .i64 n ∧ Hid (idxI p xs 0 = idxI p (xs.drop n) n) ∧ Below w.heap.size w wr) (fun _ i _ => xs.length - (intOf i).toNat)
  case atStart => exact ⟨0, Nat.zero_le _, rfl, rfl, below_rf _⟩
  case round =>
    obtain ⟨n, hn, rfl, HS, hb⟩ := hrel
    by_cases hlt : n < xs.length
    · obtain ⟨b, off, rfl, hbl, hc⟩ := HR.out (by omega)
      have c0 := (hb.cell hbl).trans (hc n hlt 0 _ rfl)
      have c1 := (hb.cell hbl).trans (hc n hlt 1 _ rfl)
      have c2 := (hb.cell hbl).trans (hc n hlt 2 _ rfl)
      simp only [Nat.add_zero, Enc.k] at c0 c1 c2
      clear hc
      have hcall := HP.out wr xs[n] hb (List.getElem_mem hlt)
      have i1 : (n : Int) < (xs.length : Int) := by omega
      cases hq : p xs[n] with
      | true =>
        rw [hq] at hcall
        have HC := Lib.hid hcall; clear hcall
        have HQ := Lib.hid hq; clear hq
        go_wp2_with (go_at_fn g; refine HC.out.mono ?_; rintro e w1 ⟨rfl, hb1⟩)
        go_ret
        exact ⟨ret_int (by rw [HS.out, idxI_drop p xs n hlt, HQ.out]; rfl), below_tr hb hb1⟩
      | false =>
        rw [hq] at hcall
        have HC := Lib.hid hcall; clear hcall
        have HQ := Lib.hid hq; clear hq
        go_wp2_with (go_at_fn g; refine HC.out.mono ?_; rintro e w1 ⟨rfl, hb1⟩)
        go_roundw
        case rel => exact ⟨n + 1, by omega, by go_num, by unfold Hid; rw [HS.out, idxI_drop p xs n hlt, HQ.out]; rfl, below_tr hb hb1⟩
        case measure => simp [intOf]; omega
    · go_wp2
      go_ret
      obtain rfl : n = xs.length := by omega
      exact ⟨ret_int (by rw [HS.out, List.drop_length]; rfl), hb⟩
set_option maxHeartbeats 1000000 in
theorem c_slices_ContainsFunc_impl_Transfer_impl_Transfer (v : Value) (xs : List Transfer) (g : Nat) (lb : Array Value) (p : Transfer → Bool) (w : World) (hv : Rd w v xs) (hf : FnB Try.prog g lb (fun x : Transfer => .agg #[.string x.frm, .string x.dst, .int .i64 x.amount]) p xs w) :
    Calls Try.prog 111 #[v, .func (.func g) #[] lb] w fun e w' => e = .returned (.bool (xs.any p)) ∧ Below w.heap.size w w' := by
  rw [← idxI_any p xs 0]
  have HV := Lib.hid hv; clear hv
  go_enter Try.func111, Try.ntmps111
  go_wp2_with (go_at_call 125; refine (c_slices_IndexFunc_impl_Transfer_impl_Transfer v xs g lb p _ HV.out hf).mono ?_; rintro e w1 ⟨rfl, hb1⟩)
  go_ret
  exact ⟨rfl, hb1⟩
set_option maxHeartbeats 1000000 in
theorem c_impl_all_impl_Transfer_1 (x : Transfer) (B : Nat) (g : Nat) (lb : Array Value) (p : Transfer → Bool) (xs : List Transfer) (w W : World) (hB : W.cell? ⟨B, 0, none⟩ = some (.func (.func g) #[] lb)) (hb : Below w.heap.size w W) (hx : x ∈ xs) (hf : FnB Try.prog g lb (fun x : Transfer => .agg #[.string x.frm, .string x.dst, .int .i64 x.amount]) p xs w) :
    Calls Try.prog 112 #[.agg #[.string x.frm, .string x.dst, .int .i64 x.amount], .pointer (some ⟨B, 0, none⟩)] W fun e w' => e = .returned (.bool (!p x)) ∧ Below W.heap.size W w' := by
  obtain ⟨eg, hp⟩ := hf
  have hBW : B < W.heap.size := World.block_lt_of_cell? W _ hB
  have HP := Lib.hid hp; clear hp
  go_enter Try.func112, Try.ntmps112
  go_wp2_with (go_at_fn g; refine (HP.out _ x (by repeat (first | exact hb | apply below_al)) hx).mono ?_; rintro e w1 ⟨rfl, hb1⟩)
  go_ret
  exact ⟨rfl, below_tr (by repeat (first | exact below_rf _ | apply below_al)) hb1⟩
set_option maxHeartbeats 1000000 in
theorem c_impl_all_impl_Transfer (v : Value) (xs : List Transfer) (g : Nat) (lb : Array Value) (p : Transfer → Bool) (w : World) (hv : Rd w v xs) (hf : FnB Try.prog g lb (fun x : Transfer => .agg #[.string x.frm, .string x.dst, .int .i64 x.amount]) p xs w) :
    Calls Try.prog 96 #[v, .func (.func g) #[] lb] w fun e w' => e = .returned (.bool (xs.all p)) ∧ Below w.heap.size w w' := by
  rw [show xs.all p = !(xs.any fun x => !p x) from by simp [List.all_eq_not_any_not]]
  have HV := Lib.hid hv; clear hv
  have HF := Lib.hid hf; clear hf
  go_enter Try.func96, Try.ntmps96
  go_wp2_with (go_at_call 111; refine (c_slices_ContainsFunc_impl_Transfer_impl_Transfer v xs 112 #[.pointer (some ⟨w.heap.size, 0, none⟩)] (fun x => !p x) _ (HV.out.below (below_al (below_rf _) _)) ⟨enters_of Try.func112 (by kernel_rfl) rfl, fun W x hW hx => c_impl_all_impl_Transfer_1 x w.heap.size g lb p xs w W ((hW.cell (p := ⟨w.heap.size, 0, none⟩) (by simp)).trans (by simp [go_sem])) (below_tr (below_al (below_rf _) _) hW) hx HF.out⟩).mono ?_; rintro e w1 ⟨rfl, hb1⟩)
  go_ret
  exact ⟨rfl, below_tr (below_al (below_rf _) _) hb1⟩
set_option maxHeartbeats 1000000 in
theorem c_slices_IndexFunc_impl_Demand_impl_Demand (v : Value) (xs : List Demand) (g : Nat) (lb : Array Value) (p : Demand → Bool) (w : World) (hv : Rd w v xs) (hf : FnB Try.prog g lb (fun x : Demand => .agg #[.string x.party, .int .i64 x.rank, .int .i64 x.asked]) p xs w) :
    Calls Try.prog 129 #[v, .func (.func g) #[] lb] w fun e w' => e = .returned (.int .i64 (idxI p xs 0)) ∧ Below w.heap.size w w' := by
  obtain ⟨A, cap, rfl, hlc, hcap, hrd⟩ := hv
  obtain ⟨eg, hp⟩ := hf
  have HP := Lib.hid hp; clear hp
  have HR := Lib.hid hrd; clear hrd
  go_enter Try.func129, Try.ntmps129
  go_wp2
  go_loopw [5, 8] (fun _ i wr => ∃ (n : Nat), n ≤ xs.length ∧ i = .int .i64 n ∧ Hid (idxI p xs 0 = idxI p (xs.drop n) n) ∧ Below w.heap.size w wr) (fun _ i _ => xs.length - (intOf i).toNat)
  case atStart => exact ⟨0, Nat.zero_le _, rfl, rfl, below_rf _⟩
  case round =>
    obtain ⟨n, hn, rfl, HS, hb⟩ := hrel
    by_cases hlt : n < xs.length
    · obtain ⟨b, off, rfl, hbl, hc⟩ := HR.out (by omega)
      have c0 := (hb.cell hbl).trans (hc n hlt 0 _ rfl)
      have c1 := (hb.cell hbl).trans (hc n hlt 1 _ rfl)
      have c2 := (hb.cell hbl).trans (hc n hlt 2 _ rfl)
      simp only [Nat.add_zero, Enc.k] at c0 c1 c2
      clear hc
      have hcall := HP.out wr xs[n] hb (List.getElem_mem hlt)
      have i1 : (n : Int) < (xs.length : Int) := by omega
      cases hq : p xs[n] with
      | true =>
        rw [hq] at hcall
        have HC := Lib.hid hcall; clear hcall
        have HQ := Lib.hid hq; clear hq
        go_wp2_with (go_at_fn g; refine HC.out.mono ?_; rintro e w1 ⟨rfl, hb1⟩)
        go_ret
        exact ⟨ret_int (by rw [HS.out, idxI_drop p xs n hlt, HQ.out]; rfl), below_tr hb hb1⟩
      | false =>
        rw [hq] at hcall
        have HC := Lib.hid hcall; clear hcall
        have HQ := Lib.hid hq; clear hq
        go_wp2_with (go_at_fn g; refine HC.out.mono ?_; rintro e w1 ⟨rfl, hb1⟩)
        go_roundw
        case rel => exact ⟨n + 1, by omega, by go_num, by unfold Hid; rw [HS.out, idxI_drop p xs n hlt, HQ.out]; rfl, below_tr hb hb1⟩
        case measure => simp [intOf]; omega
    · go_wp2
      go_ret
      obtain rfl : n = xs.length := by omega
      exact ⟨ret_int (by rw [HS.out, List.drop_length]; rfl), hb⟩
set_option maxHeartbeats 1000000 in
theorem c_slices_ContainsFunc_impl_Demand_impl_Demand (v : Value) (xs : List Demand) (g : Nat) (lb : Array Value) (p : Demand → Bool) (w : World) (hv : Rd w v xs) (hf : FnB Try.prog g lb (fun x : Demand => .agg #[.string x.party, .int .i64 x.rank, .int .i64 x.asked]) p xs w) :
    Calls Try.prog 126 #[v, .func (.func g) #[] lb] w fun e w' => e = .returned (.bool (xs.any p)) ∧ Below w.heap.size w w' := by
  rw [← idxI_any p xs 0]
  have HV := Lib.hid hv; clear hv
  go_enter Try.func126, Try.ntmps126
  go_wp2_with (go_at_call 129; refine (c_slices_IndexFunc_impl_Demand_impl_Demand v xs g lb p _ HV.out hf).mono ?_; rintro e w1 ⟨rfl, hb1⟩)
  go_ret
  exact ⟨rfl, hb1⟩
set_option maxHeartbeats 1000000 in
theorem c_impl_all_impl_Demand_1 (x : Demand) (B : Nat) (g : Nat) (lb : Array Value) (p : Demand → Bool) (xs : List Demand) (w W : World) (hB : W.cell? ⟨B, 0, none⟩ = some (.func (.func g) #[] lb)) (hb : Below w.heap.size w W) (hx : x ∈ xs) (hf : FnB Try.prog g lb (fun x : Demand => .agg #[.string x.party, .int .i64 x.rank, .int .i64 x.asked]) p xs w) :
    Calls Try.prog 127 #[.agg #[.string x.party, .int .i64 x.rank, .int .i64 x.asked], .pointer (some ⟨B, 0, none⟩)] W fun e w' => e = .returned (.bool (!p x)) ∧ Below W.heap.size W w' := by
  obtain ⟨eg, hp⟩ := hf
  have hBW : B < W.heap.size := World.block_lt_of_cell? W _ hB
  have HP := Lib.hid hp; clear hp
  go_enter Try.func127, Try.ntmps127
  go_wp2_with (go_at_fn g; refine (HP.out _ x (by repeat (first | exact hb | apply below_al)) hx).mono ?_; rintro e w1 ⟨rfl, hb1⟩)
  go_ret
  exact ⟨rfl, below_tr (by repeat (first | exact below_rf _ | apply below_al)) hb1⟩
set_option maxHeartbeats 1000000 in
theorem c_impl_all_impl_Demand (v : Value) (xs : List Demand) (g : Nat) (lb : Array Value) (p : Demand → Bool) (w : World) (hv : Rd w v xs) (hf : FnB Try.prog g lb (fun x : Demand => .agg #[.string x.party, .int .i64 x.rank, .int .i64 x.asked]) p xs w) :
    Calls Try.prog 114 #[v, .func (.func g) #[] lb] w fun e w' => e = .returned (.bool (xs.all p)) ∧ Below w.heap.size w w' := by
  rw [show xs.all p = !(xs.any fun x => !p x) from by simp [List.all_eq_not_any_not]]
  have HV := Lib.hid hv; clear hv
  have HF := Lib.hid hf; clear hf
  go_enter Try.func114, Try.ntmps114
  go_wp2_with (go_at_call 126; refine (c_slices_ContainsFunc_impl_Demand_impl_Demand v xs 127 #[.pointer (some ⟨w.heap.size, 0, none⟩)] (fun x => !p x) _ (HV.out.below (below_al (below_rf _) _)) ⟨enters_of Try.func127 (by kernel_rfl) rfl, fun W x hW hx => c_impl_all_impl_Demand_1 x w.heap.size g lb p xs w W ((hW.cell (p := ⟨w.heap.size, 0, none⟩) (by simp)).trans (by simp [go_sem])) (below_tr (below_al (below_rf _) _) hW) hx HF.out⟩).mono ?_; rintro e w1 ⟨rfl, hb1⟩)
  go_ret
  exact ⟨rfl, below_tr (below_al (below_rf _) _) hb1⟩

end Go.Proofs.Ytiplbpapgaoaoaa
