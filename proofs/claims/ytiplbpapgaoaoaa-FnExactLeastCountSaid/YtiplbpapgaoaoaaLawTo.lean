/- The laws' converting and comparing functions. Conditions: none. -/
import Derived.Test.YtiplbpapgaoaoaaTypes
namespace Go.Proofs.Ytiplbpapgaoaoaa
open Go.RowKit Enc
set_option linter.unusedVariables false
set_option linter.unusedSimpArgs false
set_option maxHeartbeats 400000 in
theorem c_laws_toLine (x : Line) (w : World) :
    Calls Try.prog 48 #[.agg #[.string x.party, .int .i64 x.amount]] w fun e w' => e = .returned (.agg #[.string x.party, .int .i64 x.amount]) ∧ Below w.heap.size w w' := by
  go_enter Try.func48, Try.ntmps48
  go_wp2
  refine bodyPost_ret (v := .agg #[.string x.party, .int .i64 x.amount]) (by simp [results, Try.results48, go_sem]) rfl ⟨rfl, ?_⟩
  exact below_al (below_al (below_al (below_rf _) _) _) _
set_option maxHeartbeats 1000000 in
theorem c_laws_toLineS (v : Value) (xs : List Line) (w : World) (hv : Rd w v xs) (hl : xs.length ≤ 1048576) :
    Calls Try.prog 12 #[v] w (OwPost 72 xs w) := by
  obtain ⟨A, cap, rfl, hlc, hcap, hrd⟩ := hv
  obtain ⟨i0, hi, hz0, hz1, hz2⟩ := info_parts info_Line
  go_enter Try.func12, Try.ntmps12
  go_wp2_with (at_make; refine wpList_make_full _ rfl _ _ _ rfl w.heap.size 72 i0 _ 2 Try.underlying25 hi hz0 hz1 _ _ _ _ xs.length rfl rfl rfl rfl (by rw [hz2]; omega) (by unfold maxLen; omega) (Nat.le_refl _) ?_)
  intro w1 hown hgr
  have HO := Ow.made (α := Line) (⟨⟨#[]⟩, 0⟩ : Line) _ rfl (by decide) hown
  have hgs : w.heap.size < w1.heap.size := (HO.lt _ rfl).2
  clear hown
  have hb1 : Below w.heap.size w w1 := (below_rf w).grown hgr (Nat.le_refl _) (by intro _ h; cases h)
  clear hgr
  have HR := Lib.hid hrd; clear hrd
  go_wp2
  go_loopw [4] (fun i wr => ∃ (n : Nat), n ≤ xs.length ∧ i = .int .i64 n ∧ Hid (Ow 72 w.heap.size wr (.slice (some ⟨w.heap.size, 0, none⟩) xs.length xs.length) (xs.take n ++ List.replicate (xs.length - n) (⟨⟨#[]⟩, 0⟩ : Line))) ∧ Below w.heap.size w wr) (fun i _ => xs.length - (intOf i).toNat)
  case atStart => exact ⟨0, Nat.zero_le _, rfl, HO, hb1⟩
  case round =>
    obtain ⟨n, hn, rfl, HW, hb⟩ := hrel
    by_cases hlt : n < xs.length
    · obtain ⟨b, off, rfl, hbl, hc⟩ := HR.out (by omega)
      have c0 := (hb.cell hbl).trans (hc n hlt 0 _ rfl)
      have c1 := (hb.cell hbl).trans (hc n hlt 1 _ rfl)
      simp only [Nat.add_zero, Enc.k] at c0 c1
      clear hc
      have hlen : (xs.take n ++ List.replicate (xs.length - n) (⟨⟨#[]⟩, 0⟩ : Line)).length = xs.length := by simp; omega
      have HL := Lib.hid hlen; clear hlen
      have hgs2 : w.heap.size < wr.heap.size := (HW.out.lt _ rfl).2
      go_wp2_with (go_at_call 48; refine (c_laws_toLine xs[n] _).mono ?_; rintro e w2 ⟨rfl, hb2⟩; have H2 := Lib.hid (show Ow 72 w.heap.size w2 (.slice (some ⟨w.heap.size, 0, none⟩) (xs.take n ++ List.replicate (xs.length - n) (⟨⟨#[]⟩, 0⟩ : Line)).length xs.length) _ by rw [HL.out]; exact HW.out.below hb2); obtain ⟨s0, hs0⟩ := H2.out.cellE n (by rw [HL.out]; exact hlt) 0 (by decide); have f0 := H2.out.frozen (n * 2); obtain ⟨s1, hs1⟩ := H2.out.cellE n (by rw [HL.out]; exact hlt) 1 (by decide); have f1 := H2.out.frozen (n * 2 + 1); simp only [Nat.add_zero, Enc.k] at hs0 hs1)
      go_roundw
      case rel =>
        have H3 := H2.out.set n (by rw [HL.out]; exact hlt) xs[n]
        have e3 := set_fill (⟨⟨#[]⟩, 0⟩ : Line) xs hlt
        have hb3 := (below_tr hb hb2).grown H3.2 (Nat.le_trans hb.size hb2.size) (by intro _ h; cases h; exact Nat.le_refl _)
        refine ⟨n + 1, by omega, by go_num, ?_, hb3⟩
        have H4 := H3.1; rw [e3, HL.out] at H4
        exact H4
      case measure => simp [intOf]; omega
    · go_wp2
      go_ret
      obtain rfl : n = xs.length := by omega
      have H4 := HW.out
      rw [List.take_length, Nat.sub_self, List.replicate_zero, List.append_nil] at H4
      exact ⟨_, rfl, H4, hb⟩
set_option maxHeartbeats 400000 in
theorem c_laws_toEntry (x : Entry) (w : World) :
    Calls Try.prog 54 #[.agg #[.int .i64 x.day, .string x.frm, .string x.dst, .int .i64 x.amount]] w fun e w' => e = .returned (.agg #[.int .i64 x.day, .string x.frm, .string x.dst, .int .i64 x.amount]) ∧ Below w.heap.size w w' := by
  go_enter Try.func54, Try.ntmps54
  go_wp2
  refine bodyPost_ret (v := .agg #[.int .i64 x.day, .string x.frm, .string x.dst, .int .i64 x.amount]) (by simp [results, Try.results54, go_sem]) rfl ⟨rfl, ?_⟩
  exact below_al (below_al (below_al (below_rf _) _) _) _
set_option maxHeartbeats 1000000 in
theorem c_laws_toEntryS (v : Value) (xs : List Entry) (w : World) (hv : Rd w v xs) (hl : xs.length ≤ 1048576) :
    Calls Try.prog 17 #[v] w (OwPost 81 xs w) := by
  obtain ⟨A, cap, rfl, hlc, hcap, hrd⟩ := hv
  obtain ⟨i0, hi, hz0, hz1, hz2⟩ := info_parts info_Entry
  go_enter Try.func17, Try.ntmps17
  go_wp2_with (at_make; refine wpList_make_full _ rfl _ _ _ rfl w.heap.size 81 i0 _ 4 Try.underlying32 hi hz0 hz1 _ _ _ _ xs.length rfl rfl rfl rfl (by rw [hz2]; omega) (by unfold maxLen; omega) (Nat.le_refl _) ?_)
  intro w1 hown hgr
  have HO := Ow.made (α := Entry) (⟨0, ⟨#[]⟩, ⟨#[]⟩, 0⟩ : Entry) _ rfl (by decide) hown
  have hgs : w.heap.size < w1.heap.size := (HO.lt _ rfl).2
  clear hown
  have hb1 : Below w.heap.size w w1 := (below_rf w).grown hgr (Nat.le_refl _) (by intro _ h; cases h)
  clear hgr
  have HR := Lib.hid hrd; clear hrd
  go_wp2
  go_loopw [4] (fun i wr => ∃ (n : Nat), n ≤ xs.length ∧ i = .int .i64 n ∧ Hid (Ow 81 w.heap.size wr (.slice (some ⟨w.heap.size, 0, none⟩) xs.length xs.length) (xs.take n ++ List.replicate (xs.length - n) (⟨0, ⟨#[]⟩, ⟨#[]⟩, 0⟩ : Entry))) ∧ Below w.heap.size w wr) (fun i _ => xs.length - (intOf i).toNat)
  case atStart => exact ⟨0, Nat.zero_le _, rfl, HO, hb1⟩
  case round =>
    obtain ⟨n, hn, rfl, HW, hb⟩ := hrel
    by_cases hlt : n < xs.length
    · obtain ⟨b, off, rfl, hbl, hc⟩ := HR.out (by omega)
      have c0 := (hb.cell hbl).trans (hc n hlt 0 _ rfl)
      have c1 := (hb.cell hbl).trans (hc n hlt 1 _ rfl)
      have c2 := (hb.cell hbl).trans (hc n hlt 2 _ rfl)
      have c3 := (hb.cell hbl).trans (hc n hlt 3 _ rfl)
      simp only [Nat.add_zero, Enc.k] at c0 c1 c2 c3
      clear hc
      have hlen : (xs.take n ++ List.replicate (xs.length - n) (⟨0, ⟨#[]⟩, ⟨#[]⟩, 0⟩ : Entry)).length = xs.length := by simp; omega
      have HL := Lib.hid hlen; clear hlen
      have hgs2 : w.heap.size < wr.heap.size := (HW.out.lt _ rfl).2
      go_wp2_with (go_at_call 54; refine (c_laws_toEntry xs[n] _).mono ?_; rintro e w2 ⟨rfl, hb2⟩; have H2 := Lib.hid (show Ow 81 w.heap.size w2 (.slice (some ⟨w.heap.size, 0, none⟩) (xs.take n ++ List.replicate (xs.length - n) (⟨0, ⟨#[]⟩, ⟨#[]⟩, 0⟩ : Entry)).length xs.length) _ by rw [HL.out]; exact HW.out.below hb2); obtain ⟨s0, hs0⟩ := H2.out.cellE n (by rw [HL.out]; exact hlt) 0 (by decide); have f0 := H2.out.frozen (n * 4); obtain ⟨s1, hs1⟩ := H2.out.cellE n (by rw [HL.out]; exact hlt) 1 (by decide); have f1 := H2.out.frozen (n * 4 + 1); obtain ⟨s2, hs2⟩ := H2.out.cellE n (by rw [HL.out]; exact hlt) 2 (by decide); have f2 := H2.out.frozen (n * 4 + 2); obtain ⟨s3, hs3⟩ := H2.out.cellE n (by rw [HL.out]; exact hlt) 3 (by decide); have f3 := H2.out.frozen (n * 4 + 3); simp only [Nat.add_zero, Enc.k] at hs0 hs1 hs2 hs3)
      go_roundw
      case rel =>
        have H3 := H2.out.set n (by rw [HL.out]; exact hlt) xs[n]
        have e3 := set_fill (⟨0, ⟨#[]⟩, ⟨#[]⟩, 0⟩ : Entry) xs hlt
        have hb3 := (below_tr hb hb2).grown H3.2 (Nat.le_trans hb.size hb2.size) (by intro _ h; cases h; exact Nat.le_refl _)
        refine ⟨n + 1, by omega, by go_num, ?_, hb3⟩
        have H4 := H3.1; rw [e3, HL.out] at H4
        exact H4
      case measure => simp [intOf]; omega
    · go_wp2
      go_ret
      obtain rfl : n = xs.length := by omega
      have H4 := HW.out
      rw [List.take_length, Nat.sub_self, List.replicate_zero, List.append_nil] at H4
      exact ⟨_, rfl, H4, hb⟩
set_option maxHeartbeats 400000 in
theorem c_laws_toObjection (x : Objection) (w : World) :
    Calls Try.prog 58 #[.agg #[.string x.party, .int .i64 x.day, .int .i64 x.event, .int .i64 x.ground, .int .i64 x.value]] w fun e w' => e = .returned (.agg #[.string x.party, .int .i64 x.day, .int .i64 x.event, .int .i64 x.ground, .int .i64 x.value]) ∧ Below w.heap.size w w' := by
  go_enter Try.func58, Try.ntmps58
  go_wp2
  refine bodyPost_ret (v := .agg #[.string x.party, .int .i64 x.day, .int .i64 x.event, .int .i64 x.ground, .int .i64 x.value]) (by simp [results, Try.results58, go_sem]) rfl ⟨rfl, ?_⟩
  exact below_al (below_al (below_al (below_rf _) _) _) _
set_option maxHeartbeats 1000000 in
theorem c_laws_toObjectionS (v : Value) (xs : List Objection) (w : World) (hv : Rd w v xs) (hl : xs.length ≤ 1048576) :
    Calls Try.prog 22 #[v] w (OwPost 87 xs w) := by
  obtain ⟨A, cap, rfl, hlc, hcap, hrd⟩ := hv
  obtain ⟨i0, hi, hz0, hz1, hz2⟩ := info_parts info_Objection
  go_enter Try.func22, Try.ntmps22
  go_wp2_with (at_make; refine wpList_make_full _ rfl _ _ _ rfl w.heap.size 87 i0 _ 5 Try.underlying41 hi hz0 hz1 _ _ _ _ xs.length rfl rfl rfl rfl (by rw [hz2]; omega) (by unfold maxLen; omega) (Nat.le_refl _) ?_)
  intro w1 hown hgr
  have HO := Ow.made (α := Objection) (⟨⟨#[]⟩, 0, 0, 0, 0⟩ : Objection) _ rfl (by decide) hown
  have hgs : w.heap.size < w1.heap.size := (HO.lt _ rfl).2
  clear hown
  have hb1 : Below w.heap.size w w1 := (below_rf w).grown hgr (Nat.le_refl _) (by intro _ h; cases h)
  clear hgr
  have HR := Lib.hid hrd; clear hrd
  go_wp2
  go_loopw [4] (fun i wr => ∃ (n : Nat), n ≤ xs.length ∧ i = .int .i64 n ∧ Hid (Ow 87 w.heap.size wr (.slice (some ⟨w.heap.size, 0, none⟩) xs.length xs.length) (xs.take n ++ List.replicate (xs.length - n) (⟨⟨#[]⟩, 0, 0, 0, 0⟩ : Objection))) ∧ Below w.heap.size w wr) (fun i _ => xs.length - (intOf i).toNat)
  case atStart => exact ⟨0, Nat.zero_le _, rfl, HO, hb1⟩
  case round =>
    obtain ⟨n, hn, rfl, HW, hb⟩ := hrel
    by_cases hlt : n < xs.length
    · obtain ⟨b, off, rfl, hbl, hc⟩ := HR.out (by omega)
      have c0 := (hb.cell hbl).trans (hc n hlt 0 _ rfl)
      have c1 := (hb.cell hbl).trans (hc n hlt 1 _ rfl)
      have c2 := (hb.cell hbl).trans (hc n hlt 2 _ rfl)
      have c3 := (hb.cell hbl).trans (hc n hlt 3 _ rfl)
      have c4 := (hb.cell hbl).trans (hc n hlt 4 _ rfl)
      simp only [Nat.add_zero, Enc.k] at c0 c1 c2 c3 c4
      clear hc
      have hlen : (xs.take n ++ List.replicate (xs.length - n) (⟨⟨#[]⟩, 0, 0, 0, 0⟩ : Objection)).length = xs.length := by simp; omega
      have HL := Lib.hid hlen; clear hlen
      have hgs2 : w.heap.size < wr.heap.size := (HW.out.lt _ rfl).2
      go_wp2_with (go_at_call 58; refine (c_laws_toObjection xs[n] _).mono ?_; rintro e w2 ⟨rfl, hb2⟩; have H2 := Lib.hid (show Ow 87 w.heap.size w2 (.slice (some ⟨w.heap.size, 0, none⟩) (xs.take n ++ List.replicate (xs.length - n) (⟨⟨#[]⟩, 0, 0, 0, 0⟩ : Objection)).length xs.length) _ by rw [HL.out]; exact HW.out.below hb2); obtain ⟨s0, hs0⟩ := H2.out.cellE n (by rw [HL.out]; exact hlt) 0 (by decide); have f0 := H2.out.frozen (n * 5); obtain ⟨s1, hs1⟩ := H2.out.cellE n (by rw [HL.out]; exact hlt) 1 (by decide); have f1 := H2.out.frozen (n * 5 + 1); obtain ⟨s2, hs2⟩ := H2.out.cellE n (by rw [HL.out]; exact hlt) 2 (by decide); have f2 := H2.out.frozen (n * 5 + 2); obtain ⟨s3, hs3⟩ := H2.out.cellE n (by rw [HL.out]; exact hlt) 3 (by decide); have f3 := H2.out.frozen (n * 5 + 3); obtain ⟨s4, hs4⟩ := H2.out.cellE n (by rw [HL.out]; exact hlt) 4 (by decide); have f4 := H2.out.frozen (n * 5 + 4); simp only [Nat.add_zero, Enc.k] at hs0 hs1 hs2 hs3 hs4)
      go_roundw
      case rel =>
        have H3 := H2.out.set n (by rw [HL.out]; exact hlt) xs[n]
        have e3 := set_fill (⟨⟨#[]⟩, 0, 0, 0, 0⟩ : Objection) xs hlt
        have hb3 := (below_tr hb hb2).grown H3.2 (Nat.le_trans hb.size hb2.size) (by intro _ h; cases h; exact Nat.le_refl _)
        refine ⟨n + 1, by omega, by go_num, ?_, hb3⟩
        have H4 := H3.1; rw [e3, HL.out] at H4
        exact H4
      case measure => simp [intOf]; omega
    · go_wp2
      go_ret
      obtain rfl : n = xs.length := by omega
      have H4 := HW.out
      rw [List.take_length, Nat.sub_self, List.replicate_zero, List.append_nil] at H4
      exact ⟨_, rfl, H4, hb⟩
set_option maxHeartbeats 400000 in
theorem c_laws_toTransfer (x : Transfer) (w : World) :
    Calls Try.prog 65 #[.agg #[.string x.frm, .string x.dst, .int .i64 x.amount]] w fun e w' => e = .returned (.agg #[.string x.frm, .string x.dst, .int .i64 x.amount]) ∧ Below w.heap.size w w' := by
  go_enter Try.func65, Try.ntmps65
  go_wp2
  refine bodyPost_ret (v := .agg #[.string x.frm, .string x.dst, .int .i64 x.amount]) (by simp [results, Try.results65, go_sem]) rfl ⟨rfl, ?_⟩
  exact below_al (below_al (below_al (below_rf _) _) _) _
set_option maxHeartbeats 1000000 in
theorem c_laws_toTransferS (v : Value) (xs : List Transfer) (w : World) (hv : Rd w v xs) (hl : xs.length ≤ 1048576) :
    Calls Try.prog 31 #[v] w (OwPost 97 xs w) := by
  obtain ⟨A, cap, rfl, hlc, hcap, hrd⟩ := hv
  obtain ⟨i0, hi, hz0, hz1, hz2⟩ := info_parts info_Transfer
  go_enter Try.func31, Try.ntmps31
  go_wp2_with (at_make; refine wpList_make_full _ rfl _ _ _ rfl w.heap.size 97 i0 _ 3 Try.underlying51 hi hz0 hz1 _ _ _ _ xs.length rfl rfl rfl rfl (by rw [hz2]; omega) (by unfold maxLen; omega) (Nat.le_refl _) ?_)
  intro w1 hown hgr
  have HO := Ow.made (α := Transfer) (⟨⟨#[]⟩, ⟨#[]⟩, 0⟩ : Transfer) _ rfl (by decide) hown
  have hgs : w.heap.size < w1.heap.size := (HO.lt _ rfl).2
  clear hown
  have hb1 : Below w.heap.size w w1 := (below_rf w).grown hgr (Nat.le_refl _) (by intro _ h; cases h)
  clear hgr
  have HR := Lib.hid hrd; clear hrd
  go_wp2
  go_loopw [4] (fun i wr => ∃ (n : Nat), n ≤ xs.length ∧ i = .int .i64 n ∧ Hid (Ow 97 w.heap.size wr (.slice (some ⟨w.heap.size, 0, none⟩) xs.length xs.length) (xs.take n ++ List.replicate (xs.length - n) (⟨⟨#[]⟩, ⟨#[]⟩, 0⟩ : Transfer))) ∧ Below w.heap.size w wr) (fun i _ => xs.length - (intOf i).toNat)
  case atStart => exact ⟨0, Nat.zero_le _, rfl, HO, hb1⟩
  case round =>
    obtain ⟨n, hn, rfl, HW, hb⟩ := hrel
    by_cases hlt : n < xs.length
    · obtain ⟨b, off, rfl, hbl, hc⟩ := HR.out (by omega)
      have c0 := (hb.cell hbl).trans (hc n hlt 0 _ rfl)
      have c1 := (hb.cell hbl).trans (hc n hlt 1 _ rfl)
      have c2 := (hb.cell hbl).trans (hc n hlt 2 _ rfl)
      simp only [Nat.add_zero, Enc.k] at c0 c1 c2
      clear hc
      have hlen : (xs.take n ++ List.replicate (xs.length - n) (⟨⟨#[]⟩, ⟨#[]⟩, 0⟩ : Transfer)).length = xs.length := by simp; omega
      have HL := Lib.hid hlen; clear hlen
      have hgs2 : w.heap.size < wr.heap.size := (HW.out.lt _ rfl).2
      go_wp2_with (go_at_call 65; refine (c_laws_toTransfer xs[n] _).mono ?_; rintro e w2 ⟨rfl, hb2⟩; have H2 := Lib.hid (show Ow 97 w.heap.size w2 (.slice (some ⟨w.heap.size, 0, none⟩) (xs.take n ++ List.replicate (xs.length - n) (⟨⟨#[]⟩, ⟨#[]⟩, 0⟩ : Transfer)).length xs.length) _ by rw [HL.out]; exact HW.out.below hb2); obtain ⟨s0, hs0⟩ := H2.out.cellE n (by rw [HL.out]; exact hlt) 0 (by decide); have f0 := H2.out.frozen (n * 3); obtain ⟨s1, hs1⟩ := H2.out.cellE n (by rw [HL.out]; exact hlt) 1 (by decide); have f1 := H2.out.frozen (n * 3 + 1); obtain ⟨s2, hs2⟩ := H2.out.cellE n (by rw [HL.out]; exact hlt) 2 (by decide); have f2 := H2.out.frozen (n * 3 + 2); simp only [Nat.add_zero, Enc.k] at hs0 hs1 hs2)
      go_roundw
      case rel =>
        have H3 := H2.out.set n (by rw [HL.out]; exact hlt) xs[n]
        have e3 := set_fill (⟨⟨#[]⟩, ⟨#[]⟩, 0⟩ : Transfer) xs hlt
        have hb3 := (below_tr hb hb2).grown H3.2 (Nat.le_trans hb.size hb2.size) (by intro _ h; cases h; exact Nat.le_refl _)
        refine ⟨n + 1, by omega, by go_num, ?_, hb3⟩
        have H4 := H3.1; rw [e3, HL.out] at H4
        exact H4
      case measure => simp [intOf]; omega
    · go_wp2
      go_ret
      obtain rfl : n = xs.length := by omega
      have H4 := HW.out
      rw [List.take_length, Nat.sub_self, List.replicate_zero, List.append_nil] at H4
      exact ⟨_, rfl, H4, hb⟩
set_option maxHeartbeats 400000 in
theorem c_laws_toDemand (x : Demand) (w : World) :
    Calls Try.prog 77 #[.agg #[.string x.party, .int .i64 x.rank, .int .i64 x.asked]] w fun e w' => e = .returned (.agg #[.string x.party, .int .i64 x.rank, .int .i64 x.asked]) ∧ Below w.heap.size w w' := by
  go_enter Try.func77, Try.ntmps77
  go_wp2
  refine bodyPost_ret (v := .agg #[.string x.party, .int .i64 x.rank, .int .i64 x.asked]) (by simp [results, Try.results77, go_sem]) rfl ⟨rfl, ?_⟩
  exact below_al (below_al (below_al (below_rf _) _) _) _
set_option maxHeartbeats 1000000 in
theorem c_laws_toDemandS (v : Value) (xs : List Demand) (w : World) (hv : Rd w v xs) (hl : xs.length ≤ 1048576) :
    Calls Try.prog 39 #[v] w (OwPost 111 xs w) := by
  obtain ⟨A, cap, rfl, hlc, hcap, hrd⟩ := hv
  obtain ⟨i0, hi, hz0, hz1, hz2⟩ := info_parts info_Demand
  go_enter Try.func39, Try.ntmps39
  go_wp2_with (at_make; refine wpList_make_full _ rfl _ _ _ rfl w.heap.size 111 i0 _ 3 Try.underlying61 hi hz0 hz1 _ _ _ _ xs.length rfl rfl rfl rfl (by rw [hz2]; omega) (by unfold maxLen; omega) (Nat.le_refl _) ?_)
  intro w1 hown hgr
  have HO := Ow.made (α := Demand) (⟨⟨#[]⟩, 0, 0⟩ : Demand) _ rfl (by decide) hown
  have hgs : w.heap.size < w1.heap.size := (HO.lt _ rfl).2
  clear hown
  have hb1 : Below w.heap.size w w1 := (below_rf w).grown hgr (Nat.le_refl _) (by intro _ h; cases h)
  clear hgr
  have HR := Lib.hid hrd; clear hrd
  go_wp2
  go_loopw [4] (fun i wr => ∃ (n : Nat), n ≤ xs.length ∧ i = .int .i64 n ∧ Hid (Ow 111 w.heap.size wr (.slice (some ⟨w.heap.size, 0, none⟩) xs.length xs.length) (xs.take n ++ List.replicate (xs.length - n) (⟨⟨#[]⟩, 0, 0⟩ : Demand))) ∧ Below w.heap.size w wr) (fun i _ => xs.length - (intOf i).toNat)
  case atStart => exact ⟨0, Nat.zero_le _, rfl, HO, hb1⟩
  case round =>
    obtain ⟨n, hn, rfl, HW, hb⟩ := hrel
    by_cases hlt : n < xs.length
    · obtain ⟨b, off, rfl, hbl, hc⟩ := HR.out (by omega)
      have c0 := (hb.cell hbl).trans (hc n hlt 0 _ rfl)
      have c1 := (hb.cell hbl).trans (hc n hlt 1 _ rfl)
      have c2 := (hb.cell hbl).trans (hc n hlt 2 _ rfl)
      simp only [Nat.add_zero, Enc.k] at c0 c1 c2
      clear hc
      have hlen : (xs.take n ++ List.replicate (xs.length - n) (⟨⟨#[]⟩, 0, 0⟩ : Demand)).length = xs.length := by simp; omega
      have HL := Lib.hid hlen; clear hlen
      have hgs2 : w.heap.size < wr.heap.size := (HW.out.lt _ rfl).2
      go_wp2_with (go_at_call 77; refine (c_laws_toDemand xs[n] _).mono ?_; rintro e w2 ⟨rfl, hb2⟩; have H2 := Lib.hid (show Ow 111 w.heap.size w2 (.slice (some ⟨w.heap.size, 0, none⟩) (xs.take n ++ List.replicate (xs.length - n) (⟨⟨#[]⟩, 0, 0⟩ : Demand)).length xs.length) _ by rw [HL.out]; exact HW.out.below hb2); obtain ⟨s0, hs0⟩ := H2.out.cellE n (by rw [HL.out]; exact hlt) 0 (by decide); have f0 := H2.out.frozen (n * 3); obtain ⟨s1, hs1⟩ := H2.out.cellE n (by rw [HL.out]; exact hlt) 1 (by decide); have f1 := H2.out.frozen (n * 3 + 1); obtain ⟨s2, hs2⟩ := H2.out.cellE n (by rw [HL.out]; exact hlt) 2 (by decide); have f2 := H2.out.frozen (n * 3 + 2); simp only [Nat.add_zero, Enc.k] at hs0 hs1 hs2)
      go_roundw
      case rel =>
        have H3 := H2.out.set n (by rw [HL.out]; exact hlt) xs[n]
        have e3 := set_fill (⟨⟨#[]⟩, 0, 0⟩ : Demand) xs hlt
        have hb3 := (below_tr hb hb2).grown H3.2 (Nat.le_trans hb.size hb2.size) (by intro _ h; cases h; exact Nat.le_refl _)
        refine ⟨n + 1, by omega, by go_num, ?_, hb3⟩
        have H4 := H3.1; rw [e3, HL.out] at H4
        exact H4
      case measure => simp [intOf]; omega
    · go_wp2
      go_ret
      obtain rfl : n = xs.length := by omega
      have H4 := HW.out
      rw [List.take_length, Nat.sub_self, List.replicate_zero, List.append_nil] at H4
      exact ⟨_, rfl, H4, hb⟩
set_option maxHeartbeats 1000000 in
theorem c_laws_eqLine (a b : Line) (w : World) :
    Calls Try.prog 51 #[.agg #[.string a.party, .int .i64 a.amount], .agg #[.string b.party, .int .i64 b.amount]] w fun e w' => e = .returned (.bool (decide (a = b))) ∧ Below w.heap.size w w' := by
  rw [show decide (a = b) = (a.party.toList == b.party.toList && (a.amount == b.amount)) from by rw [Bool.eq_iff_iff]; simp [Line.eq_iff, str_eq]]
  go_enter Try.func51, Try.ntmps51
  go_wp2
  all_goals (go_ret; exact ⟨ret_bool (by simp_all), below_al (below_al (below_rf _) _) _⟩)
set_option maxHeartbeats 1000000 in
theorem c_laws_eqLineS (v u : Value) (xs ys : List Line) (w : World) (hv : Rd w v xs) (hu : Rd w u ys) :
    Calls Try.prog 14 #[v, u] w fun e w' => e = .returned (.bool (decide (xs = ys))) ∧ Below w.heap.size w w' := by
  obtain ⟨A, cap, rfl, hlc, hcap, hrd⟩ := hv
  obtain ⟨A2, cap2, rfl, hlc2, hcap2, hrd2⟩ := hu
  by_cases hl : xs.length = ys.length
  · have hl1 : ((xs.length : Int) != (ys.length : Int)) = false := by simp [hl]
    have HL := Lib.hid hl; clear hl
    go_enter Try.func14, Try.ntmps14
    go_wp2
    go_loopw [5] (fun i wr => ∃ (n : Nat), n ≤ xs.length ∧ i = .int .i64 n ∧ Hid (xs.take n = ys.take n) ∧ Below w.heap.size w wr) (fun i _ => xs.length - (intOf i).toNat)
    case atStart => exact ⟨0, Nat.zero_le _, rfl, rfl, below_rf _⟩
    case round =>
      obtain ⟨n, hn, rfl, HS, hb⟩ := hrel
      by_cases hlt : n < xs.length
      · obtain ⟨b, off, rfl, hbl, hc⟩ := hrd (by omega)
        have hlt2 : n < ys.length := by have := HL.out; omega
        obtain ⟨b2, off2, rfl, hbl2, hc2⟩ := hrd2 (by omega)
        have c0 := (hb.cell hbl).trans (hc n hlt 0 _ rfl)
        have d0 := (hb.cell hbl2).trans (hc2 n hlt2 0 _ rfl)
        have c1 := (hb.cell hbl).trans (hc n hlt 1 _ rfl)
        have d1 := (hb.cell hbl2).trans (hc2 n hlt2 1 _ rfl)
        simp only [Nat.add_zero, Enc.k] at c0 d0 c1 d1
        have C0 : ∀ p : InW wr, p.v.cell? _ = _ := fun p => (p.h.cell (Nat.lt_of_lt_of_le hbl hb.size)).trans c0
        have D0 : ∀ p : InW wr, p.v.cell? _ = _ := fun p => (p.h.cell (Nat.lt_of_lt_of_le hbl2 hb.size)).trans d0
        have C1 : ∀ p : InW wr, p.v.cell? _ = _ := fun p => (p.h.cell (Nat.lt_of_lt_of_le hbl hb.size)).trans c1
        have D1 : ∀ p : InW wr, p.v.cell? _ = _ := fun p => (p.h.cell (Nat.lt_of_lt_of_le hbl2 hb.size)).trans d1
        have i0 : (0:Int) ≤ n := by omega
        have i1 : (n:Int) < (xs.length:Int) := by omega
        have i2 : (n:Int) < (ys.length:Int) := by omega
        clear c0 d0 c1 d1 hc hc2 hrd hrd2
        go_wp2
        refine wp_region_in (by kernel_rfl) (by kernel_rfl) ?_
        repeat (go_big_quiet_step ((go_at_call 51; exact in_call (c_laws_eqLine xs[n] ys[n] _))))
        refine wpQuiet_nil ?_
        rintro _ ⟨⟨w1, hb1⟩, rfl⟩
        clear C0 D0 C1 D1
        generalize hq : decide (xs[n] = ys[n]) = q
        have HQ := Lib.hid hq; clear hq
        cases q with
        | true =>
          have hq : xs[n] = ys[n] := by have := HQ.out; simpa using this
          have HE := Lib.hid hq; clear hq
          go_wp2
          go_roundw
          case rel => exact ⟨n + 1, by omega, by go_num, by unfold Hid; rw [List.take_succ_eq_append_getElem hlt, List.take_succ_eq_append_getElem hlt2, HS.out, HE.out], below_tr hb hb1⟩
          case measure => simp [intOf]; omega
        | false =>
          have hq : ¬ xs[n] = ys[n] := by have := HQ.out; simpa using this
          have HE := Lib.hid hq; clear hq
          go_wp2
          go_ret
          exact ⟨ret_bool (decide_eq_false fun h => HE.out (by simp [h])).symm, below_tr hb hb1⟩
      · go_wp2
        go_ret
        obtain rfl : n = xs.length := by omega
        have hs := HS.out; rw [List.take_length, HL.out, List.take_length] at hs
        exact ⟨ret_bool (decide_eq_true hs).symm, hb⟩
  · have hl1 : ((xs.length : Int) != (ys.length : Int)) = true := by rw [bne_iff_ne]; omega
    have HL := Lib.hid hl; clear hl
    go_enter Try.func14, Try.ntmps14
    go_wp2
    go_ret
    exact ⟨ret_bool (decide_eq_false fun h => HL.out (by rw [h])).symm, below_rf _⟩
set_option maxHeartbeats 1000000 in
theorem c_laws_eqEntry (a b : Entry) (w : World) :
    Calls Try.prog 56 #[.agg #[.int .i64 a.day, .string a.frm, .string a.dst, .int .i64 a.amount], .agg #[.int .i64 b.day, .string b.frm, .string b.dst, .int .i64 b.amount]] w fun e w' => e = .returned (.bool (decide (a = b))) ∧ Below w.heap.size w w' := by
  rw [show decide (a = b) = (a.day == b.day && (a.frm.toList == b.frm.toList && (a.dst.toList == b.dst.toList && (a.amount == b.amount)))) from by rw [Bool.eq_iff_iff]; simp [Entry.eq_iff, str_eq]]
  go_enter Try.func56, Try.ntmps56
  go_wp2
  all_goals (go_ret; exact ⟨ret_bool (by simp_all), below_al (below_al (below_rf _) _) _⟩)
set_option maxHeartbeats 1000000 in
theorem c_laws_eqEntryS (v u : Value) (xs ys : List Entry) (w : World) (hv : Rd w v xs) (hu : Rd w u ys) :
    Calls Try.prog 19 #[v, u] w fun e w' => e = .returned (.bool (decide (xs = ys))) ∧ Below w.heap.size w w' := by
  obtain ⟨A, cap, rfl, hlc, hcap, hrd⟩ := hv
  obtain ⟨A2, cap2, rfl, hlc2, hcap2, hrd2⟩ := hu
  by_cases hl : xs.length = ys.length
  · have hl1 : ((xs.length : Int) != (ys.length : Int)) = false := by simp [hl]
    have HL := Lib.hid hl; clear hl
    go_enter Try.func19, Try.ntmps19
    go_wp2
    go_loopw [5] (fun i wr => ∃ (n : Nat), n ≤ xs.length ∧ i = .int .i64 n ∧ Hid (xs.take n = ys.take n) ∧ Below w.heap.size w wr) (fun i _ => xs.length - (intOf i).toNat)
    case atStart => exact ⟨0, Nat.zero_le _, rfl, rfl, below_rf _⟩
    case round =>
      obtain ⟨n, hn, rfl, HS, hb⟩ := hrel
      by_cases hlt : n < xs.length
      · obtain ⟨b, off, rfl, hbl, hc⟩ := hrd (by omega)
        have hlt2 : n < ys.length := by have := HL.out; omega
        obtain ⟨b2, off2, rfl, hbl2, hc2⟩ := hrd2 (by omega)
        have c0 := (hb.cell hbl).trans (hc n hlt 0 _ rfl)
        have d0 := (hb.cell hbl2).trans (hc2 n hlt2 0 _ rfl)
        have c1 := (hb.cell hbl).trans (hc n hlt 1 _ rfl)
        have d1 := (hb.cell hbl2).trans (hc2 n hlt2 1 _ rfl)
        have c2 := (hb.cell hbl).trans (hc n hlt 2 _ rfl)
        have d2 := (hb.cell hbl2).trans (hc2 n hlt2 2 _ rfl)
        have c3 := (hb.cell hbl).trans (hc n hlt 3 _ rfl)
        have d3 := (hb.cell hbl2).trans (hc2 n hlt2 3 _ rfl)
        simp only [Nat.add_zero, Enc.k] at c0 d0 c1 d1 c2 d2 c3 d3
        have C0 : ∀ p : InW wr, p.v.cell? _ = _ := fun p => (p.h.cell (Nat.lt_of_lt_of_le hbl hb.size)).trans c0
        have D0 : ∀ p : InW wr, p.v.cell? _ = _ := fun p => (p.h.cell (Nat.lt_of_lt_of_le hbl2 hb.size)).trans d0
        have C1 : ∀ p : InW wr, p.v.cell? _ = _ := fun p => (p.h.cell (Nat.lt_of_lt_of_le hbl hb.size)).trans c1
        have D1 : ∀ p : InW wr, p.v.cell? _ = _ := fun p => (p.h.cell (Nat.lt_of_lt_of_le hbl2 hb.size)).trans d1
        have C2 : ∀ p : InW wr, p.v.cell? _ = _ := fun p => (p.h.cell (Nat.lt_of_lt_of_le hbl hb.size)).trans c2
        have D2 : ∀ p : InW wr, p.v.cell? _ = _ := fun p => (p.h.cell (Nat.lt_of_lt_of_le hbl2 hb.size)).trans d2
        have C3 : ∀ p : InW wr, p.v.cell? _ = _ := fun p => (p.h.cell (Nat.lt_of_lt_of_le hbl hb.size)).trans c3
        have D3 : ∀ p : InW wr, p.v.cell? _ = _ := fun p => (p.h.cell (Nat.lt_of_lt_of_le hbl2 hb.size)).trans d3
        have i0 : (0:Int) ≤ n := by omega
        have i1 : (n:Int) < (xs.length:Int) := by omega
        have i2 : (n:Int) < (ys.length:Int) := by omega
        clear c0 d0 c1 d1 c2 d2 c3 d3 hc hc2 hrd hrd2
        go_wp2
        refine wp_region_in (by kernel_rfl) (by kernel_rfl) ?_
        repeat (go_big_quiet_step ((go_at_call 56; exact in_call (c_laws_eqEntry xs[n] ys[n] _))))
        refine wpQuiet_nil ?_
        rintro _ ⟨⟨w1, hb1⟩, rfl⟩
        clear C0 D0 C1 D1 C2 D2 C3 D3
        generalize hq : decide (xs[n] = ys[n]) = q
        have HQ := Lib.hid hq; clear hq
        cases q with
        | true =>
          have hq : xs[n] = ys[n] := by have := HQ.out; simpa using this
          have HE := Lib.hid hq; clear hq
          go_wp2
          go_roundw
          case rel => exact ⟨n + 1, by omega, by go_num, by unfold Hid; rw [List.take_succ_eq_append_getElem hlt, List.take_succ_eq_append_getElem hlt2, HS.out, HE.out], below_tr hb hb1⟩
          case measure => simp [intOf]; omega
        | false =>
          have hq : ¬ xs[n] = ys[n] := by have := HQ.out; simpa using this
          have HE := Lib.hid hq; clear hq
          go_wp2
          go_ret
          exact ⟨ret_bool (decide_eq_false fun h => HE.out (by simp [h])).symm, below_tr hb hb1⟩
      · go_wp2
        go_ret
        obtain rfl : n = xs.length := by omega
        have hs := HS.out; rw [List.take_length, HL.out, List.take_length] at hs
        exact ⟨ret_bool (decide_eq_true hs).symm, hb⟩
  · have hl1 : ((xs.length : Int) != (ys.length : Int)) = true := by rw [bne_iff_ne]; omega
    have HL := Lib.hid hl; clear hl
    go_enter Try.func19, Try.ntmps19
    go_wp2
    go_ret
    exact ⟨ret_bool (decide_eq_false fun h => HL.out (by rw [h])).symm, below_rf _⟩
set_option maxHeartbeats 1000000 in
theorem c_laws_eqObjection (a b : Objection) (w : World) :
    Calls Try.prog 61 #[.agg #[.string a.party, .int .i64 a.day, .int .i64 a.event, .int .i64 a.ground, .int .i64 a.value], .agg #[.string b.party, .int .i64 b.day, .int .i64 b.event, .int .i64 b.ground, .int .i64 b.value]] w fun e w' => e = .returned (.bool (decide (a = b))) ∧ Below w.heap.size w w' := by
  rw [show decide (a = b) = (a.party.toList == b.party.toList && (a.day == b.day && (a.event == b.event && (a.ground == b.ground && (a.value == b.value))))) from by rw [Bool.eq_iff_iff]; simp [Objection.eq_iff, str_eq]]
  go_enter Try.func61, Try.ntmps61
  go_wp2
  all_goals (go_ret; exact ⟨ret_bool (by simp_all), below_al (below_al (below_rf _) _) _⟩)
set_option maxHeartbeats 1000000 in
theorem c_laws_eqObjectionS (v u : Value) (xs ys : List Objection) (w : World) (hv : Rd w v xs) (hu : Rd w u ys) :
    Calls Try.prog 25 #[v, u] w fun e w' => e = .returned (.bool (decide (xs = ys))) ∧ Below w.heap.size w w' := by
  obtain ⟨A, cap, rfl, hlc, hcap, hrd⟩ := hv
  obtain ⟨A2, cap2, rfl, hlc2, hcap2, hrd2⟩ := hu
  by_cases hl : xs.length = ys.length
  · have hl1 : ((xs.length : Int) != (ys.length : Int)) = false := by simp [hl]
    have HL := Lib.hid hl; clear hl
    go_enter Try.func25, Try.ntmps25
    go_wp2
    go_loopw [5] (fun i wr => ∃ (n : Nat), n ≤ xs.length ∧ i = .int .i64 n ∧ Hid (xs.take n = ys.take n) ∧ Below w.heap.size w wr) (fun i _ => xs.length - (intOf i).toNat)
    case atStart => exact ⟨0, Nat.zero_le _, rfl, rfl, below_rf _⟩
    case round =>
      obtain ⟨n, hn, rfl, HS, hb⟩ := hrel
      by_cases hlt : n < xs.length
      · obtain ⟨b, off, rfl, hbl, hc⟩ := hrd (by omega)
        have hlt2 : n < ys.length := by have := HL.out; omega
        obtain ⟨b2, off2, rfl, hbl2, hc2⟩ := hrd2 (by omega)
        have c0 := (hb.cell hbl).trans (hc n hlt 0 _ rfl)
        have d0 := (hb.cell hbl2).trans (hc2 n hlt2 0 _ rfl)
        have c1 := (hb.cell hbl).trans (hc n hlt 1 _ rfl)
        have d1 := (hb.cell hbl2).trans (hc2 n hlt2 1 _ rfl)
        have c2 := (hb.cell hbl).trans (hc n hlt 2 _ rfl)
        have d2 := (hb.cell hbl2).trans (hc2 n hlt2 2 _ rfl)
        have c3 := (hb.cell hbl).trans (hc n hlt 3 _ rfl)
        have d3 := (hb.cell hbl2).trans (hc2 n hlt2 3 _ rfl)
        have c4 := (hb.cell hbl).trans (hc n hlt 4 _ rfl)
        have d4 := (hb.cell hbl2).trans (hc2 n hlt2 4 _ rfl)
        simp only [Nat.add_zero, Enc.k] at c0 d0 c1 d1 c2 d2 c3 d3 c4 d4
        have C0 : ∀ p : InW wr, p.v.cell? _ = _ := fun p => (p.h.cell (Nat.lt_of_lt_of_le hbl hb.size)).trans c0
        have D0 : ∀ p : InW wr, p.v.cell? _ = _ := fun p => (p.h.cell (Nat.lt_of_lt_of_le hbl2 hb.size)).trans d0
        have C1 : ∀ p : InW wr, p.v.cell? _ = _ := fun p => (p.h.cell (Nat.lt_of_lt_of_le hbl hb.size)).trans c1
        have D1 : ∀ p : InW wr, p.v.cell? _ = _ := fun p => (p.h.cell (Nat.lt_of_lt_of_le hbl2 hb.size)).trans d1
        have C2 : ∀ p : InW wr, p.v.cell? _ = _ := fun p => (p.h.cell (Nat.lt_of_lt_of_le hbl hb.size)).trans c2
        have D2 : ∀ p : InW wr, p.v.cell? _ = _ := fun p => (p.h.cell (Nat.lt_of_lt_of_le hbl2 hb.size)).trans d2
        have C3 : ∀ p : InW wr, p.v.cell? _ = _ := fun p => (p.h.cell (Nat.lt_of_lt_of_le hbl hb.size)).trans c3
        have D3 : ∀ p : InW wr, p.v.cell? _ = _ := fun p => (p.h.cell (Nat.lt_of_lt_of_le hbl2 hb.size)).trans d3
        have C4 : ∀ p : InW wr, p.v.cell? _ = _ := fun p => (p.h.cell (Nat.lt_of_lt_of_le hbl hb.size)).trans c4
        have D4 : ∀ p : InW wr, p.v.cell? _ = _ := fun p => (p.h.cell (Nat.lt_of_lt_of_le hbl2 hb.size)).trans d4
        have i0 : (0:Int) ≤ n := by omega
        have i1 : (n:Int) < (xs.length:Int) := by omega
        have i2 : (n:Int) < (ys.length:Int) := by omega
        clear c0 d0 c1 d1 c2 d2 c3 d3 c4 d4 hc hc2 hrd hrd2
        go_wp2
        refine wp_region_in (by kernel_rfl) (by kernel_rfl) ?_
        repeat (go_big_quiet_step ((go_at_call 61; exact in_call (c_laws_eqObjection xs[n] ys[n] _))))
        refine wpQuiet_nil ?_
        rintro _ ⟨⟨w1, hb1⟩, rfl⟩
        clear C0 D0 C1 D1 C2 D2 C3 D3 C4 D4
        generalize hq : decide (xs[n] = ys[n]) = q
        have HQ := Lib.hid hq; clear hq
        cases q with
        | true =>
          have hq : xs[n] = ys[n] := by have := HQ.out; simpa using this
          have HE := Lib.hid hq; clear hq
          go_wp2
          go_roundw
          case rel => exact ⟨n + 1, by omega, by go_num, by unfold Hid; rw [List.take_succ_eq_append_getElem hlt, List.take_succ_eq_append_getElem hlt2, HS.out, HE.out], below_tr hb hb1⟩
          case measure => simp [intOf]; omega
        | false =>
          have hq : ¬ xs[n] = ys[n] := by have := HQ.out; simpa using this
          have HE := Lib.hid hq; clear hq
          go_wp2
          go_ret
          exact ⟨ret_bool (decide_eq_false fun h => HE.out (by simp [h])).symm, below_tr hb hb1⟩
      · go_wp2
        go_ret
        obtain rfl : n = xs.length := by omega
        have hs := HS.out; rw [List.take_length, HL.out, List.take_length] at hs
        exact ⟨ret_bool (decide_eq_true hs).symm, hb⟩
  · have hl1 : ((xs.length : Int) != (ys.length : Int)) = true := by rw [bne_iff_ne]; omega
    have HL := Lib.hid hl; clear hl
    go_enter Try.func25, Try.ntmps25
    go_wp2
    go_ret
    exact ⟨ret_bool (decide_eq_false fun h => HL.out (by rw [h])).symm, below_rf _⟩
set_option maxHeartbeats 1000000 in
theorem c_laws_eqTransfer (a b : Transfer) (w : World) :
    Calls Try.prog 69 #[.agg #[.string a.frm, .string a.dst, .int .i64 a.amount], .agg #[.string b.frm, .string b.dst, .int .i64 b.amount]] w fun e w' => e = .returned (.bool (decide (a = b))) ∧ Below w.heap.size w w' := by
  rw [show decide (a = b) = (a.frm.toList == b.frm.toList && (a.dst.toList == b.dst.toList && (a.amount == b.amount))) from by rw [Bool.eq_iff_iff]; simp [Transfer.eq_iff, str_eq]]
  go_enter Try.func69, Try.ntmps69
  go_wp2
  all_goals (go_ret; exact ⟨ret_bool (by simp_all), below_al (below_al (below_rf _) _) _⟩)
set_option maxHeartbeats 1000000 in
theorem c_laws_eqTransferS (v u : Value) (xs ys : List Transfer) (w : World) (hv : Rd w v xs) (hu : Rd w u ys) :
    Calls Try.prog 33 #[v, u] w fun e w' => e = .returned (.bool (decide (xs = ys))) ∧ Below w.heap.size w w' := by
  obtain ⟨A, cap, rfl, hlc, hcap, hrd⟩ := hv
  obtain ⟨A2, cap2, rfl, hlc2, hcap2, hrd2⟩ := hu
  by_cases hl : xs.length = ys.length
  · have hl1 : ((xs.length : Int) != (ys.length : Int)) = false := by simp [hl]
    have HL := Lib.hid hl; clear hl
    go_enter Try.func33, Try.ntmps33
    go_wp2
    go_loopw [5] (fun i wr => ∃ (n : Nat), n ≤ xs.length ∧ i = .int .i64 n ∧ Hid (xs.take n = ys.take n) ∧ Below w.heap.size w wr) (fun i _ => xs.length - (intOf i).toNat)
    case atStart => exact ⟨0, Nat.zero_le _, rfl, rfl, below_rf _⟩
    case round =>
      obtain ⟨n, hn, rfl, HS, hb⟩ := hrel
      by_cases hlt : n < xs.length
      · obtain ⟨b, off, rfl, hbl, hc⟩ := hrd (by omega)
        have hlt2 : n < ys.length := by have := HL.out; omega
        obtain ⟨b2, off2, rfl, hbl2, hc2⟩ := hrd2 (by omega)
        have c0 := (hb.cell hbl).trans (hc n hlt 0 _ rfl)
        have d0 := (hb.cell hbl2).trans (hc2 n hlt2 0 _ rfl)
        have c1 := (hb.cell hbl).trans (hc n hlt 1 _ rfl)
        have d1 := (hb.cell hbl2).trans (hc2 n hlt2 1 _ rfl)
        have c2 := (hb.cell hbl).trans (hc n hlt 2 _ rfl)
        have d2 := (hb.cell hbl2).trans (hc2 n hlt2 2 _ rfl)
        simp only [Nat.add_zero, Enc.k] at c0 d0 c1 d1 c2 d2
        have C0 : ∀ p : InW wr, p.v.cell? _ = _ := fun p => (p.h.cell (Nat.lt_of_lt_of_le hbl hb.size)).trans c0
        have D0 : ∀ p : InW wr, p.v.cell? _ = _ := fun p => (p.h.cell (Nat.lt_of_lt_of_le hbl2 hb.size)).trans d0
        have C1 : ∀ p : InW wr, p.v.cell? _ = _ := fun p => (p.h.cell (Nat.lt_of_lt_of_le hbl hb.size)).trans c1
        have D1 : ∀ p : InW wr, p.v.cell? _ = _ := fun p => (p.h.cell (Nat.lt_of_lt_of_le hbl2 hb.size)).trans d1
        have C2 : ∀ p : InW wr, p.v.cell? _ = _ := fun p => (p.h.cell (Nat.lt_of_lt_of_le hbl hb.size)).trans c2
        have D2 : ∀ p : InW wr, p.v.cell? _ = _ := fun p => (p.h.cell (Nat.lt_of_lt_of_le hbl2 hb.size)).trans d2
        have i0 : (0:Int) ≤ n := by omega
        have i1 : (n:Int) < (xs.length:Int) := by omega
        have i2 : (n:Int) < (ys.length:Int) := by omega
        clear c0 d0 c1 d1 c2 d2 hc hc2 hrd hrd2
        go_wp2
        refine wp_region_in (by kernel_rfl) (by kernel_rfl) ?_
        repeat (go_big_quiet_step ((go_at_call 69; exact in_call (c_laws_eqTransfer xs[n] ys[n] _))))
        refine wpQuiet_nil ?_
        rintro _ ⟨⟨w1, hb1⟩, rfl⟩
        clear C0 D0 C1 D1 C2 D2
        generalize hq : decide (xs[n] = ys[n]) = q
        have HQ := Lib.hid hq; clear hq
        cases q with
        | true =>
          have hq : xs[n] = ys[n] := by have := HQ.out; simpa using this
          have HE := Lib.hid hq; clear hq
          go_wp2
          go_roundw
          case rel => exact ⟨n + 1, by omega, by go_num, by unfold Hid; rw [List.take_succ_eq_append_getElem hlt, List.take_succ_eq_append_getElem hlt2, HS.out, HE.out], below_tr hb hb1⟩
          case measure => simp [intOf]; omega
        | false =>
          have hq : ¬ xs[n] = ys[n] := by have := HQ.out; simpa using this
          have HE := Lib.hid hq; clear hq
          go_wp2
          go_ret
          exact ⟨ret_bool (decide_eq_false fun h => HE.out (by simp [h])).symm, below_tr hb hb1⟩
      · go_wp2
        go_ret
        obtain rfl : n = xs.length := by omega
        have hs := HS.out; rw [List.take_length, HL.out, List.take_length] at hs
        exact ⟨ret_bool (decide_eq_true hs).symm, hb⟩
  · have hl1 : ((xs.length : Int) != (ys.length : Int)) = true := by rw [bne_iff_ne]; omega
    have HL := Lib.hid hl; clear hl
    go_enter Try.func33, Try.ntmps33
    go_wp2
    go_ret
    exact ⟨ret_bool (decide_eq_false fun h => HL.out (by rw [h])).symm, below_rf _⟩
set_option maxHeartbeats 1000000 in
theorem c_laws_eqDemand (a b : Demand) (w : World) :
    Calls Try.prog 81 #[.agg #[.string a.party, .int .i64 a.rank, .int .i64 a.asked], .agg #[.string b.party, .int .i64 b.rank, .int .i64 b.asked]] w fun e w' => e = .returned (.bool (decide (a = b))) ∧ Below w.heap.size w w' := by
  rw [show decide (a = b) = (a.party.toList == b.party.toList && (a.rank == b.rank && (a.asked == b.asked))) from by rw [Bool.eq_iff_iff]; simp [Demand.eq_iff, str_eq]]
  go_enter Try.func81, Try.ntmps81
  go_wp2
  all_goals (go_ret; exact ⟨ret_bool (by simp_all), below_al (below_al (below_rf _) _) _⟩)
set_option maxHeartbeats 1000000 in
theorem c_laws_eqDemandS (v u : Value) (xs ys : List Demand) (w : World) (hv : Rd w v xs) (hu : Rd w u ys) :
    Calls Try.prog 41 #[v, u] w fun e w' => e = .returned (.bool (decide (xs = ys))) ∧ Below w.heap.size w w' := by
  obtain ⟨A, cap, rfl, hlc, hcap, hrd⟩ := hv
  obtain ⟨A2, cap2, rfl, hlc2, hcap2, hrd2⟩ := hu
  by_cases hl : xs.length = ys.length
  · have hl1 : ((xs.length : Int) != (ys.length : Int)) = false := by simp [hl]
    have HL := Lib.hid hl; clear hl
    go_enter Try.func41, Try.ntmps41
    go_wp2
    go_loopw [5] (fun i wr => ∃ (n : Nat), n ≤ xs.length ∧ i = .int .i64 n ∧ Hid (xs.take n = ys.take n) ∧ Below w.heap.size w wr) (fun i _ => xs.length - (intOf i).toNat)
    case atStart => exact ⟨0, Nat.zero_le _, rfl, rfl, below_rf _⟩
    case round =>
      obtain ⟨n, hn, rfl, HS, hb⟩ := hrel
      by_cases hlt : n < xs.length
      · obtain ⟨b, off, rfl, hbl, hc⟩ := hrd (by omega)
        have hlt2 : n < ys.length := by have := HL.out; omega
        obtain ⟨b2, off2, rfl, hbl2, hc2⟩ := hrd2 (by omega)
        have c0 := (hb.cell hbl).trans (hc n hlt 0 _ rfl)
        have d0 := (hb.cell hbl2).trans (hc2 n hlt2 0 _ rfl)
        have c1 := (hb.cell hbl).trans (hc n hlt 1 _ rfl)
        have d1 := (hb.cell hbl2).trans (hc2 n hlt2 1 _ rfl)
        have c2 := (hb.cell hbl).trans (hc n hlt 2 _ rfl)
        have d2 := (hb.cell hbl2).trans (hc2 n hlt2 2 _ rfl)
        simp only [Nat.add_zero, Enc.k] at c0 d0 c1 d1 c2 d2
        have C0 : ∀ p : InW wr, p.v.cell? _ = _ := fun p => (p.h.cell (Nat.lt_of_lt_of_le hbl hb.size)).trans c0
        have D0 : ∀ p : InW wr, p.v.cell? _ = _ := fun p => (p.h.cell (Nat.lt_of_lt_of_le hbl2 hb.size)).trans d0
        have C1 : ∀ p : InW wr, p.v.cell? _ = _ := fun p => (p.h.cell (Nat.lt_of_lt_of_le hbl hb.size)).trans c1
        have D1 : ∀ p : InW wr, p.v.cell? _ = _ := fun p => (p.h.cell (Nat.lt_of_lt_of_le hbl2 hb.size)).trans d1
        have C2 : ∀ p : InW wr, p.v.cell? _ = _ := fun p => (p.h.cell (Nat.lt_of_lt_of_le hbl hb.size)).trans c2
        have D2 : ∀ p : InW wr, p.v.cell? _ = _ := fun p => (p.h.cell (Nat.lt_of_lt_of_le hbl2 hb.size)).trans d2
        have i0 : (0:Int) ≤ n := by omega
        have i1 : (n:Int) < (xs.length:Int) := by omega
        have i2 : (n:Int) < (ys.length:Int) := by omega
        clear c0 d0 c1 d1 c2 d2 hc hc2 hrd hrd2
        go_wp2
        refine wp_region_in (by kernel_rfl) (by kernel_rfl) ?_
        repeat (go_big_quiet_step ((go_at_call 81; exact in_call (c_laws_eqDemand xs[n] ys[n] _))))
        refine wpQuiet_nil ?_
        rintro _ ⟨⟨w1, hb1⟩, rfl⟩
        clear C0 D0 C1 D1 C2 D2
        generalize hq : decide (xs[n] = ys[n]) = q
        have HQ := Lib.hid hq; clear hq
        cases q with
        | true =>
          have hq : xs[n] = ys[n] := by have := HQ.out; simpa using this
          have HE := Lib.hid hq; clear hq
          go_wp2
          go_roundw
          case rel => exact ⟨n + 1, by omega, by go_num, by unfold Hid; rw [List.take_succ_eq_append_getElem hlt, List.take_succ_eq_append_getElem hlt2, HS.out, HE.out], below_tr hb hb1⟩
          case measure => simp [intOf]; omega
        | false =>
          have hq : ¬ xs[n] = ys[n] := by have := HQ.out; simpa using this
          have HE := Lib.hid hq; clear hq
          go_wp2
          go_ret
          exact ⟨ret_bool (decide_eq_false fun h => HE.out (by simp [h])).symm, below_tr hb hb1⟩
      · go_wp2
        go_ret
        obtain rfl : n = xs.length := by omega
        have hs := HS.out; rw [List.take_length, HL.out, List.take_length] at hs
        exact ⟨ret_bool (decide_eq_true hs).symm, hb⟩
  · have hl1 : ((xs.length : Int) != (ys.length : Int)) = true := by rw [bne_iff_ne]; omega
    have HL := Lib.hid hl; clear hl
    go_enter Try.func41, Try.ntmps41
    go_wp2
    go_ret
    exact ⟨ret_bool (decide_eq_false fun h => HL.out (by rw [h])).symm, below_rf _⟩
set_option maxHeartbeats 1000000 in
theorem c_laws_eqInt64S (v u : Value) (xs ys : List Int) (w : World) (hv : Rd w v xs) (hu : Rd w u ys) :
    Calls Try.prog 24 #[v, u] w fun e w' => e = .returned (.bool (decide (xs = ys))) ∧ Below w.heap.size w w' := by
  obtain ⟨A, cap, rfl, hlc, hcap, hrd⟩ := hv
  obtain ⟨A2, cap2, rfl, hlc2, hcap2, hrd2⟩ := hu
  by_cases hl : xs.length = ys.length
  · have hl1 : ((xs.length : Int) != (ys.length : Int)) = false := by simp [hl]
    have HL := Lib.hid hl; clear hl
    go_enter Try.func24, Try.ntmps24
    go_wp2
    go_loopw [5] (fun i wr => ∃ (n : Nat), n ≤ xs.length ∧ i = .int .i64 n ∧ Hid (xs.take n = ys.take n) ∧ Below w.heap.size w wr) (fun i _ => xs.length - (intOf i).toNat)
    case atStart => exact ⟨0, Nat.zero_le _, rfl, rfl, below_rf _⟩
    case round =>
      obtain ⟨n, hn, rfl, HS, hb⟩ := hrel
      by_cases hlt : n < xs.length
      · obtain ⟨b, off, rfl, hbl, hc⟩ := hrd (by omega)
        have hlt2 : n < ys.length := by have := HL.out; omega
        obtain ⟨b2, off2, rfl, hbl2, hc2⟩ := hrd2 (by omega)
        have c0 := (hb.cell hbl).trans (hc n hlt 0 _ rfl)
        have d0 := (hb.cell hbl2).trans (hc2 n hlt2 0 _ rfl)
        simp only [Nat.add_zero, Enc.k, Nat.mul_one] at c0 d0
        have C0 : ∀ p : InW wr, p.v.cell? _ = _ := fun p => (p.h.cell (Nat.lt_of_lt_of_le hbl hb.size)).trans c0
        have D0 : ∀ p : InW wr, p.v.cell? _ = _ := fun p => (p.h.cell (Nat.lt_of_lt_of_le hbl2 hb.size)).trans d0
        have i0 : (0:Int) ≤ n := by omega
        have i1 : (n:Int) < (xs.length:Int) := by omega
        have i2 : (n:Int) < (ys.length:Int) := by omega
        clear c0 d0 hc hc2 hrd hrd2
        go_wp2
        refine wp_region_in (by kernel_rfl) (by kernel_rfl) ?_
        repeat (go_big_quiet_step (fail))
        refine wpQuiet_nil ?_
        rintro _ ⟨⟨w1, hb1⟩, rfl⟩
        clear C0 D0
        generalize hq : (xs[n] != ys[n]) = q
        have HQ := Lib.hid hq; clear hq
        cases q with
        | true =>
          have hq : ¬ xs[n] = ys[n] := by have := HQ.out; simpa [str_eq] using this
          have HE := Lib.hid hq; clear hq
          go_wp2
          go_ret
          exact ⟨ret_bool (decide_eq_false fun h => HE.out (by simp [h])).symm, below_tr hb hb1⟩
        | false =>
          have hq : xs[n] = ys[n] := by have := HQ.out; simpa [str_eq] using this
          have HE := Lib.hid hq; clear hq
          go_wp2
          go_roundw
          case rel => exact ⟨n + 1, by omega, by go_num, by unfold Hid; rw [List.take_succ_eq_append_getElem hlt, List.take_succ_eq_append_getElem hlt2, HS.out, HE.out], below_tr hb hb1⟩
          case measure => simp [intOf]; omega
      · go_wp2
        go_ret
        obtain rfl : n = xs.length := by omega
        have hs := HS.out; rw [List.take_length, HL.out, List.take_length] at hs
        exact ⟨ret_bool (decide_eq_true hs).symm, hb⟩
  · have hl1 : ((xs.length : Int) != (ys.length : Int)) = true := by rw [bne_iff_ne]; omega
    have HL := Lib.hid hl; clear hl
    go_enter Try.func24, Try.ntmps24
    go_wp2
    go_ret
    exact ⟨ret_bool (decide_eq_false fun h => HL.out (by rw [h])).symm, below_rf _⟩
end Go.Proofs.Ytiplbpapgaoaoaa
