/- The least count of transfers in the program. Conditions: none. -/
import Derived.Test.YtiplbpapgaoaoaaLeast2
import Derived.Test.YtiplbpapgaoaoaaBits
namespace Go.Proofs.Ytiplbpapgaoaoaa
open Go.RowKit Enc Go.Shelf
set_option linter.unusedVariables false
set_option linter.unusedSimpArgs false
theorem info_int : (Try.prog.info? 3).map (fun i => (i.zero, i.size, i.bytes)) = some (some (.int .i64 0), 1, 8) := by kernel_rfl
theorem c_impl_count_impl_Line (A : Option Addr) (n cap : Nat) (w : World) : Calls Try.prog 72 #[.slice A n cap] w fun e w' => e = .returned (.int .i64 n) ∧ w = w' := by
  go_enter Try.func72, Try.ntmps72
  go_wp2
  go_ret
  exact ⟨rfl, rfl⟩
theorem shl_one {m : Nat} (h : m ≤ 10) : wrap64 ((2 : Int) ^ m) = ((2 ^ m : Nat) : Int) := by
  have h1 := pow_1024 h
  have h2 : ((2 ^ m : Nat) : Int) = (2 : Int) ^ m := by simp
  rw [← h2]
  clear h2
  generalize 2 ^ m = z at h1 ⊢
  unfold wrap64
  omega
set_option maxRecDepth 100000 in
set_option maxHeartbeats 4000000 in
theorem c_impl_LeastCount (v : Value) (xs : List Line) (w : World) (hv : Rd w v xs) (hx : ∀ x ∈ xs, Ms.ok x) (hm : xs.length ≤ 1048576) :
    Calls Try.prog 36 #[v] w fun e w' => e = .returned (.tuple #[.int .i64 (leastV xs), .int .i64 (balC xs)]) ∧ Below w.heap.size w w' := by
  have HV := Lib.hid hv
  obtain ⟨A, cap, rfl, hlc, hcap, hrd⟩ := hv
  clear hrd
  have k1 := c_impl_AreBalanced _ xs w HV.out hx hm
  unfold leastV balC
  cases h8 : balB xs with
  | false =>
    rw [h8] at k1
    have K1 := Lib.hid k1; clear k1
    simp only [Bool.false_eq_true, if_false]
    go_enter Try.func36, Try.ntmps36
    go_wp2_with (go_at_call 13; refine K1.out.mono ?_; rintro e w1 ⟨rfl, hb1⟩)
    go_ret2
    exact ⟨rfl, hb1⟩
  | true =>
  rw [h8] at k1
  have K1 := Lib.hid k1; clear k1
  simp only [if_true]
  obtain ⟨hal, hl10⟩ := balB_all h8
  have hbd := nums_bd xs hal
  have hL := nums_len xs
  have hml : (nums xs).length = (openL xs).length := List.length_map _
  have hget : ∀ n (h : n < (openL xs).length), (nums xs).getD n 0 = (openL xs)[n].amount := fun n h => by
    unfold nums; rw [List.getD_eq_getElem?_getD, List.getElem?_map, List.getElem?_eq_getElem h]; rfl
  have hE : ∀ n (h : n < (openL xs).length), -1000000000000 ≤ (openL xs)[n].amount ∧ (openL xs)[n].amount ≤ 1000000000000 := fun n h => hbd _ (List.mem_map.2 ⟨_, List.getElem_mem h, rfl⟩)
  have hg0 := groups_bd (nums xs) (by omega)
  generalize hys : nums xs = ys at *
  generalize hzs : openL xs = zs at *
  rw [hml] at hL
  have HZS := Lib.hid hzs; clear hzs
  clear hal h8 hys
  have HBD := Lib.hid hbd; clear hbd
  have HML := Lib.hid hml; clear hml
  have HGT := Lib.hid hget; clear hget
  have HE := Lib.hid hE; clear hE
  have hl : zs.length ≤ 10 := by omega
  have hsh := shl_one hl
  have hp : 2 ^ zs.length ≤ 1024 := pow_1024 hl
  have hp0 : 1 ≤ 2 ^ zs.length := Nat.one_le_two_pow
  have HO0 := gOut_len ys
  have HG : groups ys = (gOut ys (2 ^ ys.length - 1)).getD (2 ^ ys.length - 1) 0 := rfl
  have HZ : gOut ys 0 = List.replicate (2 ^ ys.length) 0 := rfl
  rw [HML.out] at HG HZ HO0
  generalize 2 ^ zs.length = N at *
  have HLN := Lib.hid HO0; clear HO0
  have HGR := Lib.hid HG; clear HG
  obtain ⟨i0, hi, hz0, hz1, hz2⟩ := info_parts info_int
  go_enter Try.func36, Try.ntmps36
  go_wp2_with (first
    | (go_at_call 13; refine K1.out.mono ?_; rintro e w1 ⟨rfl, hb1⟩)
    | (go_at_call 71; refine (c_impl_open _ xs _ (HV.out.below hb1) hm).mono ?_; rintro e w2 ⟨v2, rfl, ho2, hb2⟩; rw [HZS.out] at ho2; obtain ⟨A2, cap2, rfl⟩ := ho2.form; have HO2 := Lib.hid ho2; have hb12 := below_tr hb1 hb2; clear ho2)
    | (at_make; refine wpList_make_full _ rfl _ _ _ rfl w2.heap.size 3 i0 _ 1 Try.underlying104 hi hz0 hz1 _ _ _ _ N rfl rfl hsh hsh (by rw [hz2]; omega) (by unfold maxLen; omega) (Nat.le_refl _) ?_; intro w3 hown hgr))
  clear hsh
  have HO := Ow.made (α := Int) 0 _ rfl (by decide) hown
  have hgs : w2.heap.size < w3.heap.size := (HO.lt _ rfl).2
  clear hown
  have hb3 : Below w2.heap.size w2 w3 := (below_rf w2).grown hgr (Nat.le_refl _) (by intro _ h; cases h)
  clear hgr
  rw [← HZ] at HO
  clear HZ
  have HR0 := HO2.out.rd
  obtain ⟨A3, cap3, hA3, hlc3, hcap3, hrd3⟩ := HR0
  simp only [Value.slice.injEq, true_and] at hA3
  obtain ⟨rfl, rfl⟩ := hA3
  have HR := Lib.hid hrd3; clear hrd3
  go_loopw [6] (fun i wr => ∃ s : Nat, 1 ≤ s ∧ s ≤ N ∧ i = .int .i64 s ∧ Hid (Ow 3 w2.heap.size wr (.slice (some ⟨w2.heap.size, 0, none⟩) N N) (gOut ys (s - 1))) ∧ Below w2.heap.size w2 wr) (fun i _ => N - (intOf i).toNat)
  case atStart => exact ⟨1, by omega, by omega, rfl, HO, hb3⟩
  case round =>
    obtain ⟨s, hs1, hs, rfl, HW, hb⟩ := hrel
    by_cases hls : s < N
    · have HS := Lib.hid (gOut_succ ys s hs1)
      have hok := gOut_ok ys (s - 1)
      rw [Nat.sub_add_cancel hs1] at hok
      have HK := Lib.hid hok; clear hok
      have HL0 := Lib.hid (HLN.out (s - 1))
      generalize gOut ys (s - 1) = gs at *
      go_wp2
      go_loopw [7, 27] (fun t i wr => ∃ n : Nat, n ≤ zs.length ∧ t = .int .i64 (gIn ys s gs n).1 ∧ i = .int .i64 n ∧ Hid (Ow 3 w2.heap.size wr (.slice (some ⟨w2.heap.size, 0, none⟩) N N) (gIn ys s gs n).2) ∧ Below w2.heap.size w2 wr) (fun _ i _ => zs.length - (intOf i).toNat)
      case atStart => exact ⟨0, Nat.zero_le _, rfl, rfl, HW, hb⟩
      case round =>
        obtain ⟨n, hn, rfl, rfl, HI, hb2⟩ := hrel
        by_cases hlt : n < zs.length
        · obtain ⟨b, off, rfl, hbl, hc⟩ := HR.out (by omega)
          have c0 := (hb2.cell hbl).trans (hc n hlt 0 _ rfl)
          have c1 := (hb2.cell hbl).trans (hc n hlt 1 _ rfl)
          simp only [Nat.add_zero, Enc.k] at c0 c1
          clear hc
          have hbA := below_al hb2 (.cells #[.string zs[n].party, .int .i64 zs[n].amount] 72)
          have HI2 := Lib.hid (HI.out.below (below_al (below_rf wr) (.cells #[.string zs[n].party, .int .i64 zs[n].amount] 72)))
          have hz1' : 1 ≤ 2 ^ n := Nat.one_le_two_pow
          have hz2' : 2 ^ n ≤ 1024 := pow_1024 (by omega)
          have hsn := shl_one (m := n) (by omega)
          have hgz : gIn ys s gs (n + 1) = if s / 2 ^ n % 2 = 1 then ((gIn ys s gs n).1 + ys.getD n 0, (gIn ys s gs n).2.set s (max ((gIn ys s gs n).2.getD s 0) ((gIn ys s gs n).2.getD (s - 2 ^ n) 0))) else gIn ys s gs n := rfl
          have HZ := Lib.hid hgz; clear hgz
          have hbo := bit_one (s := s / 2 ^ n) (Nat.lt_of_le_of_lt (Nat.div_le_self _ _) (by omega))
          rw [show ((s / 2 ^ n : Nat) : Int) = (s : Int) / (2 : Int) ^ n from by simp] at hbo
          by_cases hbit : s / 2 ^ n % 2 = 1
          · rw [hbit] at hbo
            rw [if_pos hbit] at HZ
            have hzs := div_odd hbit
            have hbd := bit_drop (n := n) (s := s) (by omega) (by omega) hbit
            rw [← show IntKind.i64.wrap ((2:Int) ^ n) = ((2 ^ n : Nat) : Int) from (IntWalk.i64_left _).trans hsn] at hbd
            have HB := Lib.hid hbit; clear hbit
            have hS := gIn_sum ys s gs HBD.out n
            have hE' := HE.out n hlt
            obtain ⟨hS1, hS2⟩ := hS
            obtain ⟨hE1, hE2⟩ := hE'
            have hgl : (gIn ys s gs n).2.length = N := by rw [gIn_len]; exact HL0.out
            have d0 := HI2.out.cellI hgl s hls
            have d1 := HI2.out.cellI hgl (s - 2 ^ n) (Nat.lt_of_le_of_lt (Nat.sub_le _ _) hls)
            have hgd := HGT.out n hlt
            rw [hgd] at HZ
            have HG2 := Lib.hid hgl; clear hgl hgd hsn
            have hcast : ((s - 2 ^ n : Nat) : Int).toNat = s - 2 ^ n := Int.toNat_natCast _
            have j0 : (0:Int) ≤ ((s - 2 ^ n : Nat) : Int) := Int.natCast_nonneg _
            have j1 : ((s - 2 ^ n : Nat) : Int) < (N:Int) := Int.ofNat_lt.2 (Nat.lt_of_le_of_lt (Nat.sub_le _ _) hls)
            generalize s - 2 ^ n = sz at *
            generalize hst : gIn ys s gs n = st at *
            obtain ⟨t, gq⟩ := st
            simp only at hS1 hS2 d0 d1 HZ HI HG2 HI2
            have HT := Lib.hid hst; clear hst
            have i0 : (0:Int) ≤ s := by omega
            have i1 : (s:Int) < (N:Int) := by omega
            clear hz1' hz2' hzs
            have D0 := Lib.hid d0; have D1 := Lib.hid d1
            clear d0 d1
            go_wp2
            generalize wr.alloc (.cells #[.string zs[n].party, .int .i64 zs[n].amount] 72) = w4 at *
            have d0 := D0.out; have d1 := D1.out
            go_still_tail 14, (by kernel_rfl)
            change wpList _ _ _ _ _ w4.drew
            have HI3 := Lib.hid (show Ow 3 w2.heap.size w4.drew (.slice (some ⟨w2.heap.size, 0, none⟩) N N) gq from HI2.out.below (below_rf _).drew)
            have fz2 := HI3.out.frozenI HG2.out s
            obtain ⟨u2, hd2⟩ : ∃ u, w4.drew.cell? ⟨w2.heap.size, s, none⟩ = some u := ⟨_, HI3.out.cellI HG2.out s hls⟩
            have hb3 : Below w2.heap.size w2 w4.drew := hbA.drew
            clear d0 d1 c0 c1 HI2
            generalize w4.drew = w5 at *
            go_wp2
            go_roundw
            case rel =>
              have H := HI3.out.setI HG2.out s hls (max (gq.getD s 0) (gq.getD sz 0))
              have hz := HZ.out
              simp only [List.getD_eq_getElem?_getD] at H hz
              refine ⟨n + 1, by omega, by rw [hz], by go_num, ?_, hb3.grown H.2 hb3.size (by intro b h; cases h; exact Nat.le_refl _)⟩
              unfold Hid; rw [hz]; exact H.1
            case measure => simp [intOf]; omega
          · have h0 : s / 2 ^ n % 2 = 0 := by omega
            rw [h0] at hbo
            rw [if_neg hbit] at HZ
            clear hbit h0 hsn hz1' hz2'
            go_wp2
            go_roundw
            case rel => exact ⟨n + 1, by omega, by rw [HZ.out], by go_num, by unfold Hid; rw [HZ.out]; exact HI2.out, hbA⟩
            case measure => simp [intOf]; omega
        · obtain rfl : n = zs.length := by omega
          have hgl : (gIn ys s gs zs.length).2.length = N := by rw [gIn_len]; exact HL0.out
          have hok := gIn_ok ys s gs hs1 HK.out zs.length s
          have d0 := HI.out.cellI hgl s hls
          have fz := HI.out.frozenI hgl s
          have HE2 := Lib.hid hgl; clear hgl
          have hst : gStep ys s gs = if (gIn ys s gs ys.length).1 = 0 then (gIn ys s gs ys.length).2.set s ((gIn ys s gs ys.length).2.getD s 0 + 1) else (gIn ys s gs ys.length).2 := rfl
          have hs' := HS.out
          rw [hst, HML.out] at hs'
          clear hst
          generalize gIn ys s gs zs.length = st at *
          obtain ⟨t, gq⟩ := st
          simp only at hs' hok d0 HI HE2 fz
          obtain ⟨ho1, ho2, ho3⟩ := hok
          have ho4 := ho3 (Nat.le_refl _)
          clear ho3
          have i0 : (0:Int) ≤ s := by omega
          have i1 : (s:Int) < (N:Int) := by omega
          by_cases h0 : t = 0
          · rw [if_pos h0] at hs'
            have HQ := Lib.hid hs'; clear hs'
            obtain rfl := h0
            simp only [List.getD_eq_getElem?_getD] at ho1 ho2 ho4 d0
            go_wp2
            go_roundw
            case rel =>
              have H := HI.out.setI HE2.out s hls (gq.getD s 0 + 1)
              refine ⟨s + 1, by omega, by omega, by go_num, ?_, hb2.grown (by simpa [List.getD_eq_getElem?_getD] using H.2) hb2.size (by intro b h; cases h; exact Nat.le_refl _)⟩
              unfold Hid; rw [Nat.add_sub_cancel, HQ.out]; simpa [List.getD_eq_getElem?_getD] using H.1
            case measure => simp [intOf]; omega
          · rw [if_neg h0] at hs'
            have HQ := Lib.hid hs'; clear hs'
            have h1 : (t == 0) = false := by simpa using h0
            go_wp2
            go_roundw
            case rel => exact ⟨s + 1, by omega, by omega, by go_num, by unfold Hid; rw [Nat.add_sub_cancel, HQ.out]; exact HI.out, hb2⟩
            case measure => simp [intOf]; omega
    · obtain rfl : s = N := by omega
      have c0 := HW.out.cellI (HLN.out _) (s - 1) (by omega)
      have C0 : ∀ p : InW wr, p.v.cell? ⟨w2.heap.size, s - 1, none⟩ = _ := fun p => (p.h.cell (p := ⟨w2.heap.size, s - 1, none⟩) (HW.out.lt _ rfl).2).trans c0
      rw [← HGR.out] at C0
      clear c0
      have i0 : (0:Int) ≤ (s:Int) - 1 := by omega
      have i1 : (s:Int) - 1 < (s:Int) := by omega
      have jw : IntKind.i64.wrap ((s:Int) - 1) = (s:Int) - 1 := IntWalk.i64_in _ (by omega)
      have jt : ((s:Int) - 1).toNat = s - 1 := by omega
      obtain ⟨hg1, hg2⟩ := hg0
      have jr : IntKind.i64.wrap ((zs.length : Int) - groups ys) = (zs.length : Int) - groups ys := IntWalk.i64_in _ (by omega)
      go_wp2
      refine wp_region_in (by kernel_rfl) (by kernel_rfl) ?_
      repeat (go_big_quiet_step ((go_at_call 72; exact in_call0 (c_impl_count_impl_Line _ _ _ _))))
      refine wpQuiet_nil ?_
      rintro y1 ⟨⟨y2, hb4⟩, hy⟩
      obtain rfl : y1 = y2 := hy
      go_wp2
      go_ret2
      exact ⟨rfl, below_tr hb12 (below_tr hb hb4)⟩
end Go.Proofs.Ytiplbpapgaoaoaa
