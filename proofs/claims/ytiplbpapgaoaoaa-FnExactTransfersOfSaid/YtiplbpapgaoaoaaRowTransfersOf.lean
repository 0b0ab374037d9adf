/- FnExactTransfersOf: for every list of transfers and every party code the program's TransfersOf and the reference's return the same, in new memory, and the list stays as it was. Conditions: none. -/
import Derived.Test.YtiplbpapgaoaoaaLawSz
import Derived.Test.YtiplbpapgaoaoaaLawTo
import Derived.Test.YtiplbpapgaoaoaaLawMk
import Derived.Test.YtiplbpapgaoaoaaTransfers
import Derived.Test.YtiplbpapgaoaoaaOpen
namespace Go.Proofs.Ytiplbpapgaoaoaa
open Go.ChangeShapes Go.WideShapes Go.ChangeAt Go.RowKit Go.Deep Enc
open Go.ChangeMaps (open_string shut_string)
set_option linter.unusedVariables false
set_option linter.unusedSimpArgs false
set_option maxHeartbeats 8000000 in
theorem c_laws_FnExactTransfersOf (v0 : Value) (xs0 : List Transfer) (a1 : ByteArray) (w : World) (hv0 : Rd w v0 xs0) (hx0 : ∀ x ∈ xs0, Ms.ok x) (hs1 : a1.size ≤ maxLen) :
    Calls Try.prog 6 #[v0, .string a1] w fun e w' => e = .returned (.bool true) ∧ Below w.heap.size w w' := by
  unfold maxLen at hs1
  go_enter Try.func6, Try.ntmps6
  by_cases hS1 : (1048576 : Int) < a1.size
  · go_wp2_with fail
    go_ret
    exact ⟨rfl, below_rf _⟩
  go_wp2_with fail
  refine (c_laws_szTransferS v0 xs0 _ w hv0 (by omega) (by omega) hx0).mono ?_
  rintro e w1 ⟨r0, rfl, hr01, hr02, hr03, hb1⟩
  have B1 := hb1
  by_cases hr0 : r0 < 0
  · go_wp2_with fail
    go_ret
    exact ⟨rfl, B1⟩
  have hm0 : xs0.length ≤ 1048576 := by have := hr03 (by omega); omega
  have hq0 : msL xs0 ≤ 1048576 := by have := hr03 (by omega); omega
  have hly : (toL xs0 a1).length ≤ 1048576 := Nat.le_trans (toL_len _ _) hm0
  go_wp2_with fail
  refine (c_laws_toTransferS v0 xs0 _ (hv0.below B1) hm0).mono ?_
  rintro e w2 ⟨s0, rfl, ho_s0, hb2⟩
  have B2 := below_tr B1 hb2
  have o2_s0 := ho_s0
  go_wp2_with fail
  refine (c_spec_TransfersOf s0 xs0 a1 _ o2_s0.rd hx0 hm0 hs1).mono ?_
  rintro e w3 ⟨u0, rfl, ho_u0, hb3⟩
  have o3_s0 := o2_s0.below hb3
  have B3 := below_tr B2 hb3
  have ap_s0_u0 := Ow.apart o2_s0 ho_u0 (Nat.le_refl _)
  have o3_u0 := ho_u0
  go_wp2_with fail
  refine (c_laws_toTransferS v0 xs0 _ (hv0.below B3) hm0).mono ?_
  rintro e w4 ⟨x0, rfl, ho_x0, hb4⟩
  have o4_s0 := o3_s0.below hb4
  have o4_u0 := o3_u0.below hb4
  have B4 := below_tr B3 hb4
  have ap_s0_x0 := Ow.apart o3_s0 ho_x0 (Nat.le_refl _)
  have ap_u0_x0 := Ow.apart o3_u0 ho_x0 (Nat.le_refl _)
  have o4_x0 := ho_x0
  go_wp2_with fail
  refine (c_impl_TransfersOf x0 xs0 a1 _ o4_x0.rd hx0 hm0 hs1).mono ?_
  rintro e w5 ⟨g0, rfl, ho_g0, hb5⟩
  have o5_s0 := o4_s0.below hb5
  have o5_u0 := o4_u0.below hb5
  have o5_x0 := o4_x0.below hb5
  have B5 := below_tr B4 hb5
  have ap_s0_g0 := Ow.apart o4_s0 ho_g0 (Nat.le_refl _)
  have ap_u0_g0 := Ow.apart o4_u0 ho_g0 (Nat.le_refl _)
  have ap_x0_g0 := Ow.apart o4_x0 ho_g0 (Nat.le_refl _)
  have o5_g0 := ho_g0
  go_wp2_with fail
  refine (c_laws_eqInt64S g0 u0 _ _ _ o5_g0.rd o5_u0.rd).mono ?_
  rintro e w6 ⟨rfl, hb6⟩
  have o6_s0 := o5_s0.below hb6
  have o6_u0 := o5_u0.below hb6
  have o6_x0 := o5_x0.below hb6
  have o6_g0 := o5_g0.below hb6
  have B6 := below_tr B5 hb6
  go_wp2_with fail
  refine (c_laws_toTransferS v0 xs0 _ (hv0.below B6) hm0).mono ?_
  rintro e w7 ⟨y0, rfl, ho_y0, hb7⟩
  have o7_s0 := o6_s0.below hb7
  have o7_u0 := o6_u0.below hb7
  have o7_x0 := o6_x0.below hb7
  have o7_g0 := o6_g0.below hb7
  have B7 := below_tr B6 hb7
  have ap_s0_y0 := Ow.apart o6_s0 ho_y0 (Nat.le_refl _)
  have ap_u0_y0 := Ow.apart o6_u0 ho_y0 (Nat.le_refl _)
  have ap_x0_y0 := Ow.apart o6_x0 ho_y0 (Nat.le_refl _)
  have ap_g0_y0 := Ow.apart o6_g0 ho_y0 (Nat.le_refl _)
  have o7_y0 := ho_y0
  go_wp2_with fail
  refine (c_laws_eqTransferS x0 y0 xs0 xs0 _ o7_x0.rd o7_y0.rd).mono ?_
  rintro e w8 ⟨rfl, hb8⟩
  have o8_s0 := o7_s0.below hb8
  have o8_u0 := o7_u0.below hb8
  have o8_x0 := o7_x0.below hb8
  have o8_g0 := o7_g0.below hb8
  have o8_y0 := o7_y0.below hb8
  have B8 := below_tr B7 hb8
  have hlo_x0 : w.heap.size ≤ _ := B3.size
  go_wp2_with fail
  refine (c_laws_markTransferS x0 _ _ 1 _ o8_x0 (by omega) (by omega) (by omega)).mono ?_
  rintro e w9 ⟨rfl, hm_x0, hg9⟩
  have o9_u0 := o8_u0.kept hg9 ap_u0_x0.1
  have o9_g0 := o8_g0.kept hg9 ap_x0_g0.2
  have o9_x0 := hm_x0
  have B9 : Below w.heap.size w w9 := B8.grown hg9 B8.size (fun b hb => Nat.le_trans (by have h0 := hlo_x0; omega) (o8_x0.base b hb))
  go_wp2_with fail
  refine (c_laws_eqInt64S g0 u0 _ _ _ o9_g0.rd o9_u0.rd).mono ?_
  rintro e w10 ⟨rfl, hb10⟩
  have o10_u0 := o9_u0.below hb10
  have o10_x0 := o9_x0.below hb10
  have o10_g0 := o9_g0.below hb10
  have B10 := below_tr B9 hb10
  have hlo_g0 : w.heap.size ≤ _ := B4.size
  go_wp2_with fail
  refine (c_laws_markInt64S g0 _ _ 1 _ o10_g0 (by omega) (by omega) (by omega)).mono ?_
  rintro e w11 ⟨rfl, hm_g0, hg11⟩
  have o11_u0 := o10_u0.kept hg11 ap_u0_g0.1
  have o11_x0 := o10_x0.kept hg11 ap_x0_g0.1
  have o11_g0 := hm_g0
  have B11 : Below w.heap.size w w11 := B10.grown hg11 B10.size (fun b hb => Nat.le_trans (by have h0 := hlo_g0; omega) (o10_g0.base b hb))
  go_wp2_with fail
  refine (c_laws_heldInt64S g0 _ 1 _ o11_g0.rd (by omega) (by omega) (by omega)).mono ?_
  rintro e w12 ⟨rfl, hb12⟩
  have o12_u0 := o11_u0.below hb12
  have o12_x0 := o11_x0.below hb12
  have o12_g0 := o11_g0.below hb12
  have B12 := below_tr B11 hb12
  go_wp2_with fail
  refine (c_laws_toTransferS v0 xs0 _ (hv0.below B12) hm0).mono ?_
  rintro e w13 ⟨z0, rfl, ho_z0, hb13⟩
  have o13_u0 := o12_u0.below hb13
  have o13_x0 := o12_x0.below hb13
  have o13_g0 := o12_g0.below hb13
  have B13 := below_tr B12 hb13
  have ap_u0_z0 := Ow.apart o12_u0 ho_z0 (Nat.le_refl _)
  have ap_x0_z0 := Ow.apart o12_x0 ho_z0 (Nat.le_refl _)
  have ap_g0_z0 := Ow.apart o12_g0 ho_z0 (Nat.le_refl _)
  have o13_z0 := ho_z0
  go_wp2_with fail
  refine (c_impl_TransfersOf z0 xs0 a1 _ o13_z0.rd hx0 hm0 hs1).mono ?_
  rintro e w14 ⟨h0, rfl, ho_h0, hb14⟩
  have o14_u0 := o13_u0.below hb14
  have o14_x0 := o13_x0.below hb14
  have o14_g0 := o13_g0.below hb14
  have o14_z0 := o13_z0.below hb14
  have B14 := below_tr B13 hb14
  have ap_u0_h0 := Ow.apart o13_u0 ho_h0 (Nat.le_refl _)
  have ap_x0_h0 := Ow.apart o13_x0 ho_h0 (Nat.le_refl _)
  have ap_g0_h0 := Ow.apart o13_g0 ho_h0 (Nat.le_refl _)
  have ap_z0_h0 := Ow.apart o13_z0 ho_h0 (Nat.le_refl _)
  have o14_h0 := ho_h0
  go_wp2_with fail
  refine (c_laws_eqInt64S h0 u0 _ _ _ o14_h0.rd o14_u0.rd).mono ?_
  rintro e w15 ⟨rfl, hb15⟩
  have o15_u0 := o14_u0.below hb15
  have o15_x0 := o14_x0.below hb15
  have o15_g0 := o14_g0.below hb15
  have o15_z0 := o14_z0.below hb15
  have o15_h0 := o14_h0.below hb15
  have B15 := below_tr B14 hb15
  go_wp2_with fail
  refine (c_laws_heldInt64S g0 _ 1 _ o15_g0.rd (by omega) (by omega) (by omega)).mono ?_
  rintro e w16 ⟨rfl, hb16⟩
  have o16_u0 := o15_u0.below hb16
  have o16_x0 := o15_x0.below hb16
  have o16_g0 := o15_g0.below hb16
  have o16_z0 := o15_z0.below hb16
  have o16_h0 := o15_h0.below hb16
  have B16 := below_tr B15 hb16
  go_wp2_with fail
  go_ret
  exact ⟨rfl, B16⟩
namespace fnExactTransfersOf
/-! the row -/
set_option maxRecDepth 100000 in
theorem lifted (os : Os) (started : os.Started) (H : Type) (enc : TypeId × Value → H) :
    ReturnsInHanded {} Try.checked os 6 .any (Rows.fnExactTransfersOfSpec.pre6 enc Try.prog Try.f6 Rows.fnExactTransfersOfRow.domain false) (Rows.fnExactTransfersOfSpec.post enc Try.prog Try.f6 false true false false) := by
  refine returnsInHanded_of_change (C := Try.checked) Try.own started (by kernel_rfl) Try.func6
    (ChangeSpec.witness6 (enc := enc) (C := Try.checked) false ⟨#[], #[.slice none 0 0, .string ⟨#[]⟩], []⟩ 8 (by kernel_rfl) (by kernel_rfl) (by kernel_rfl) (by kernel_rfl)) ?_
  intro W base args ds gs before hval0 hW hcnd _
  have hval : ∀ (j : Nat) t v, Try.f6.params[j]? = some t → args[j]? = some v → Value.okWide Try.prog W .any base t v := hval0
  have hW' := hW
  obtain ⟨p, q, hA0, hV, rfl, hfz, hnd⟩ := hW
  have hA : DataW.TrodAll enc Try.prog W 0 (fun _ => true) true Try.f6.params.toList args.toList ds p := hA0
  rw [Try.params6] at hA hval
  obtain ⟨v0, vs0, d0, ds0, p0, q0, hargs, rfl, rfl, h0, r0⟩ := trodAll_cons hA
  obtain ⟨v1, vs1, d1, ds1, p1, q1, rfl, rfl, rfl, h1, r1⟩ := trodAll_cons r0
  obtain ⟨rfl, rfl, rfl⟩ := trodAll_nil r1
  obtain rfl : args = #[v0, v1] := by cases args; simp_all
  obtain ⟨rfl, rfl⟩ := trodVars_none hV
  obtain ⟨A0, len0, cap0, rfl⟩ := okWide_slice Try.underlying48 (hval 0 48 v0 rfl rfl)
  have k0 := h0
  have lt0 : ∀ x ∈ p0, x.block < W.heap.size := by obtain ⟨m, hm⟩ := k0; exact DataW.trod_lt m _ _ _ hm
  obtain ⟨xs0, hr0, hx0⟩ : ∃ xs : List Transfer, Rd W (.slice A0 len0 cap0) xs ∧ ∀ x ∈ xs, Ms.ok x := by
    obtain ⟨fuel, hf⟩ := h0
    exact rd_of_trod Try.underlying48 (by kernel_rfl) (by decide) (fun _ _ _ h => opn_Transfer h) hf
  obtain ⟨a1, rfl, rfl, rfl, w1⟩ := open_string Try.underlying9 (hval 1 9 v1 rfl rfl) h1
  clear hA0 hval0
  refine (c_laws_FnExactTransfersOf _ xs0 a1 W hr0 hx0 w1).mono fun e W' ⟨he, bel⟩ => ?_
  subst he
  exact ⟨_, rfl, _, _, _, [], _, [], hW', trodAll_mk1 (shut_bool Try.underlying4 _), (trodAll_cons_mk (Below.trod Try.laidOut (by kernel_rfl) (of_decide_eq_true (by kernel_rfl)) k0 bel lt0) (trodAll_cons_mk (shut_string Try.underlying9 w1) trodAll_mk0)), rfl, bel.frame _, fun h => by cases h⟩
theorem over : Rows.fnExactTransfersOfRow.holds Try.pinned (OpenSpec.ofChange Rows.fnExactTransfersOfSpec) :=
  OpenClaim.holds_of_wide 6 Try.f6 rfl rfl rfl rfl rfl rfl rfl ⟨rfl, rfl, rfl, rfl, rfl⟩ rfl rfl rfl rfl rfl (by kernel_rfl) Try.func6 (by kernel_rfl)
    (of_decide_eq_true (by kernel_rfl)) (by unfold Func.isWrapper; first | (rw [if_pos (by decide +kernel)]; kernel_rfl) | (rw [if_neg (by decide +kernel)]; exact ⟨rfl, rfl⟩))
    (fun os started H enc _ => lifted os started H enc)
theorem proved : Rows.FnExactTransfersOfSaid := over
end fnExactTransfersOf
end Go.Proofs.Ytiplbpapgaoaoaa
