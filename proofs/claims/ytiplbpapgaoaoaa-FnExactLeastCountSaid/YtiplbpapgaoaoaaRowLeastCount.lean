/- FnExactLeastCount: for every list of lines the program's LeastCount and the reference's return the same, and the list stays as it was. Conditions: none. -/
import Derived.Test.YtiplbpapgaoaoaaLawSz
import Derived.Test.YtiplbpapgaoaoaaLawTo
import Derived.Test.YtiplbpapgaoaoaaLawMk
import Derived.Test.YtiplbpapgaoaoaaLeast3
import Derived.Test.YtiplbpapgaoaoaaOpen
namespace Go.Proofs.Ytiplbpapgaoaoaa
open Go.ChangeShapes Go.WideShapes Go.ChangeAt Go.RowKit Go.Deep Enc
open Go.ChangeMaps (open_string shut_string)
set_option linter.unusedVariables false
set_option linter.unusedSimpArgs false
set_option maxHeartbeats 8000000 in
theorem c_laws_FnExactLeastCount (v0 : Value) (xs0 : List Line) (w : World) (hv0 : Rd w v0 xs0) (hx0 : ∀ x ∈ xs0, Ms.ok x) :
    Calls Try.prog 7 #[v0] w fun e w' => e = .returned (.bool true) ∧ Below w.heap.size w w' := by
  go_enter Try.func7, Try.ntmps7
  go_wp2_with fail
  refine (c_laws_szLineS v0 xs0 _ w hv0 (by omega) (by omega) hx0).mono ?_
  rintro e w1 ⟨r0, rfl, hr01, hr02, hr03, hb1⟩
  have B1 := hb1
  by_cases hr0 : r0 < 0
  · go_wp2_with fail
    go_ret
    exact ⟨rfl, B1⟩
  have hm0 : xs0.length ≤ 1048576 := by have := hr03 (by omega); omega
  have hq0 : msL xs0 ≤ 1048576 := by have := hr03 (by omega); omega
  go_wp2_with fail
  refine (c_laws_toLineS v0 xs0 _ (hv0.below B1) hm0).mono ?_
  rintro e w2 ⟨s0, rfl, ho_s0, hb2⟩
  have B2 := below_tr B1 hb2
  have o2_s0 := ho_s0
  go_wp2_with fail
  refine (c_spec_LeastCount s0 xs0 _ o2_s0.rd hx0 hm0).mono ?_
  rintro e w3 ⟨rfl, hb3⟩
  have o3_s0 := o2_s0.below hb3
  have B3 := below_tr B2 hb3
  go_wp2_with fail
  refine (c_laws_toLineS v0 xs0 _ (hv0.below B3) hm0).mono ?_
  rintro e w4 ⟨x0, rfl, ho_x0, hb4⟩
  have o4_s0 := o3_s0.below hb4
  have B4 := below_tr B3 hb4
  have ap_s0_x0 := Ow.apart o3_s0 ho_x0 (Nat.le_refl _)
  have o4_x0 := ho_x0
  go_wp2_with fail
  refine (c_impl_LeastCount x0 xs0 _ o4_x0.rd hx0 hm0).mono ?_
  rintro e w5 ⟨rfl, hb5⟩
  have o5_s0 := o4_s0.below hb5
  have o5_x0 := o4_x0.below hb5
  have B5 := below_tr B4 hb5
  go_wp2_with fail
  refine (c_laws_toLineS v0 xs0 _ (hv0.below B5) hm0).mono ?_
  rintro e w6 ⟨y0, rfl, ho_y0, hb6⟩
  have o6_s0 := o5_s0.below hb6
  have o6_x0 := o5_x0.below hb6
  have B6 := below_tr B5 hb6
  have ap_s0_y0 := Ow.apart o5_s0 ho_y0 (Nat.le_refl _)
  have ap_x0_y0 := Ow.apart o5_x0 ho_y0 (Nat.le_refl _)
  have o6_y0 := ho_y0
  go_wp2_with fail
  refine (c_laws_eqLineS x0 y0 xs0 xs0 _ o6_x0.rd o6_y0.rd).mono ?_
  rintro e w7 ⟨rfl, hb7⟩
  have o7_s0 := o6_s0.below hb7
  have o7_x0 := o6_x0.below hb7
  have o7_y0 := o6_y0.below hb7
  have B7 := below_tr B6 hb7
  go_wp2_with fail
  go_ret
  exact ⟨rfl, B7⟩
namespace fnExactLeastCount
/-! the row -/
set_option maxRecDepth 100000 in
theorem lifted (os : Os) (started : os.Started) (H : Type) (enc : TypeId × Value → H) :
    ReturnsInHanded {} Try.checked os 7 .any (Rows.fnExactLeastCountSpec.pre6 enc Try.prog Try.f7 Rows.fnExactLeastCountRow.domain false) (Rows.fnExactLeastCountSpec.post enc Try.prog Try.f7 false true false false) := by
  refine returnsInHanded_of_change (C := Try.checked) Try.own started (by kernel_rfl) Try.func7
    (ChangeSpec.witness6 (enc := enc) (C := Try.checked) false ⟨#[], #[.slice none 0 0], []⟩ 8 (by kernel_rfl) (by kernel_rfl) (by kernel_rfl) (by kernel_rfl)) ?_
  intro W base args ds gs before hval0 hW hcnd _
  have hval : ∀ (j : Nat) t v, Try.f7.params[j]? = some t → args[j]? = some v → Value.okWide Try.prog W .any base t v := hval0
  have hW' := hW
  obtain ⟨p, q, hA0, hV, rfl, hfz, hnd⟩ := hW
  have hA : DataW.TrodAll enc Try.prog W 0 (fun _ => true) true Try.f7.params.toList args.toList ds p := hA0
  rw [Try.params7] at hA hval
  obtain ⟨v0, vs0, d0, ds0, p0, q0, hargs, rfl, rfl, h0, r0⟩ := trodAll_cons hA
  obtain ⟨rfl, rfl, rfl⟩ := trodAll_nil r0
  obtain rfl : args = #[v0] := by cases args; simp_all
  obtain ⟨rfl, rfl⟩ := trodVars_none hV
  obtain ⟨A0, len0, cap0, rfl⟩ := okWide_slice Try.underlying22 (hval 0 22 v0 rfl rfl)
  have k0 := h0
  have lt0 : ∀ x ∈ p0, x.block < W.heap.size := by obtain ⟨m, hm⟩ := k0; exact DataW.trod_lt m _ _ _ hm
  obtain ⟨xs0, hr0, hx0⟩ : ∃ xs : List Line, Rd W (.slice A0 len0 cap0) xs ∧ ∀ x ∈ xs, Ms.ok x := by
    obtain ⟨fuel, hf⟩ := h0
    exact rd_of_trod Try.underlying22 (by kernel_rfl) (by decide) (fun _ _ _ h => opn_Line h) hf
  clear hA0 hval0
  refine (c_laws_FnExactLeastCount _ xs0 W hr0 hx0).mono fun e W' ⟨he, bel⟩ => ?_
  subst he
  exact ⟨_, rfl, _, _, _, [], _, [], hW', trodAll_mk1 (shut_bool Try.underlying4 _), (trodAll_cons_mk (Below.trod Try.laidOut (by kernel_rfl) (of_decide_eq_true (by kernel_rfl)) k0 bel lt0) trodAll_mk0), rfl, bel.frame _, fun h => by cases h⟩
theorem over : Rows.fnExactLeastCountRow.holds Try.pinned (OpenSpec.ofChange Rows.fnExactLeastCountSpec) :=
  OpenClaim.holds_of_wide 7 Try.f7 rfl rfl rfl rfl rfl rfl rfl ⟨rfl, rfl, rfl, rfl, rfl⟩ rfl rfl rfl rfl rfl (by kernel_rfl) Try.func7 (by kernel_rfl)
    (of_decide_eq_true (by kernel_rfl)) (by unfold Func.isWrapper; first | (rw [if_pos (by decide +kernel)]; kernel_rfl) | (rw [if_neg (by decide +kernel)]; exact ⟨rfl, rfl⟩))
    (fun os started H enc _ => lifted os started H enc)
theorem proved : Rows.FnExactLeastCountSaid := over
end fnExactLeastCount
end Go.Proofs.Ytiplbpapgaoaoaa
