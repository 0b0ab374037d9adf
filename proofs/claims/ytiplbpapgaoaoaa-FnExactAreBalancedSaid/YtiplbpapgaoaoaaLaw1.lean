/- The law FnExactAreBalanced, walked. Conditions: none. -/
import Derived.Test.YtiplbpapgaoaoaaLawSz
import Derived.Test.YtiplbpapgaoaoaaLawTo
import Derived.Test.YtiplbpapgaoaoaaLines
namespace Go.Proofs.Ytiplbpapgaoaoaa
open Go.RowKit Enc
set_option linter.unusedVariables false
set_option linter.unusedSimpArgs false
set_option maxHeartbeats 4000000 in
theorem c_laws_FnExactAreBalanced (v : Value) (xs : List Line) (w : World) (hv : Rd w v xs) (hx : ∀ x ∈ xs, Ms.ok x) :
    Calls Try.prog 3 #[v] w fun e w' => e = .returned (.bool true) ∧ Below w.heap.size w w' := by
  go_enter Try.func3, Try.ntmps3
  go_wp2_with fail
  refine (c_laws_szLineS v xs _ w hv (by omega) (by omega) hx).mono ?_
  rintro e w1 ⟨r, rfl, hr1, hr2, hr3, hb1⟩
  by_cases hr : r < 0
  · go_wp2_with fail
    go_ret
    exact ⟨rfl, hb1⟩
  have hm : xs.length ≤ 1048576 := by have := hr3 (by omega); omega
  clear hr1 hr2 hr3
  go_wp2_with fail
  refine (c_laws_toLineS v xs _ (hv.below hb1) hm).mono ?_
  rintro e w2 ⟨v2, rfl, ho2, hb2⟩
  go_wp2_with fail
  refine (c_spec_AreBalanced v2 xs _ ho2.rd hx hm).mono ?_
  rintro e w3 ⟨rfl, hb3⟩
  have B3 := below_tr hb1 (below_tr hb2 hb3)
  go_wp2_with fail
  refine (c_laws_toLineS v xs _ (hv.below B3) hm).mono ?_
  rintro e w4 ⟨v4, rfl, ho4, hb4⟩
  go_wp2_with fail
  refine (c_impl_AreBalanced v4 xs _ ho4.rd hx hm).mono ?_
  rintro e w5 ⟨rfl, hb5⟩
  have B5 := below_tr B3 (below_tr hb4 hb5)
  go_wp2_with fail
  refine (c_laws_toLineS v xs _ (hv.below B5) hm).mono ?_
  rintro e w6 ⟨v6, rfl, ho6, hb6⟩
  go_wp2_with fail
  refine (c_laws_eqLineS v4 v6 xs xs _ (ho4.rd.below (below_tr hb5 hb6)) ho6.rd).mono ?_
  rintro e w7 ⟨rfl, hb7⟩
  go_wp2_with fail
  go_ret
  exact ⟨rfl, below_tr B5 (below_tr hb6 hb7)⟩
end Go.Proofs.Ytiplbpapgaoaoaa
