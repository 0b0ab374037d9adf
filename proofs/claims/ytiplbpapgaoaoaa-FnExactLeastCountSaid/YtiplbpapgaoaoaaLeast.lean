/- The least count of transfers: the reference's and the program's reckoning over the sets of lines. Conditions: none. -/
import Derived.Test.YtiplbpapgaoaoaaLines
import Derived.StillTailTactics
namespace Go.Proofs.Ytiplbpapgaoaoaa
open Go.RowKit Enc Go.Shelf
set_option linter.unusedVariables false
set_option linter.unusedSimpArgs false
/-- One set: the sum of its numbers, and the most groups. -/
def gIn (ys : List Int) (s : Nat) (gs : List Int) : Nat → Int × List Int
  | 0 => (0, gs)
  | n + 1 => if s / 2 ^ n % 2 = 1 then ((gIn ys s gs n).1 + ys.getD n 0, (gIn ys s gs n).2.set s (max ((gIn ys s gs n).2.getD s 0) ((gIn ys s gs n).2.getD (s - 2 ^ n) 0))) else gIn ys s gs n
def gStep (ys : List Int) (s : Nat) (gs : List Int) : List Int :=
  if (gIn ys s gs ys.length).1 = 0 then (gIn ys s gs ys.length).2.set s ((gIn ys s gs ys.length).2.getD s 0 + 1) else (gIn ys s gs ys.length).2
def gOut (ys : List Int) : Nat → List Int
  | 0 => List.replicate (2 ^ ys.length) 0
  | s + 1 => gStep ys (s + 1) (gOut ys s)
def groups (ys : List Int) : Int := (gOut ys (2 ^ ys.length - 1)).getD (2 ^ ys.length - 1) 0
/-- The counts are small. -/
def gOk (s : Nat) (gs : List Int) : Prop := ∀ j, 0 ≤ gs.getD j 0 ∧ gs.getD j 0 ≤ j ∧ (s ≤ j → gs.getD j 0 ≤ (s : Int) - 1)
theorem getD_set (gs : List Int) (i : Nat) (y : Int) (j : Nat) : (gs.set i y).getD j 0 = if i = j ∧ i < gs.length then y else gs.getD j 0 := by
  simp only [List.getD_eq_getElem?_getD, List.getElem?_set]
  by_cases h : i = j
  · subst h
    by_cases h2 : i < gs.length
    · simp [h2]
    · simp [h2]
  · simp [h]
theorem gIn_len (ys : List Int) (s : Nat) (gs : List Int) : ∀ n, (gIn ys s gs n).2.length = gs.length
  | 0 => rfl
  | n + 1 => by unfold gIn; split <;> simp [gIn_len ys s gs n]
theorem gIn_ok (ys : List Int) (s : Nat) (gs : List Int) (hs : 1 ≤ s) (h : gOk s gs) : ∀ n, gOk s (gIn ys s gs n).2
  | 0 => h
  | n + 1 => by
    have ih := gIn_ok ys s gs hs h n
    unfold gIn
    split
    · intro j
      simp only [getD_set]
      have h1 := ih j
      have h2 := ih s
      have h3 := ih (s - 2 ^ n)
      have hp : 1 ≤ 2 ^ n := Nat.one_le_two_pow
      split
      · rename_i hj
        obtain ⟨rfl, _⟩ := hj
        omega
      · exact h1
    · exact ih
theorem gIn_sum (ys : List Int) (s : Nat) (gs : List Int) (hb : ∀ y ∈ ys, -1000000000000 ≤ y ∧ y ≤ 1000000000000) : ∀ n : Nat, -1000000000000 * (n : Int) ≤ (gIn ys s gs n).1 ∧ (gIn ys s gs n).1 ≤ 1000000000000 * (n : Int)
  | 0 => by simp [gIn]
  | n + 1 => by
    have ih := gIn_sum ys s gs hb n
    have h1 : -1000000000000 ≤ ys.getD n 0 ∧ ys.getD n 0 ≤ 1000000000000 := by
      rw [List.getD_eq_getElem?_getD]
      by_cases h : n < ys.length
      · rw [List.getElem?_eq_getElem h]; exact hb _ (List.getElem_mem h)
      · rw [List.getElem?_eq_none (by omega)]; decide
    unfold gIn
    split
    · simp only; omega
    · omega
theorem gStep_len (ys : List Int) (s : Nat) (gs : List Int) : (gStep ys s gs).length = gs.length := by
  unfold gStep; split <;> simp [gIn_len]
theorem gStep_ok (ys : List Int) (s : Nat) (gs : List Int) (hs : 1 ≤ s) (h : gOk s gs) : gOk (s + 1) (gStep ys s gs) := by
  have ih := gIn_ok ys s gs hs h ys.length
  unfold gStep
  split
  · intro j
    simp only [getD_set]
    have h1 := ih j
    have h2 := ih s
    split
    · rename_i hj
      obtain ⟨rfl, _⟩ := hj
      omega
    · omega
  · intro j
    have h1 := ih j
    omega
theorem gOut_len (ys : List Int) : ∀ n, (gOut ys n).length = 2 ^ ys.length
  | 0 => by simp [gOut]
  | n + 1 => by rw [gOut, gStep_len, gOut_len ys n]
theorem gOut_succ (ys : List Int) (s : Nat) (h : 1 ≤ s) : gOut ys s = gStep ys s (gOut ys (s - 1)) := by
  obtain ⟨m, rfl⟩ : ∃ m, s = m + 1 := ⟨s - 1, by omega⟩
  rfl
theorem gOut_ok (ys : List Int) : ∀ n, gOk (n + 1) (gOut ys n)
  | 0 => by
    intro j
    have : (gOut ys 0).getD j 0 = 0 := by
      simp only [gOut, List.getD_eq_getElem?_getD, List.getElem?_replicate]
      split <;> rfl
    omega
  | n + 1 => gStep_ok ys (n + 1) _ (by omega) (gOut_ok ys n)
theorem Ow.madeI {T lo : Nat} {w : World} {n g : Nat} (h : w.ownsRow lo T 1 (.slice (some ⟨g, 0, none⟩) n n) n (madeCells #[.int .i64 0] n).toList) : Ow T lo w (.slice (some ⟨g, 0, none⟩) n n) (List.replicate n (0 : Int)) := by
  refine Ow.made 0 #[.int .i64 0] rfl (by decide) ?_
  rw [show n * Enc.k Int = n from Nat.mul_one n]
  exact h
theorem Ow.cellI {T lo g N cap : Nat} {w : World} {gs : List Int} (h : Ow T lo w (.slice (some ⟨g, 0, none⟩) N cap) gs) (hl : gs.length = N) (i : Nat) (hi : i < N) : w.cell? ⟨g, i, none⟩ = some (.int .i64 (gs.getD i 0)) := by
  subst hl
  have := h.cell i hi 0 (.int .i64 (gs.getD i 0)) (by simp [Enc.cs, List.getD_eq_getElem?_getD, List.getElem?_eq_getElem hi])
  simpa [Enc.k] using this
theorem Ow.frozenI {T lo g N cap : Nat} {w : World} {gs : List Int} (h : Ow T lo w (.slice (some ⟨g, 0, none⟩) N cap) gs) (hl : gs.length = N) (o : Nat) : w.frozen? ⟨g, o, none⟩ = false := by
  subst hl
  exact h.frozen o
theorem Ow.setI {T lo g N cap : Nat} {w : World} {gs : List Int} (h : Ow T lo w (.slice (some ⟨g, 0, none⟩) N cap) gs) (hl : gs.length = N) (i : Nat) (hi : i < N) (y : Int) :
    Ow T lo (w.setCell ⟨g, i, none⟩ (.int .i64 y)) (.slice (some ⟨g, 0, none⟩) N cap) (gs.set i y) ∧ w.grownBy (w.setCell ⟨g, i, none⟩ (.int .i64 y)) (some g) := by
  subst hl
  have := h.set1 i 0 hi (by decide) y (.int .i64 y) (by simp [Enc.cs])
  simpa [Enc.k] using this
theorem groups_bd (ys : List Int) (h : ys.length ≤ 10) : 0 ≤ groups ys ∧ groups ys ≤ 1024 := by
  have h1 := gOut_ok ys (2 ^ ys.length - 1) (2 ^ ys.length - 1)
  have h2 : 2 ^ ys.length ≤ 2 ^ 10 := Nat.pow_le_pow_right (by decide) h
  unfold groups
  omega
theorem pow_1024 {n : Nat} (h : n ≤ 10) : 2 ^ n ≤ 1024 := by
  have : 2 ^ n ≤ 2 ^ 10 := Nat.pow_le_pow_right (by decide) h
  omega
theorem div_odd {s z : Nat} (h : s / z % 2 = 1) : z ≤ s := by
  by_cases hz : z ≤ s
  · exact hz
  · rw [Nat.div_eq_of_lt (by omega)] at h; omega
set_option maxRecDepth 100000 in
set_option maxHeartbeats 4000000 in
theorem c_spec_l28Groups (v : Value) (ys : List Int) (w : World) (hv : Rd w v ys) (hy : ∀ y ∈ ys, -1000000000000 ≤ y ∧ y ≤ 1000000000000) (hm : ys.length ≤ 10) :
    Calls Try.prog 70 #[v] w fun e w' => e = .returned (.int .i64 (groups ys)) ∧ Below w.heap.size w w' := by
  obtain ⟨A, cap, rfl, hlc, hcap, hrd⟩ := hv
  have HR := Lib.hid hrd; clear hrd
  have HY := Lib.hid hy; clear hy
  obtain ⟨i0, hi, hz0, hz1, hz2⟩ := info_parts info_int64
  go_enter Try.func70, Try.ntmps70
  go_wp2
  go_loop [3, 4] (fun z i => ∃ n : Nat, n ≤ ys.length ∧ i = .int .i64 n ∧ z = .int .i64 (2 ^ n : Nat)) (fun _ i => ys.length - (intOf i).toNat)
  case atStart => exact ⟨0, Nat.zero_le _, rfl, rfl⟩
  case round =>
    obtain ⟨n, hn, rfl, rfl⟩ := hrel
    by_cases hlt : n < ys.length
    · have hp : 2 ^ n ≤ 1024 := pow_1024 (by omega)
      have hp2 : 2 ^ (n + 1) = 2 * 2 ^ n := by rw [Nat.pow_succ, Nat.mul_comm]
      have HP := Lib.hid hp2; clear hp2
      generalize 2 ^ n = z at hp HP
      go_wp2
      go_round
      case rel => exact ⟨n + 1, by omega, by go_num, by rw [HP.out]; go_num⟩
      case measure => simp [intOf]; omega
    · obtain rfl : n = ys.length := by omega
      have hp : 2 ^ ys.length ≤ 1024 := pow_1024 (by omega)
      have hp0 : 1 ≤ 2 ^ ys.length := Nat.one_le_two_pow
      have HO0 := gOut_len ys
      have HG : groups ys = (gOut ys (2 ^ ys.length - 1)).getD (2 ^ ys.length - 1) 0 := rfl
      have HZ : gOut ys 0 = List.replicate (2 ^ ys.length) 0 := rfl
      generalize 2 ^ ys.length = N at *
      have HLN := Lib.hid HO0; clear HO0
      have HGR := Lib.hid HG; clear HG
      go_wp2_with (at_make; refine wpList_make_full _ rfl _ _ _ rfl w.heap.size 2 i0 _ 1 Try.underlying38 hi hz0 hz1 _ _ _ _ N rfl rfl rfl rfl (by rw [hz2]; omega) (by unfold maxLen; omega) (Nat.le_refl _) ?_)
      intro w1 hown hgr
      have HO := Ow.madeI hown
      have hgs : w.heap.size < w1.heap.size := (HO.lt _ rfl).2
      clear hown
      have hb1 : Below w.heap.size w w1 := (below_rf w).grown hgr (Nat.le_refl _) (by intro _ h; cases h)
      clear hgr
      rw [← HZ] at HO
      clear HZ
      go_wp2
      go_loopw [6] (fun i wr => ∃ s : Nat, 1 ≤ s ∧ s ≤ N ∧ i = .int .i64 s ∧ Hid (Ow 2 w.heap.size wr (.slice (some ⟨w.heap.size, 0, none⟩) N N) (gOut ys (s - 1))) ∧ Below w.heap.size w wr) (fun i _ => N - (intOf i).toNat)
      case atStart => exact ⟨1, by omega, by omega, rfl, HO, hb1⟩
      case round =>
        obtain ⟨s, hs1, hs, rfl, HW, hb⟩ := hrel
        by_cases hls : s < N
        · have HS := Lib.hid (gOut_succ ys s hs1)
          have hok := gOut_ok ys (s - 1)
          rw [Nat.sub_add_cancel hs1] at hok
          have HK := Lib.hid hok; clear hok
          have HL0 := Lib.hid (HLN.out (s - 1))
          generalize gOut ys (s - 1) = gs at *
          go_wp2
          go_loopw [7, 8, 9] (fun t i b wr => ∃ n : Nat, n ≤ ys.length ∧ t = .int .i64 (gIn ys s gs n).1 ∧ i = .int .i64 n ∧ b = .int .i64 (2 ^ n : Nat) ∧ Hid (Ow 2 w.heap.size wr (.slice (some ⟨w.heap.size, 0, none⟩) N N) (gIn ys s gs n).2) ∧ Below w.heap.size w wr) (fun _ i _ _ => ys.length - (intOf i).toNat)
          case atStart => exact ⟨0, Nat.zero_le _, rfl, rfl, rfl, HW, hb⟩
          case round =>
            obtain ⟨n, hn, rfl, rfl, rfl, HI, hb2⟩ := hrel
            by_cases hlt : n < ys.length
            · obtain ⟨b, off, rfl, hbl, hc⟩ := HR.out (by omega)
              have c0 := (hb2.cell hbl).trans (hc n hlt 0 _ rfl)
              simp only [Nat.add_zero, Enc.k, Nat.mul_one] at c0
              clear hc
              have hz1 : 1 ≤ 2 ^ n := Nat.one_le_two_pow
              have hz2 : 2 ^ n ≤ 1024 := pow_1024 (by omega)
              have hp2 : 2 ^ (n + 1) = 2 * 2 ^ n := by rw [Nat.pow_succ, Nat.mul_comm]
              have HP := Lib.hid hp2; clear hp2
              have hgz : gIn ys s gs (n + 1) = if s / 2 ^ n % 2 = 1 then ((gIn ys s gs n).1 + ys.getD n 0, (gIn ys s gs n).2.set s (max ((gIn ys s gs n).2.getD s 0) ((gIn ys s gs n).2.getD (s - 2 ^ n) 0))) else gIn ys s gs n := rfl
              have HZ := Lib.hid hgz; clear hgz
              generalize 2 ^ n = z at *
              have hq0 : (0:Int) ≤ (s:Int) / (z:Int) := Int.natCast_nonneg (s / z)
              have hq1 : (s:Int) / (z:Int) ≤ 1024 := by have h := Nat.div_le_self s z; have h2 : ((s / z : Nat) : Int) ≤ 1024 := by omega
                                                        simpa using h2
              by_cases hbit : s / z % 2 = 1
              · have hb1 : ((s:Int) / (z:Int) % 2 == 1) = true := by rw [beq_iff_eq]; have : ((s / z % 2 : Nat) : Int) = 1 := by rw [hbit]; rfl
                                                                     simpa using this
                rw [if_pos hbit] at HZ
                have hzs := div_odd hbit
                have hS := gIn_sum ys s gs HY.out n
                have hE := HY.out _ (List.getElem_mem hlt)
                obtain ⟨hS1, hS2⟩ := hS
                obtain ⟨hE1, hE2⟩ := hE
                have hgl : (gIn ys s gs n).2.length = N := by rw [gIn_len]; exact HL0.out
                have d0 := HI.out.cellI hgl s hls
                have d1 := HI.out.cellI hgl (s - z) (by omega)
                have fz := HI.out.frozenI hgl s
                have hgd : ys.getD n 0 = ys[n] := by rw [List.getD_eq_getElem?_getD, List.getElem?_eq_getElem hlt]; rfl
                rw [hgd] at HZ
                have HG2 := Lib.hid hgl; clear hgl hgd
                have jw : IntKind.i64.wrap ((s:Int) - (z:Int)) = (s:Int) - z := IntWalk.i64_in _ (by omega)
                have jt : ((s:Int) - (z:Int)).toNat = s - z := by omega
                have HB := Lib.hid hbit; clear hbit
                generalize hst : gIn ys s gs n = st at *
                obtain ⟨t, gq⟩ := st
                simp only at hS1 hS2 d0 d1 HZ HI HG2 fz
                have HT := Lib.hid hst; clear hst
                have i0 : (0:Int) ≤ s := by omega
                have i1 : (s:Int) < (N:Int) := by omega
                have j0 : (0:Int) ≤ (s:Int) - z := by omega
                have j1 : (s:Int) - z < (N:Int) := by omega
                go_wp2
                go_still_tail 14, (by kernel_rfl)
                change wpList _ _ _ _ _ wr.drew
                have HI2 := Lib.hid (show Ow 2 w.heap.size wr.drew (.slice (some ⟨w.heap.size, 0, none⟩) N N) gq from HI.out.below (below_rf wr).drew)
                have fz2 := HI2.out.frozenI HG2.out s
                obtain ⟨u2, hd2⟩ : ∃ u, wr.drew.cell? ⟨w.heap.size, s, none⟩ = some u := ⟨_, HI2.out.cellI HG2.out s hls⟩
                have hb3 : Below w.heap.size w wr.drew := hb2.drew
                clear d0 d1 fz jw jt c0
                generalize wr.drew = w2 at *
                go_wp2
                go_roundw
                case rel =>
                  have H := HI2.out.setI HG2.out s hls (max (gq.getD s 0) (gq.getD (s - z) 0))
                  have hz := HZ.out
                  simp only [List.getD_eq_getElem?_getD] at H hz
                  refine ⟨n + 1, by omega, by rw [hz], by go_num, by rw [HP.out]; go_num, ?_, hb3.grown H.2 hb3.size (by intro b h; cases h; exact Nat.le_refl _)⟩
                  unfold Hid; rw [hz]; exact H.1
                case measure => simp [intOf]; omega
              · have hb1 : ((s:Int) / (z:Int) % 2 == 1) = false := by
                  rw [beq_eq_false_iff_ne]; intro h; apply hbit
                  have h2 : ((s / z % 2 : Nat) : Int) = 1 := by simpa using h
                  omega
                rw [if_neg hbit] at HZ
                clear hbit
                go_wp2
                go_roundw
                case rel => exact ⟨n + 1, by omega, by rw [HZ.out], by go_num, by rw [HP.out]; go_num, by rw [HZ.out]; exact HI, hb2⟩
                case measure => simp [intOf]; omega
            · obtain rfl : n = ys.length := by omega
              have hgl : (gIn ys s gs ys.length).2.length = N := by rw [gIn_len]; exact HL0.out
              have hok := gIn_ok ys s gs hs1 HK.out ys.length s
              have d0 := HI.out.cellI hgl s hls
              have fz := HI.out.frozenI hgl s
              have HE := Lib.hid hgl; clear hgl
              have hst : gStep ys s gs = if (gIn ys s gs ys.length).1 = 0 then (gIn ys s gs ys.length).2.set s ((gIn ys s gs ys.length).2.getD s 0 + 1) else (gIn ys s gs ys.length).2 := rfl
              have hs' := HS.out
              rw [hst] at hs'
              clear hst
              generalize gIn ys s gs ys.length = st at *
              obtain ⟨t, gq⟩ := st
              simp only at hs' hok d0 HI HE fz
              obtain ⟨ho1, ho2, ho3⟩ := hok
              have ho4 := ho3 (Nat.le_refl _)
              clear ho3
              have i0 : (0:Int) ≤ s := by omega
              have i1 : (s:Int) < (N:Int) := by omega
              by_cases h0 : t = 0
              · rw [if_pos h0] at hs'
                have HQ := Lib.hid hs'; clear hs'
                obtain rfl := h0
                simp only [List.getD_eq_getElem?_getD] at ho1 ho2 ho4 d0
                go_wp2
                go_roundw
                case rel =>
                  have H := HI.out.setI HE.out s hls (gq.getD s 0 + 1)
                  refine ⟨s + 1, by omega, by omega, by go_num, ?_, hb2.grown (by simpa [List.getD_eq_getElem?_getD] using H.2) hb2.size (by intro b h; cases h; exact Nat.le_refl _)⟩
                  unfold Hid; rw [Nat.add_sub_cancel, HQ.out]; simpa [List.getD_eq_getElem?_getD] using H.1
                case measure => simp [intOf]; omega
              · rw [if_neg h0] at hs'
                have HQ := Lib.hid hs'; clear hs'
                have h1 : (t == 0) = false := by simpa using h0
                go_wp2
                go_roundw
                case rel => exact ⟨s + 1, by omega, by omega, by go_num, by unfold Hid; rw [Nat.add_sub_cancel, HQ.out]; exact HI.out, hb2⟩
                case measure => simp [intOf]; omega
        · obtain rfl : s = N := by omega
          have c0 := HW.out.cellI (HLN.out _) (s - 1) (by omega)
          have jw : IntKind.i64.wrap ((s:Int) - 1) = (s:Int) - 1 := IntWalk.i64_in _ (by omega)
          have jt : ((s:Int) - 1).toNat = s - 1 := by omega
          go_wp2
          go_ret
          exact ⟨ret_int HGR.out.symm, hb⟩
end Go.Proofs.Ytiplbpapgaoaoaa
