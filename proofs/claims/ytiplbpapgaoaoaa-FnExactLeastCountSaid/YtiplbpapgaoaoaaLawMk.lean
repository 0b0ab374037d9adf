/- The laws' functions that mark memory and ask for the marks. Conditions: none. -/
import Derived.Test.YtiplbpapgaoaoaaTypes
namespace Go.Proofs.Ytiplbpapgaoaoaa
open Go.RowKit Enc
set_option linter.unusedVariables false
set_option linter.unusedSimpArgs false
/-- The digits of a number. -/
def digs : Nat → Nat → List UInt8
  | 0, _ => []
  | f + 1, n => if n = 0 then [] else digs f (n / 10) ++ [UInt8.ofNat (48 + n % 10)]
def mtext (k : Int) : ByteArray := ⟨((109 : UInt8) :: digs k.toNat k.toNat).toArray⟩
theorem digs_fuel : ∀ (f g n : Nat), n ≤ f → n ≤ g → digs f n = digs g n
  | 0, 0, _, _, _ => rfl
  | 0, g + 1, n, h, _ => by have : n = 0 := by omega
                            subst this; simp [digs]
  | f + 1, 0, n, _, h => by have : n = 0 := by omega
                            subst this; simp [digs]
  | f + 1, g + 1, n, h1, h2 => by
    unfold digs
    split
    · rfl
    · rw [digs_fuel f g (n / 10) (by omega) (by omega)]
theorem digs_step (m : Nat) (h : 0 < m) : digs m m = digs (m / 10) (m / 10) ++ [UInt8.ofNat (48 + m % 10)] := by
  obtain ⟨f, rfl⟩ : ∃ f, m = f + 1 := ⟨m - 1, by omega⟩
  rw [digs_fuel ((f+1)/10) f _ (by omega) (by omega)]
  conv => lhs; unfold digs
  rw [if_neg (by omega)]
set_option maxRecDepth 100000 in
set_option maxHeartbeats 1000000 in
theorem c_laws_markText (n : Int) (w : World) (h1 : 1 ≤ n) (h2 : n ≤ 1000000000) :
    Calls Try.prog 62 #[.int .i64 n] w fun e w' => e = .returned (.string (mtext n)) ∧ Below w.heap.size w w' := by
  have hn0 : decide (n ≤ 0) = false := by simp; omega
  go_enter Try.func62, Try.ntmps62
  go_wp2
  go_loopw [0, 3] (fun a s wr => ∃ (m : Nat) (l : List UInt8), a = .int .i64 m ∧ s = .string ⟨l.toArray⟩ ∧ m ≤ 1000000000 ∧ l.length + m ≤ 1000000000 ∧ Hid (digs n.toNat n.toNat = digs m m ++ l) ∧ Below w.heap.size w wr) (fun a _ _ => (intOf a).toNat)
  case atStart => exact ⟨n.toNat, [], by rw [show ((n.toNat : Nat) : Int) = n by omega], rfl, by omega, by simp; omega, by unfold Hid; simp, below_rf _⟩
  case round =>
    obtain ⟨m, l, rfl, rfl, hm, hl, HS, hb⟩ := hrel
    by_cases h0 : 0 < m
    · have hcv : ∀ dst, Try.prog.underlying dst = some .string → Sem.run Try.prog (convert 120 dst (.slice (some ⟨wr.heap.size, 0, none⟩) 1 1)) (wr.alloc (.cells #[.int .u8 (48 + (m : Int) % 10)] 5)) = _ :=
        run_convert_bytes_arg (P := Try.prog) (wr.alloc (.cells #[.int .u8 (48 + (m : Int) % 10)] 5)) 120 5 Try.underlying120 Try.underlying5 wr.heap.size 0 1 1 [48 + (m : Int) % 10] rfl (fun i hi => by
          obtain rfl : i = 0 := by omega
          simp [go_sem])
      have hcv2 := hcv 9 Try.underlying9
      clear hcv
      have hss : strOfNums [48 + (m : Int) % 10] = ⟨[UInt8.ofNat (48 + m % 10)].toArray⟩ := by
        simp only [strOfNums, List.map_cons, List.map_nil]
        rw [show (48 + (m : Int) % 10).toNat = 48 + m % 10 by omega]
      generalize strOfNums [48 + (m : Int) % 10] = c at hcv2 hss
      have hsz : c.size + l.length ≤ 9223372036854775807 := by rw [hss]; simp only [ByteArray.size, List.size_toArray, List.length_cons, List.length_nil]; omega
      have HC := Lib.hid hss; clear hss
      go_wp2
      go_roundw
      case rel =>
        have hd := digs_step m h0
        exact ⟨m / 10, UInt8.ofNat (48 + m % 10) :: l, by go_num, by rw [HC.out]; rfl, by omega, by simp only [List.length_cons]; omega, by unfold Hid; rw [HS.out, hd]; simp, below_al hb _⟩
      case measure => simp [intOf]; omega
    · obtain rfl : m = 0 := by omega
      go_wp2
      go_ret
      exact ⟨by rw [mtext, HS.out]; simp [digs]; rfl, hb⟩
set_option maxRecDepth 100000 in
set_option maxHeartbeats 2000000 in
theorem c_laws_markInt64S (v : Value) (xs : List Int) (lo : Nat) (q0 : Int) (w : World) (ho : Ow 2 lo w v xs) (h1 : 1 ≤ q0) (h2 : q0 + (xs.length * 1 : Nat) ≤ 1000000000) (hm : xs.length ≤ 1048576) :
    Calls Try.prog 27 #[v, .int .i64 q0] w (MkPost (fun q : Int => q) 1 2 lo v xs.length q0 w) := by
  obtain ⟨A, cap, rfl⟩ := ho.form
  have HO := Lib.hid ho; clear ho
  go_enter Try.func27, Try.ntmps27
  go_wp2
  go_loopw [1, 5] (fun a i wr => ∃ (n : Nat) (q : Int), n ≤ xs.length ∧ i = .int .i64 n ∧ a = .int .i64 q ∧ 1 ≤ q ∧ Hid (q = q0 + (n * 1 : Nat)) ∧ Hid (Ow 2 lo wr (.slice A xs.length cap) (mkS (fun q : Int => q) 1 n q0 ++ xs.drop n)) ∧ Hid (w.grownBy wr (Value.ownBlock (.slice A xs.length cap)))) (fun _ i _ => xs.length - (intOf i).toNat)
  case atStart => exact ⟨0, q0, Nat.zero_le _, rfl, rfl, h1, by unfold Hid; simp, by unfold Hid; simpa [mkS] using HO.out, World.grownBy.refl _ _⟩
  case round =>
    obtain ⟨n, q, hn, rfl, rfl, hq1, HQ, HW, HG⟩ := hrel
    by_cases hlt : n < xs.length
    · have hq2 : q + 1 ≤ 1000000000 := by have := HQ.out; have h3 : n * 1 + 1 ≤ xs.length * 1 := (by omega); omega
      obtain ⟨g, cap2, hA, hlo, hgl⟩ := HO.out.addr (by omega)
      simp only [Value.slice.injEq, true_and] at hA
      obtain ⟨rfl, rfl⟩ := hA
      have hlen : (mkS (fun q : Int => q) 1 n q0 ++ xs.drop n).length = xs.length := by simp [mkS]; omega
      have HL := Lib.hid hlen; clear hlen
      have hg : g < wr.heap.size := Nat.lt_of_lt_of_le hgl HG.out.size
      have OW := Lib.hid (show Ow 2 lo wr (.slice (some ⟨g, 0, none⟩) (mkS (fun q : Int => q) 1 n q0 ++ xs.drop n).length cap) (mkS (fun q : Int => q) 1 n q0 ++ xs.drop n) by rw [HL.out]; exact HW.out)
      have hln : n < (mkS (fun q : Int => q) 1 n q0 ++ xs.drop n).length := by rw [HL.out]; exact hlt
      have HLN := Lib.hid hln; clear hln
      have O0 := Lib.hid (OG.same (show OG w 2 lo g cap wr (mkS (fun q : Int => q) 1 n q0 ++ xs.drop n) from ⟨OW.out, HG.out⟩) n HLN.out)
      obtain ⟨s0, hs0⟩ := OW.out.cellE n HLN.out 0 (by decide)
      have f0 := OW.out.frozen (n * 1)
      simp only [Nat.add_zero, Enc.k, Nat.mul_one] at hs0 f0
      go_wp2
      go_roundw
      case measure => simp [intOf]; omega
      case rel =>
        have hy : ∀ i : Int, i = q → (fun q : Int => q) i = (fun q : Int => q) (q0 + (n * 1 : Nat)) := fun i hi => by rw [hi, HQ.out]
        have P0 := OG.put O0.out HLN.out 0 (by decide) ((fun q : Int => q) q) _ rfl
        have e4 := mk_fill (fun q : Int => q) 1 q0 xs hlt
        rw [← HQ.out] at e4
        have hE : OG w 2 lo g cap _ ((mkS (fun q : Int => q) 1 n q0 ++ xs.drop n).set n ((fun q : Int => q) q)) := P0
        rw [e4] at hE
        simp only [Enc.k, Nat.mul_one, Nat.add_zero] at hE
        have hE1 := hE.1
        rw [show (mkS (fun q : Int => q) 1 (n + 1) q0 ++ xs.drop (n + 1)).length = xs.length from by simp [mkS]; omega] at hE1
        exact ⟨n + 1, q + 1, by omega, by go_num, rfl, by omega, by have := HQ.out; unfold Hid; omega, hE1, hE.2⟩
    · go_wp2
      go_ret
      obtain rfl : n = xs.length := by omega
      have H4 := HW.out
      rw [List.drop_length, List.append_nil] at H4
      exact ⟨by rw [HQ.out]; rfl, H4, HG.out⟩
/-- The marked element. -/
def Line.mk_ (q : Int) : Line := ⟨(mtext (q)), (q + 1)⟩
set_option maxRecDepth 100000 in
set_option maxHeartbeats 2000000 in
theorem c_laws_markLineS (v : Value) (xs : List Line) (lo : Nat) (q0 : Int) (w : World) (ho : Ow 72 lo w v xs) (h1 : 1 ≤ q0) (h2 : q0 + (xs.length * 2 : Nat) ≤ 1000000000) (hm : xs.length ≤ 1048576) :
    Calls Try.prog 44 #[v, .int .i64 q0] w (MkPost Line.mk_ 2 72 lo v xs.length q0 w) := by
  obtain ⟨A, cap, rfl⟩ := ho.form
  have HO := Lib.hid ho; clear ho
  go_enter Try.func44, Try.ntmps44
  go_wp2
  go_loopw [1, 5] (fun a i wr => ∃ (n : Nat) (q : Int), n ≤ xs.length ∧ i = .int .i64 n ∧ a = .int .i64 q ∧ 1 ≤ q ∧ Hid (q = q0 + (n * 2 : Nat)) ∧ Hid (Ow 72 lo wr (.slice A xs.length cap) (mkS Line.mk_ 2 n q0 ++ xs.drop n)) ∧ Hid (w.grownBy wr (Value.ownBlock (.slice A xs.length cap)))) (fun _ i _ => xs.length - (intOf i).toNat)
  case atStart => exact ⟨0, q0, Nat.zero_le _, rfl, rfl, h1, by unfold Hid; simp, by unfold Hid; simpa [mkS] using HO.out, World.grownBy.refl _ _⟩
  case round =>
    obtain ⟨n, q, hn, rfl, rfl, hq1, HQ, HW, HG⟩ := hrel
    by_cases hlt : n < xs.length
    · have hq2 : q + 2 ≤ 1000000000 := by have := HQ.out; have h3 : n * 2 + 2 ≤ xs.length * 2 := (by omega); omega
      obtain ⟨g, cap2, hA, hlo, hgl⟩ := HO.out.addr (by omega)
      simp only [Value.slice.injEq, true_and] at hA
      obtain ⟨rfl, rfl⟩ := hA
      have hlen : (mkS Line.mk_ 2 n q0 ++ xs.drop n).length = xs.length := by simp [mkS]; omega
      have HL := Lib.hid hlen; clear hlen
      have hg : g < wr.heap.size := Nat.lt_of_lt_of_le hgl HG.out.size
      have OW := Lib.hid (show Ow 72 lo wr (.slice (some ⟨g, 0, none⟩) (mkS Line.mk_ 2 n q0 ++ xs.drop n).length cap) (mkS Line.mk_ 2 n q0 ++ xs.drop n) by rw [HL.out]; exact HW.out)
      have hln : n < (mkS Line.mk_ 2 n q0 ++ xs.drop n).length := by rw [HL.out]; exact hlt
      have HLN := Lib.hid hln; clear hln
      have O0 := Lib.hid (OG.same (show OG w 72 lo g cap wr (mkS Line.mk_ 2 n q0 ++ xs.drop n) from ⟨OW.out, HG.out⟩) n HLN.out)
      obtain ⟨s0, hs0⟩ := OW.out.cellE n HLN.out 0 (by decide)
      have f0 := OW.out.frozen (n * 2)
      obtain ⟨s1, hs1⟩ := OW.out.cellE n HLN.out 1 (by decide)
      have f1 := OW.out.frozen (n * 2 + 1)
      simp only [Nat.add_zero, Enc.k] at hs0 hs1
      go_wp2_with fail
      refine (c_laws_markText _ _ (by omega) (by omega)).mono ?_
      rintro e w0 ⟨rfl, hb0⟩
      obtain ⟨hc0, hf0⟩ := bcell hb0
      have hg0 : g < w0.heap.size := Nat.lt_of_lt_of_le (by (try simp); first | assumption | omega) hb0.size
      go_wp2
      go_roundw
      case measure => simp [intOf]; omega
      case rel =>
        have hy : ∀ i : Int, i = q → Line.mk_ i = Line.mk_ (q0 + (n * 2 : Nat)) := fun i hi => by rw [hi, HQ.out]
        have B0 := OG.below O0.out hb0
        have P0 := OG.put B0 HLN.out 0 (by decide) ⟨(Line.mk_ q).party, ((mkS Line.mk_ 2 n q0 ++ xs.drop n)[n]'HLN.out).amount⟩ _ (by simp [Enc.cs, Line.mk_]; rfl)
        have P1 := OG.put P0 HLN.out 1 (by decide) ⟨(Line.mk_ q).party, (Line.mk_ q).amount⟩ _ (by simp [Enc.cs, Line.mk_]; rfl)
        have e4 := mk_fill Line.mk_ 2 q0 xs hlt
        rw [← HQ.out] at e4
        have hE : OG w 72 lo g cap _ ((mkS Line.mk_ 2 n q0 ++ xs.drop n).set n (Line.mk_ q)) := P1
        rw [e4] at hE
        have hE1 := hE.1
        rw [show (mkS Line.mk_ 2 (n + 1) q0 ++ xs.drop (n + 1)).length = xs.length from by simp [mkS]; omega] at hE1
        exact ⟨n + 1, q + 1 + 1, by omega, by go_num, rfl, by omega, by have := HQ.out; unfold Hid; omega, hE1, hE.2⟩
    · go_wp2
      go_ret
      obtain rfl : n = xs.length := by omega
      have H4 := HW.out
      rw [List.drop_length, List.append_nil] at H4
      exact ⟨by rw [HQ.out]; rfl, H4, HG.out⟩
/-- The marked element. -/
def Objection.mk_ (q : Int) : Objection := ⟨(mtext (q)), (q + 1), (q + 1 + 1), (q + 1 + 1 + 1), (q + 1 + 1 + 1 + 1)⟩
set_option maxRecDepth 100000 in
set_option maxHeartbeats 2000000 in
theorem c_laws_markObjectionS (v : Value) (xs : List Objection) (lo : Nat) (q0 : Int) (w : World) (ho : Ow 87 lo w v xs) (h1 : 1 ≤ q0) (h2 : q0 + (xs.length * 5 : Nat) ≤ 1000000000) (hm : xs.length ≤ 1048576) :
    Calls Try.prog 26 #[v, .int .i64 q0] w (MkPost Objection.mk_ 5 87 lo v xs.length q0 w) := by
  obtain ⟨A, cap, rfl⟩ := ho.form
  have HO := Lib.hid ho; clear ho
  go_enter Try.func26, Try.ntmps26
  go_wp2
  go_loopw [1, 5] (fun a i wr => ∃ (n : Nat) (q : Int), n ≤ xs.length ∧ i = .int .i64 n ∧ a = .int .i64 q ∧ 1 ≤ q ∧ Hid (q = q0 + (n * 5 : Nat)) ∧ Hid (Ow 87 lo wr (.slice A xs.length cap) (mkS Objection.mk_ 5 n q0 ++ xs.drop n)) ∧ Hid (w.grownBy wr (Value.ownBlock (.slice A xs.length cap)))) (fun _ i _ => xs.length - (intOf i).toNat)
  case atStart => exact ⟨0, q0, Nat.zero_le _, rfl, rfl, h1, by unfold Hid; simp, by unfold Hid; simpa [mkS] using HO.out, World.grownBy.refl _ _⟩
  case round =>
    obtain ⟨n, q, hn, rfl, rfl, hq1, HQ, HW, HG⟩ := hrel
    by_cases hlt : n < xs.length
    · have hq2 : q + 5 ≤ 1000000000 := by have := HQ.out; have h3 : n * 5 + 5 ≤ xs.length * 5 := (by omega); omega
      obtain ⟨g, cap2, hA, hlo, hgl⟩ := HO.out.addr (by omega)
      simp only [Value.slice.injEq, true_and] at hA
      obtain ⟨rfl, rfl⟩ := hA
      have hlen : (mkS Objection.mk_ 5 n q0 ++ xs.drop n).length = xs.length := by simp [mkS]; omega
      have HL := Lib.hid hlen; clear hlen
      have hg : g < wr.heap.size := Nat.lt_of_lt_of_le hgl HG.out.size
      have OW := Lib.hid (show Ow 87 lo wr (.slice (some ⟨g, 0, none⟩) (mkS Objection.mk_ 5 n q0 ++ xs.drop n).length cap) (mkS Objection.mk_ 5 n q0 ++ xs.drop n) by rw [HL.out]; exact HW.out)
      have hln : n < (mkS Objection.mk_ 5 n q0 ++ xs.drop n).length := by rw [HL.out]; exact hlt
      have HLN := Lib.hid hln; clear hln
      have O0 := Lib.hid (OG.same (show OG w 87 lo g cap wr (mkS Objection.mk_ 5 n q0 ++ xs.drop n) from ⟨OW.out, HG.out⟩) n HLN.out)
      obtain ⟨s0, hs0⟩ := OW.out.cellE n HLN.out 0 (by decide)
      have f0 := OW.out.frozen (n * 5)
      obtain ⟨s1, hs1⟩ := OW.out.cellE n HLN.out 1 (by decide)
      have f1 := OW.out.frozen (n * 5 + 1)
      obtain ⟨s2, hs2⟩ := OW.out.cellE n HLN.out 2 (by decide)
      have f2 := OW.out.frozen (n * 5 + 2)
      obtain ⟨s3, hs3⟩ := OW.out.cellE n HLN.out 3 (by decide)
      have f3 := OW.out.frozen (n * 5 + 3)
      obtain ⟨s4, hs4⟩ := OW.out.cellE n HLN.out 4 (by decide)
      have f4 := OW.out.frozen (n * 5 + 4)
      simp only [Nat.add_zero, Enc.k] at hs0 hs1 hs2 hs3 hs4
      go_wp2_with fail
      refine (c_laws_markText _ _ (by omega) (by omega)).mono ?_
      rintro e w0 ⟨rfl, hb0⟩
      obtain ⟨hc0, hf0⟩ := bcell hb0
      have hg0 : g < w0.heap.size := Nat.lt_of_lt_of_le (by (try simp); first | assumption | omega) hb0.size
      go_wp2
      go_roundw
      case measure => simp [intOf]; omega
      case rel =>
        have hy : ∀ i : Int, i = q → Objection.mk_ i = Objection.mk_ (q0 + (n * 5 : Nat)) := fun i hi => by rw [hi, HQ.out]
        have B0 := OG.below O0.out hb0
        have P0 := OG.put B0 HLN.out 0 (by decide) ⟨(Objection.mk_ q).party, ((mkS Objection.mk_ 5 n q0 ++ xs.drop n)[n]'HLN.out).day, ((mkS Objection.mk_ 5 n q0 ++ xs.drop n)[n]'HLN.out).event, ((mkS Objection.mk_ 5 n q0 ++ xs.drop n)[n]'HLN.out).ground, ((mkS Objection.mk_ 5 n q0 ++ xs.drop n)[n]'HLN.out).value⟩ _ (by simp [Enc.cs, Objection.mk_]; rfl)
        have P1 := OG.put P0 HLN.out 1 (by decide) ⟨(Objection.mk_ q).party, (Objection.mk_ q).day, ((mkS Objection.mk_ 5 n q0 ++ xs.drop n)[n]'HLN.out).event, ((mkS Objection.mk_ 5 n q0 ++ xs.drop n)[n]'HLN.out).ground, ((mkS Objection.mk_ 5 n q0 ++ xs.drop n)[n]'HLN.out).value⟩ _ (by simp [Enc.cs, Objection.mk_]; rfl)
        have P2 := OG.put P1 HLN.out 2 (by decide) ⟨(Objection.mk_ q).party, (Objection.mk_ q).day, (Objection.mk_ q).event, ((mkS Objection.mk_ 5 n q0 ++ xs.drop n)[n]'HLN.out).ground, ((mkS Objection.mk_ 5 n q0 ++ xs.drop n)[n]'HLN.out).value⟩ _ (by simp [Enc.cs, Objection.mk_]; rfl)
        have P3 := OG.put P2 HLN.out 3 (by decide) ⟨(Objection.mk_ q).party, (Objection.mk_ q).day, (Objection.mk_ q).event, (Objection.mk_ q).ground, ((mkS Objection.mk_ 5 n q0 ++ xs.drop n)[n]'HLN.out).value⟩ _ (by simp [Enc.cs, Objection.mk_]; rfl)
        have P4 := OG.put P3 HLN.out 4 (by decide) ⟨(Objection.mk_ q).party, (Objection.mk_ q).day, (Objection.mk_ q).event, (Objection.mk_ q).ground, (Objection.mk_ q).value⟩ _ (by simp [Enc.cs, Objection.mk_]; rfl)
        have e4 := mk_fill Objection.mk_ 5 q0 xs hlt
        rw [← HQ.out] at e4
        have hE : OG w 87 lo g cap _ ((mkS Objection.mk_ 5 n q0 ++ xs.drop n).set n (Objection.mk_ q)) := P4
        rw [e4] at hE
        have hE1 := hE.1
        rw [show (mkS Objection.mk_ 5 (n + 1) q0 ++ xs.drop (n + 1)).length = xs.length from by simp [mkS]; omega] at hE1
        exact ⟨n + 1, q + 1 + 1 + 1 + 1 + 1, by omega, by go_num, rfl, by omega, by have := HQ.out; unfold Hid; omega, hE1, hE.2⟩
    · go_wp2
      go_ret
      obtain rfl : n = xs.length := by omega
      have H4 := HW.out
      rw [List.drop_length, List.append_nil] at H4
      exact ⟨by rw [HQ.out]; rfl, H4, HG.out⟩
/-- The marked element. -/
def Transfer.mk_ (q : Int) : Transfer := ⟨(mtext (q)), (mtext (q + 1)), (q + 1 + 1)⟩
set_option maxRecDepth 100000 in
set_option maxHeartbeats 2000000 in
theorem c_laws_markTransferS (v : Value) (xs : List Transfer) (lo : Nat) (q0 : Int) (w : World) (ho : Ow 97 lo w v xs) (h1 : 1 ≤ q0) (h2 : q0 + (xs.length * 3 : Nat) ≤ 1000000000) (hm : xs.length ≤ 1048576) :
    Calls Try.prog 34 #[v, .int .i64 q0] w (MkPost Transfer.mk_ 3 97 lo v xs.length q0 w) := by
  obtain ⟨A, cap, rfl⟩ := ho.form
  have HO := Lib.hid ho; clear ho
  go_enter Try.func34, Try.ntmps34
  go_wp2
  go_loopw [1, 5] (fun a i wr => ∃ (n : Nat) (q : Int), n ≤ xs.length ∧ i = .int .i64 n ∧ a = .int .i64 q ∧ 1 ≤ q ∧ Hid (q = q0 + (n * 3 : Nat)) ∧ Hid (Ow 97 lo wr (.slice A xs.length cap) (mkS Transfer.mk_ 3 n q0 ++ xs.drop n)) ∧ Hid (w.grownBy wr (Value.ownBlock (.slice A xs.length cap)))) (fun _ i _ => xs.length - (intOf i).toNat)
  case atStart => exact ⟨0, q0, Nat.zero_le _, rfl, rfl, h1, by unfold Hid; simp, by unfold Hid; simpa [mkS] using HO.out, World.grownBy.refl _ _⟩
  case round =>
    obtain ⟨n, q, hn, rfl, rfl, hq1, HQ, HW, HG⟩ := hrel
    by_cases hlt : n < xs.length
    · have hq2 : q + 3 ≤ 1000000000 := by have := HQ.out; have h3 : n * 3 + 3 ≤ xs.length * 3 := (by omega); omega
      obtain ⟨g, cap2, hA, hlo, hgl⟩ := HO.out.addr (by omega)
      simp only [Value.slice.injEq, true_and] at hA
      obtain ⟨rfl, rfl⟩ := hA
      have hlen : (mkS Transfer.mk_ 3 n q0 ++ xs.drop n).length = xs.length := by simp [mkS]; omega
      have HL := Lib.hid hlen; clear hlen
      have hg : g < wr.heap.size := Nat.lt_of_lt_of_le hgl HG.out.size
      have OW := Lib.hid (show Ow 97 lo wr (.slice (some ⟨g, 0, none⟩) (mkS Transfer.mk_ 3 n q0 ++ xs.drop n).length cap) (mkS Transfer.mk_ 3 n q0 ++ xs.drop n) by rw [HL.out]; exact HW.out)
      have hln : n < (mkS Transfer.mk_ 3 n q0 ++ xs.drop n).length := by rw [HL.out]; exact hlt
      have HLN := Lib.hid hln; clear hln
      have O0 := Lib.hid (OG.same (show OG w 97 lo g cap wr (mkS Transfer.mk_ 3 n q0 ++ xs.drop n) from ⟨OW.out, HG.out⟩) n HLN.out)
      obtain ⟨s0, hs0⟩ := OW.out.cellE n HLN.out 0 (by decide)
      have f0 := OW.out.frozen (n * 3)
      obtain ⟨s1, hs1⟩ := OW.out.cellE n HLN.out 1 (by decide)
      have f1 := OW.out.frozen (n * 3 + 1)
      obtain ⟨s2, hs2⟩ := OW.out.cellE n HLN.out 2 (by decide)
      have f2 := OW.out.frozen (n * 3 + 2)
      simp only [Nat.add_zero, Enc.k] at hs0 hs1 hs2
      go_wp2_with fail
      refine (c_laws_markText _ _ (by omega) (by omega)).mono ?_
      rintro e w0 ⟨rfl, hb0⟩
      obtain ⟨hc0, hf0⟩ := bcell hb0
      have hg0 : g < w0.heap.size := Nat.lt_of_lt_of_le (by (try simp); first | assumption | omega) hb0.size
      go_wp2_with fail
      refine (c_laws_markText _ _ (by omega) (by omega)).mono ?_
      rintro e w1 ⟨rfl, hb1⟩
      obtain ⟨hc1, hf1⟩ := bcell hb1
      have hg1 : g < w1.heap.size := Nat.lt_of_lt_of_le (by (try simp); first | assumption | omega) hb1.size
      go_wp2
      go_roundw
      case measure => simp [intOf]; omega
      case rel =>
        have hy : ∀ i : Int, i = q → Transfer.mk_ i = Transfer.mk_ (q0 + (n * 3 : Nat)) := fun i hi => by rw [hi, HQ.out]
        have B0 := OG.below O0.out hb0
        have P0 := OG.put B0 HLN.out 0 (by decide) ⟨(Transfer.mk_ q).frm, ((mkS Transfer.mk_ 3 n q0 ++ xs.drop n)[n]'HLN.out).dst, ((mkS Transfer.mk_ 3 n q0 ++ xs.drop n)[n]'HLN.out).amount⟩ _ (by simp [Enc.cs, Transfer.mk_]; rfl)
        have B1 := OG.below P0 hb1
        have P1 := OG.put B1 HLN.out 1 (by decide) ⟨(Transfer.mk_ q).frm, (Transfer.mk_ q).dst, ((mkS Transfer.mk_ 3 n q0 ++ xs.drop n)[n]'HLN.out).amount⟩ _ (by simp [Enc.cs, Transfer.mk_]; rfl)
        have P2 := OG.put P1 HLN.out 2 (by decide) ⟨(Transfer.mk_ q).frm, (Transfer.mk_ q).dst, (Transfer.mk_ q).amount⟩ _ (by simp [Enc.cs, Transfer.mk_]; rfl)
        have e4 := mk_fill Transfer.mk_ 3 q0 xs hlt
        rw [← HQ.out] at e4
        have hE : OG w 97 lo g cap _ ((mkS Transfer.mk_ 3 n q0 ++ xs.drop n).set n (Transfer.mk_ q)) := P2
        rw [e4] at hE
        have hE1 := hE.1
        rw [show (mkS Transfer.mk_ 3 (n + 1) q0 ++ xs.drop (n + 1)).length = xs.length from by simp [mkS]; omega] at hE1
        exact ⟨n + 1, q + 1 + 1 + 1, by omega, by go_num, rfl, by omega, by have := HQ.out; unfold Hid; omega, hE1, hE.2⟩
    · go_wp2
      go_ret
      obtain rfl : n = xs.length := by omega
      have H4 := HW.out
      rw [List.drop_length, List.append_nil] at H4
      exact ⟨by rw [HQ.out]; rfl, H4, HG.out⟩
set_option maxRecDepth 100000 in
set_option maxHeartbeats 2000000 in
theorem c_laws_heldInt64S (v : Value) (m : Nat) (q0 : Int) (w : World) (hv : Rd w v (mkS (fun q : Int => q) 1 m q0)) (h1 : 1 ≤ q0) (h2 : q0 + (m * 1 : Nat) ≤ 1000000000) (hm : m ≤ 1048576) :
    Calls Try.prog 28 #[v, .int .i64 q0] w fun e w' => e = .returned (.int .i64 (q0 + (m * 1 : Nat))) ∧ Below w.heap.size w w' := by
  generalize hx : mkS (fun q : Int => q) 1 m q0 = xs at hv
  obtain rfl : m = xs.length := by rw [← hx, mkS_len]
  have HX := Lib.hid hx; clear hx
  obtain ⟨A, cap, rfl, hlc, hcap, hrd⟩ := hv
  have HR := Lib.hid hrd; clear hrd
  go_enter Try.func28, Try.ntmps28
  go_wp2
  go_loopw [1, 5] (fun a i wr => ∃ (n : Nat) (q : Int), n ≤ xs.length ∧ i = .int .i64 n ∧ a = .int .i64 q ∧ 1 ≤ q ∧ Hid (q = q0 + (n * 1 : Nat)) ∧ Below w.heap.size w wr) (fun _ i _ => xs.length - (intOf i).toNat)
  case atStart => exact ⟨0, q0, Nat.zero_le _, rfl, rfl, h1, by unfold Hid; simp, below_rf _⟩
  case round =>
    obtain ⟨n, q, hn, rfl, rfl, hq1, HQ, hb⟩ := hrel
    by_cases hlt : n < xs.length
    · have hq2 : q + 1 ≤ 1000000000 := by have := HQ.out; have h3 : n * 1 + 1 ≤ xs.length * 1 := (by omega); omega
      obtain ⟨b, off, rfl, hbl, hc⟩ := HR.out (by omega)
      have i0 : (0:Int) ≤ n := by omega
      have i1 : (n:Int) < (xs.length:Int) := by omega
      have hbr : b < wr.heap.size := Nat.lt_of_lt_of_le hbl hb.size
      have hel : xs[n] = (fun q : Int => q) q := by rw [List.getElem_of_eq HX.out.symm hlt, mkS_get, HQ.out]
      have c0 : wr.cell? ⟨b, off + n * 1, none⟩ = some (.int .i64 (q)) := (hb.cell hbl).trans (hc n hlt 0 _ (by rw [hel]; rfl))
      simp only [Nat.mul_one] at c0
      clear hc hel
      go_wp2
      go_roundw
      case rel => exact ⟨n + 1, q + 1, by omega, by go_num, rfl, by omega, by have := HQ.out; unfold Hid; omega, hb⟩
      case measure => simp [intOf]; omega
    · go_wp2
      go_ret
      obtain rfl : n = xs.length := by omega
      exact ⟨by rw [HQ.out]; rfl, hb⟩
set_option maxRecDepth 100000 in
set_option maxHeartbeats 2000000 in
theorem c_laws_heldTransferS (v : Value) (m : Nat) (q0 : Int) (w : World) (hv : Rd w v (mkS Transfer.mk_ 3 m q0)) (h1 : 1 ≤ q0) (h2 : q0 + (m * 3 : Nat) ≤ 1000000000) (hm : m ≤ 1048576) :
    Calls Try.prog 45 #[v, .int .i64 q0] w fun e w' => e = .returned (.int .i64 (q0 + (m * 3 : Nat))) ∧ Below w.heap.size w w' := by
  generalize hx : mkS Transfer.mk_ 3 m q0 = xs at hv
  obtain rfl : m = xs.length := by rw [← hx, mkS_len]
  have HX := Lib.hid hx; clear hx
  obtain ⟨A, cap, rfl, hlc, hcap, hrd⟩ := hv
  have HR := Lib.hid hrd; clear hrd
  go_enter Try.func45, Try.ntmps45
  go_wp2
  go_loopw [1, 5] (fun a i wr => ∃ (n : Nat) (q : Int), n ≤ xs.length ∧ i = .int .i64 n ∧ a = .int .i64 q ∧ 1 ≤ q ∧ Hid (q = q0 + (n * 3 : Nat)) ∧ Below w.heap.size w wr) (fun _ i _ => xs.length - (intOf i).toNat)
  case atStart => exact ⟨0, q0, Nat.zero_le _, rfl, rfl, h1, by unfold Hid; simp, below_rf _⟩
  case round =>
    obtain ⟨n, q, hn, rfl, rfl, hq1, HQ, hb⟩ := hrel
    by_cases hlt : n < xs.length
    · have hq2 : q + 3 ≤ 1000000000 := by have := HQ.out; have h3 : n * 3 + 3 ≤ xs.length * 3 := (by omega); omega
      obtain ⟨b, off, rfl, hbl, hc⟩ := HR.out (by omega)
      have i0 : (0:Int) ≤ n := by omega
      have i1 : (n:Int) < (xs.length:Int) := by omega
      have hbr : b < wr.heap.size := Nat.lt_of_lt_of_le hbl hb.size
      have hel : xs[n] = Transfer.mk_ q := by rw [List.getElem_of_eq HX.out.symm hlt, mkS_get, HQ.out]
      have c0 : wr.cell? ⟨b, off + n * 3, none⟩ = some (.string (mtext (q))) := (hb.cell hbl).trans (hc n hlt 0 _ (by rw [hel]; rfl))
      have c1 : wr.cell? ⟨b, off + n * 3 + 1, none⟩ = some (.string (mtext (q + 1))) := (hb.cell hbl).trans (hc n hlt 1 _ (by rw [hel]; rfl))
      have c2 : wr.cell? ⟨b, off + n * 3 + 2, none⟩ = some (.int .i64 (q + 1 + 1)) := (hb.cell hbl).trans (hc n hlt 2 _ (by rw [hel]; rfl))
      clear hc hel
      go_wp2
      have C : ∀ p : InW wr, p.v.cell? _ = _ := fun p => (p.h.cell hbr).trans c0
      refine wp_region_in (by kernel_rfl) (by kernel_rfl) ?_
      repeat (go_big_quiet_step ((go_at_call 62; exact in_call (c_laws_markText _ _ (by omega) (by omega)))))
      refine wpQuiet_nil ?_
      rintro v0 ⟨⟨y0, hy0⟩, hw⟩
      obtain rfl : v0 = y0 := hw
      clear C
      have hz0 : b < v0.heap.size := Nat.lt_of_lt_of_le hbr hy0.size
      have d0_1 := (hy0.cell hbr).trans c1
      have d0_2 := (hy0.cell hbr).trans c2
      clear c0 c1 c2
      have c1 := d0_1; clear d0_1
      have c2 := d0_2; clear d0_2
      have hb_0 := below_tr hb hy0
      clear hbr
      have hbr := hz0
      go_wp2
      have C : ∀ p : InW v0, p.v.cell? _ = _ := fun p => (p.h.cell hbr).trans c1
      refine wp_region_in (by kernel_rfl) (by kernel_rfl) ?_
      repeat (go_big_quiet_step ((go_at_call 62; exact in_call (c_laws_markText _ _ (by omega) (by omega)))))
      refine wpQuiet_nil ?_
      rintro v1 ⟨⟨y1, hy1⟩, hw⟩
      obtain rfl : v1 = y1 := hw
      clear C
      have hz1 : b < v1.heap.size := Nat.lt_of_lt_of_le hbr hy1.size
      have d1_2 := (hy1.cell hbr).trans c2
      clear c1 c2
      have c2 := d1_2; clear d1_2
      have hb_1 := below_tr hb_0 hy1
      clear hbr
      have hbr := hz1
      go_wp2
      go_roundw
      case rel => exact ⟨n + 1, q + 1 + 1 + 1, by omega, by go_num, rfl, by omega, by have := HQ.out; unfold Hid; omega, hb_1⟩
      case measure => simp [intOf]; omega
    · go_wp2
      go_ret
      obtain rfl : n = xs.length := by omega
      exact ⟨by rw [HQ.out]; rfl, hb⟩

end Go.Proofs.Ytiplbpapgaoaoaa
