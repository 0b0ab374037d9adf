/- What the arguments of a law read as: lists of structs. Conditions: none. -/
import Derived.Test.YtiplbpapgaoaoaaTypes
import Derived.Test.YtiplbpapgaoaoaaRows
import Derived.ProofKit
import Derived.OpenShut
import Derived.ShutString
import Derived.Deep.Slices
import Derived.Deep.Fields
namespace Go.Proofs.Ytiplbpapgaoaoaa
open Go.ChangeShapes Go.WideShapes Go.ChangeAt Go.RowKit Go.Deep Enc
set_option linter.unusedVariables false
set_option linter.unusedSimpArgs false
theorem Try.own : ownKnob Try.prog.godebug = none := by kernel_rfl
theorem Try.laidOut : laidOutB Try.prog = true := by kernel_rfl
theorem list_of {α : Type} (Q : Nat → α → Prop) (n : Nat) (h : ∀ i, i < n → ∃ x, Q i x) : ∃ xs : List α, xs.length = n ∧ ∀ i (hi : i < xs.length), Q i xs[i] := by
  induction n with
  | zero => exact ⟨[], rfl, fun i hi => absurd hi (Nat.not_lt_zero _)⟩
  | succ n ih =>
    obtain ⟨xs, hl, hq⟩ := ih fun i hi => h i (by omega)
    obtain ⟨x, hx⟩ := h n (by omega)
    refine ⟨xs ++ [x], by simp [hl], fun i hi => ?_⟩
    by_cases he : i < xs.length
    · rw [List.getElem_append_left he]; exact hq i he
    · have : i = xs.length := by simp at hi; omega
      subst this
      simp only [List.getElem_append_right (Nat.le_refl _), Nat.sub_self, List.getElem_cons_zero]
      rw [hl]; exact hx
theorem len_2 {α : Type} {c : List α} (h : c.length = 2) : ∃ c0 c1, c = [c0, c1] := by
  rcases c with _ | ⟨c0 , _ | ⟨c1, _ | ⟨d, c⟩⟩⟩ <;> simp at h
  exact ⟨_, _, rfl⟩
theorem len_3 {α : Type} {c : List α} (h : c.length = 3) : ∃ c0 c1 c2, c = [c0, c1, c2] := by
  rcases c with _ | ⟨c0 , _ | ⟨c1 , _ | ⟨c2, _ | ⟨d, c⟩⟩⟩⟩ <;> simp at h
  exact ⟨_, _, _, rfl⟩
theorem len_4 {α : Type} {c : List α} (h : c.length = 4) : ∃ c0 c1 c2 c3, c = [c0, c1, c2, c3] := by
  rcases c with _ | ⟨c0 , _ | ⟨c1 , _ | ⟨c2 , _ | ⟨c3, _ | ⟨d, c⟩⟩⟩⟩⟩ <;> simp at h
  exact ⟨_, _, _, _, rfl⟩
theorem len_5 {α : Type} {c : List α} (h : c.length = 5) : ∃ c0 c1 c2 c3 c4, c = [c0, c1, c2, c3, c4] := by
  rcases c with _ | ⟨c0 , _ | ⟨c1 , _ | ⟨c2 , _ | ⟨c3 , _ | ⟨c4, _ | ⟨d, c⟩⟩⟩⟩⟩⟩ <;> simp at h
  exact ⟨_, _, _, _, _, rfl⟩
theorem len_7 {α : Type} {c : List α} (h : c.length = 7) : ∃ c0 c1 c2 c3 c4 c5 c6, c = [c0, c1, c2, c3, c4, c5, c6] := by
  rcases c with _ | ⟨c0 , _ | ⟨c1 , _ | ⟨c2 , _ | ⟨c3 , _ | ⟨c4 , _ | ⟨c5 , _ | ⟨c6, _ | ⟨d, c⟩⟩⟩⟩⟩⟩⟩⟩ <;> simp at h
  exact ⟨_, _, _, _, _, _, _, rfl⟩
section
variable {H : Type} {enc : TypeId × Value → H} {w : World} {base : Nat} {spare : Nat → Bool} {held : Bool}
theorem rd_of_trod {α : Type} [Enc α] [Ms α] {t e : TypeId} (ht : Try.prog.underlying t = some (.slice e)) (hC : Try.prog.cellsOf e = k α) (hk0 : 0 < k α)
    (hel : ∀ m c (x : DataW H × List MemPlace), DataW.trod enc Try.prog w base spare held m e c = some x → ∃ a : α, c = cs a ∧ Ms.ok a)
    {v : Value} {fuel : Nat} {x : DataW H × List MemPlace} (h : DataW.trod enc Try.prog w base spare held fuel t [v] = some x) : ∃ xs : List α, Rd w v xs ∧ ∀ x ∈ xs, Ms.ok x := by
  rcases open_slice ht h with ⟨h0, _⟩ | ⟨a, len, cap, m, n, D, Pl, hcs, hb, hl, hm, hmm, hx, hi⟩
  · simp only [List.cons.injEq, and_true] at h0
    subst h0
    exact ⟨[], ⟨none, 0, rfl, by simp, by simp, fun h => absurd h (by simp)⟩, fun x h => by cases h⟩
  · simp only [List.cons.injEq, and_true] at hcs
    subst hcs
    obtain ⟨xs, hxl, hq⟩ := list_of (fun i (y : α) => (∀ j u, (cs y)[j]? = some u → w.cell? (a.add (i * k α + j)) = some u) ∧ Ms.ok y) len (fun i hil => by
      obtain ⟨cs', hc, ht'⟩ := hi i (by rw [hmm]; split <;> omega)
      obtain ⟨y, rfl, hy⟩ := hel _ _ _ ht'
      refine ⟨y, fun j u hu => ?_, hy⟩
      obtain ⟨_, hcl, hat⟩ := World.cells?_some hc
      have hj : j < k α := by rw [← Enc.hk y]; exact (List.getElem?_eq_some_iff.1 hu).1
      have := hat j (by rw [hC]; exact hj)
      rw [Go.Deep.add_add, hC] at this
      rw [this, hu])
    refine ⟨xs, ⟨some a, cap, by rw [hxl], by rw [hxl]; exact hl, by unfold maxLen at hm; omega, fun hp => ?_⟩, fun y hy => ?_⟩
    · obtain ⟨b, off, spot⟩ := a
      have h00 := (hq 0 hp).1 0 ((cs xs[0])[0]'(by rw [Enc.hk]; exact hk0)) (List.getElem?_eq_getElem _)
      have hspot : spot = none := by simpa [Addr.add] using World.cell?_spot h00
      subst hspot
      refine ⟨b, off, rfl, ?_, fun i hi' j u hu => ?_⟩
      · have := World.block_lt_of_cell? w _ h00
        unfold Addr.add at this
        split at this <;> exact this
      · have := (hq i hi').1 j u hu
        rwa [Go.WideShapes.add_plain, ← Nat.add_assoc] at this
    · obtain ⟨i, hi', rfl⟩ := List.mem_iff_getElem.1 hy
      exact (hq i hi').2
theorem opn_Line {m : Nat} {c : List Value} {x : DataW H × List MemPlace} (h : DataW.trod enc Try.prog w base spare held m 70 c = some x) : ∃ a : Line, c = Enc.cs a ∧ Ms.ok a := by
  obtain ⟨ys, m1, rfl, _, hlen, hyl, hf⟩ := DataW.trod_struct Try.underlying70 h
  have hC : Try.prog.cellsOf 70 = 2 := by kernel_rfl
  have z_i : Try.prog.cellsOf 2 = 1 := by kernel_rfl
  have z_s : Try.prog.cellsOf 9 = 1 := by kernel_rfl
  have hl := hlen.trans hC
  clear hlen hC
  replace hyl : ys.length = 2 := hyl
  obtain ⟨c0, c1, rfl⟩ : ∃ c0 c1, c = [c0, c1] := by
    exact len_2 hl
  have g0 : DataW.trod enc Try.prog w base spare held m1 9 (([c0, c1].drop 0).take (Try.prog.cellsOf 9)) = ys[0]? := hf 0 _ rfl
  rw [z_s, List.getElem?_eq_getElem (show 0 < ys.length by omega)] at g0
  replace g0 : DataW.trod enc Try.prog w base spare held m1 9 [c0] = some ys[0] := g0
  obtain ⟨a0, e0, _, w0⟩ := DataW.trod_string Try.underlying9 g0
  have e0_ := (List.cons.inj e0).1
  have g1 : DataW.trod enc Try.prog w base spare held m1 2 (([c0, c1].drop 1).take (Try.prog.cellsOf 2)) = ys[1]? := hf 1 _ rfl
  rw [z_i, List.getElem?_eq_getElem (show 1 < ys.length by omega)] at g1
  replace g1 : DataW.trod enc Try.prog w base spare held m1 2 [c1] = some ys[1] := g1
  obtain ⟨a1, e1, _, w1⟩ := DataW.trod_int Try.underlying2 g1
  have e1_ := (List.cons.inj e1).1
  exact ⟨⟨a0, a1⟩, by rw [e0_, e1_]; rfl, w0⟩
theorem opn_Entry {m : Nat} {c : List Value} {x : DataW H × List MemPlace} (h : DataW.trod enc Try.prog w base spare held m 79 c = some x) : ∃ a : Entry, c = Enc.cs a ∧ Ms.ok a := by
  obtain ⟨ys, m1, rfl, _, hlen, hyl, hf⟩ := DataW.trod_struct Try.underlying79 h
  have hC : Try.prog.cellsOf 79 = 4 := by kernel_rfl
  have z_i : Try.prog.cellsOf 2 = 1 := by kernel_rfl
  have z_s : Try.prog.cellsOf 9 = 1 := by kernel_rfl
  have hl := hlen.trans hC
  clear hlen hC
  replace hyl : ys.length = 4 := hyl
  obtain ⟨c0, c1, c2, c3, rfl⟩ : ∃ c0 c1 c2 c3, c = [c0, c1, c2, c3] := by
    exact len_4 hl
  have g0 : DataW.trod enc Try.prog w base spare held m1 2 (([c0, c1, c2, c3].drop 0).take (Try.prog.cellsOf 2)) = ys[0]? := hf 0 _ rfl
  rw [z_i, List.getElem?_eq_getElem (show 0 < ys.length by omega)] at g0
  replace g0 : DataW.trod enc Try.prog w base spare held m1 2 [c0] = some ys[0] := g0
  obtain ⟨a0, e0, _, w0⟩ := DataW.trod_int Try.underlying2 g0
  have e0_ := (List.cons.inj e0).1
  have g1 : DataW.trod enc Try.prog w base spare held m1 9 (([c0, c1, c2, c3].drop 1).take (Try.prog.cellsOf 9)) = ys[1]? := hf 1 _ rfl
  rw [z_s, List.getElem?_eq_getElem (show 1 < ys.length by omega)] at g1
  replace g1 : DataW.trod enc Try.prog w base spare held m1 9 [c1] = some ys[1] := g1
  obtain ⟨a1, e1, _, w1⟩ := DataW.trod_string Try.underlying9 g1
  have e1_ := (List.cons.inj e1).1
  have g2 : DataW.trod enc Try.prog w base spare held m1 9 (([c0, c1, c2, c3].drop 2).take (Try.prog.cellsOf 9)) = ys[2]? := hf 2 _ rfl
  rw [z_s, List.getElem?_eq_getElem (show 2 < ys.length by omega)] at g2
  replace g2 : DataW.trod enc Try.prog w base spare held m1 9 [c2] = some ys[2] := g2
  obtain ⟨a2, e2, _, w2⟩ := DataW.trod_string Try.underlying9 g2
  have e2_ := (List.cons.inj e2).1
  have g3 : DataW.trod enc Try.prog w base spare held m1 2 (([c0, c1, c2, c3].drop 3).take (Try.prog.cellsOf 2)) = ys[3]? := hf 3 _ rfl
  rw [z_i, List.getElem?_eq_getElem (show 3 < ys.length by omega)] at g3
  replace g3 : DataW.trod enc Try.prog w base spare held m1 2 [c3] = some ys[3] := g3
  obtain ⟨a3, e3, _, w3⟩ := DataW.trod_int Try.underlying2 g3
  have e3_ := (List.cons.inj e3).1
  exact ⟨⟨a0, a1, a2, a3⟩, by rw [e0_, e1_, e2_, e3_]; rfl, ⟨w1, w2⟩⟩
theorem opn_Objection {m : Nat} {c : List Value} {x : DataW H × List MemPlace} (h : DataW.trod enc Try.prog w base spare held m 86 c = some x) : ∃ a : Objection, c = Enc.cs a ∧ Ms.ok a := by
  obtain ⟨ys, m1, rfl, _, hlen, hyl, hf⟩ := DataW.trod_struct Try.underlying86 h
  have hC : Try.prog.cellsOf 86 = 5 := by kernel_rfl
  have z_i : Try.prog.cellsOf 2 = 1 := by kernel_rfl
  have z_s : Try.prog.cellsOf 9 = 1 := by kernel_rfl
  have hl := hlen.trans hC
  clear hlen hC
  replace hyl : ys.length = 5 := hyl
  obtain ⟨c0, c1, c2, c3, c4, rfl⟩ : ∃ c0 c1 c2 c3 c4, c = [c0, c1, c2, c3, c4] := by
    exact len_5 hl
  have g0 : DataW.trod enc Try.prog w base spare held m1 9 (([c0, c1, c2, c3, c4].drop 0).take (Try.prog.cellsOf 9)) = ys[0]? := hf 0 _ rfl
  rw [z_s, List.getElem?_eq_getElem (show 0 < ys.length by omega)] at g0
  replace g0 : DataW.trod enc Try.prog w base spare held m1 9 [c0] = some ys[0] := g0
  obtain ⟨a0, e0, _, w0⟩ := DataW.trod_string Try.underlying9 g0
  have e0_ := (List.cons.inj e0).1
  have g1 : DataW.trod enc Try.prog w base spare held m1 2 (([c0, c1, c2, c3, c4].drop 1).take (Try.prog.cellsOf 2)) = ys[1]? := hf 1 _ rfl
  rw [z_i, List.getElem?_eq_getElem (show 1 < ys.length by omega)] at g1
  replace g1 : DataW.trod enc Try.prog w base spare held m1 2 [c1] = some ys[1] := g1
  obtain ⟨a1, e1, _, w1⟩ := DataW.trod_int Try.underlying2 g1
  have e1_ := (List.cons.inj e1).1
  have g2 : DataW.trod enc Try.prog w base spare held m1 2 (([c0, c1, c2, c3, c4].drop 2).take (Try.prog.cellsOf 2)) = ys[2]? := hf 2 _ rfl
  rw [z_i, List.getElem?_eq_getElem (show 2 < ys.length by omega)] at g2
  replace g2 : DataW.trod enc Try.prog w base spare held m1 2 [c2] = some ys[2] := g2
  obtain ⟨a2, e2, _, w2⟩ := DataW.trod_int Try.underlying2 g2
  have e2_ := (List.cons.inj e2).1
  have g3 : DataW.trod enc Try.prog w base spare held m1 2 (([c0, c1, c2, c3, c4].drop 3).take (Try.prog.cellsOf 2)) = ys[3]? := hf 3 _ rfl
  rw [z_i, List.getElem?_eq_getElem (show 3 < ys.length by omega)] at g3
  replace g3 : DataW.trod enc Try.prog w base spare held m1 2 [c3] = some ys[3] := g3
  obtain ⟨a3, e3, _, w3⟩ := DataW.trod_int Try.underlying2 g3
  have e3_ := (List.cons.inj e3).1
  have g4 : DataW.trod enc Try.prog w base spare held m1 2 (([c0, c1, c2, c3, c4].drop 4).take (Try.prog.cellsOf 2)) = ys[4]? := hf 4 _ rfl
  rw [z_i, List.getElem?_eq_getElem (show 4 < ys.length by omega)] at g4
  replace g4 : DataW.trod enc Try.prog w base spare held m1 2 [c4] = some ys[4] := g4
  obtain ⟨a4, e4, _, w4⟩ := DataW.trod_int Try.underlying2 g4
  have e4_ := (List.cons.inj e4).1
  exact ⟨⟨a0, a1, a2, a3, a4⟩, by rw [e0_, e1_, e2_, e3_, e4_]; rfl, w0⟩
theorem opn_Transfer {m : Nat} {c : List Value} {x : DataW H × List MemPlace} (h : DataW.trod enc Try.prog w base spare held m 95 c = some x) : ∃ a : Transfer, c = Enc.cs a ∧ Ms.ok a := by
  obtain ⟨ys, m1, rfl, _, hlen, hyl, hf⟩ := DataW.trod_struct Try.underlying95 h
  have hC : Try.prog.cellsOf 95 = 3 := by kernel_rfl
  have z_i : Try.prog.cellsOf 2 = 1 := by kernel_rfl
  have z_s : Try.prog.cellsOf 9 = 1 := by kernel_rfl
  have hl := hlen.trans hC
  clear hlen hC
  replace hyl : ys.length = 3 := hyl
  obtain ⟨c0, c1, c2, rfl⟩ : ∃ c0 c1 c2, c = [c0, c1, c2] := by
    exact len_3 hl
  have g0 : DataW.trod enc Try.prog w base spare held m1 9 (([c0, c1, c2].drop 0).take (Try.prog.cellsOf 9)) = ys[0]? := hf 0 _ rfl
  rw [z_s, List.getElem?_eq_getElem (show 0 < ys.length by omega)] at g0
  replace g0 : DataW.trod enc Try.prog w base spare held m1 9 [c0] = some ys[0] := g0
  obtain ⟨a0, e0, _, w0⟩ := DataW.trod_string Try.underlying9 g0
  have e0_ := (List.cons.inj e0).1
  have g1 : DataW.trod enc Try.prog w base spare held m1 9 (([c0, c1, c2].drop 1).take (Try.prog.cellsOf 9)) = ys[1]? := hf 1 _ rfl
  rw [z_s, List.getElem?_eq_getElem (show 1 < ys.length by omega)] at g1
  replace g1 : DataW.trod enc Try.prog w base spare held m1 9 [c1] = some ys[1] := g1
  obtain ⟨a1, e1, _, w1⟩ := DataW.trod_string Try.underlying9 g1
  have e1_ := (List.cons.inj e1).1
  have g2 : DataW.trod enc Try.prog w base spare held m1 2 (([c0, c1, c2].drop 2).take (Try.prog.cellsOf 2)) = ys[2]? := hf 2 _ rfl
  rw [z_i, List.getElem?_eq_getElem (show 2 < ys.length by omega)] at g2
  replace g2 : DataW.trod enc Try.prog w base spare held m1 2 [c2] = some ys[2] := g2
  obtain ⟨a2, e2, _, w2⟩ := DataW.trod_int Try.underlying2 g2
  have e2_ := (List.cons.inj e2).1
  exact ⟨⟨a0, a1, a2⟩, by rw [e0_, e1_, e2_]; rfl, ⟨w0, w1⟩⟩
theorem opn_Demand {m : Nat} {c : List Value} {x : DataW H × List MemPlace} (h : DataW.trod enc Try.prog w base spare held m 108 c = some x) : ∃ a : Demand, c = Enc.cs a ∧ Ms.ok a := by
  obtain ⟨ys, m1, rfl, _, hlen, hyl, hf⟩ := DataW.trod_struct Try.underlying108 h
  have hC : Try.prog.cellsOf 108 = 3 := by kernel_rfl
  have z_i : Try.prog.cellsOf 2 = 1 := by kernel_rfl
  have z_s : Try.prog.cellsOf 9 = 1 := by kernel_rfl
  have hl := hlen.trans hC
  clear hlen hC
  replace hyl : ys.length = 3 := hyl
  obtain ⟨c0, c1, c2, rfl⟩ : ∃ c0 c1 c2, c = [c0, c1, c2] := by
    exact len_3 hl
  have g0 : DataW.trod enc Try.prog w base spare held m1 9 (([c0, c1, c2].drop 0).take (Try.prog.cellsOf 9)) = ys[0]? := hf 0 _ rfl
  rw [z_s, List.getElem?_eq_getElem (show 0 < ys.length by omega)] at g0
  replace g0 : DataW.trod enc Try.prog w base spare held m1 9 [c0] = some ys[0] := g0
  obtain ⟨a0, e0, _, w0⟩ := DataW.trod_string Try.underlying9 g0
  have e0_ := (List.cons.inj e0).1
  have g1 : DataW.trod enc Try.prog w base spare held m1 2 (([c0, c1, c2].drop 1).take (Try.prog.cellsOf 2)) = ys[1]? := hf 1 _ rfl
  rw [z_i, List.getElem?_eq_getElem (show 1 < ys.length by omega)] at g1
  replace g1 : DataW.trod enc Try.prog w base spare held m1 2 [c1] = some ys[1] := g1
  obtain ⟨a1, e1, _, w1⟩ := DataW.trod_int Try.underlying2 g1
  have e1_ := (List.cons.inj e1).1
  have g2 : DataW.trod enc Try.prog w base spare held m1 2 (([c0, c1, c2].drop 2).take (Try.prog.cellsOf 2)) = ys[2]? := hf 2 _ rfl
  rw [z_i, List.getElem?_eq_getElem (show 2 < ys.length by omega)] at g2
  replace g2 : DataW.trod enc Try.prog w base spare held m1 2 [c2] = some ys[2] := g2
  obtain ⟨a2, e2, _, w2⟩ := DataW.trod_int Try.underlying2 g2
  have e2_ := (List.cons.inj e2).1
  exact ⟨⟨a0, a1, a2⟩, by rw [e0_, e1_, e2_]; rfl, w0⟩
end
end Go.Proofs.Ytiplbpapgaoaoaa
