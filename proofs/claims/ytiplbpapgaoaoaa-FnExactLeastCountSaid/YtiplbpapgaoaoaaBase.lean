/- Words for the proofs of this seat: how slices of flat elements read in memory, rows of the call's own, regions that draw their order over worlds that only grew. Conditions: none. -/
import Derived.Test.YtiplbpapgaoaoaaProg
import Derived.WalkKit
import Derived.WalkSpells
import Derived.WalkLawsBesides
import Derived.Deep.QuietTactic
import Derived.BigQuiet
import Derived.Lib.Hide
import Derived.Maps.AppendAt
import Derived.Deep.AppendLies
import Derived.Shelf.Abstract
namespace Go.Proofs.Ytiplbpapgaoaoaa
open Go.RowKit
set_option linter.unusedVariables false
set_option linter.unusedSimpArgs false

/-- An element of a slice: its cells. -/
class Enc (α : Type) where
  cs : α → List Value
  k : Nat
  hk : ∀ x, (cs x).length = k
  one : ∀ x, ∀ u ∈ cs x, u.oneCell' = true
open Enc

/-- A slice value that reads as a list. -/
def Rd {α : Type} [Enc α] (w : World) (v : Value) (xs : List α) : Prop :=
  ∃ A cap, v = .slice A xs.length cap ∧ xs.length ≤ cap ∧ cap ≤ 9223372036854775807 ∧ (0 < xs.length → ∃ b off, A = some ⟨b, off, none⟩ ∧ b < w.heap.size ∧
    ∀ i (h : i < xs.length) j u, (cs xs[i])[j]? = some u → w.cell? ⟨b, off + i * k α + j, none⟩ = some u)

/-- A slice value whose row is the call's own, from block lo on. -/
def Ow {α : Type} [Enc α] (T lo : Nat) (w : World) (v : Value) (xs : List α) : Prop := w.ownsRow lo T (k α) v xs.length (xs.flatMap cs)

theorem Rd.below {α : Type} [Enc α] {w w1 : World} {v : Value} {xs : List α} (h : Rd w v xs) (hb : Below w.heap.size w w1) : Rd w1 v xs := by
  obtain ⟨A, cap, rfl, h1, h2, h3⟩ := h
  refine ⟨A, cap, rfl, h1, h2, fun hp => ?_⟩
  obtain ⟨b, off, rfl, hbl, hc⟩ := h3 hp
  exact ⟨b, off, rfl, Nat.lt_of_lt_of_le hbl hb.size, fun i hi j u hu => (hb.cell hbl).trans (hc i hi j u hu)⟩

theorem below_tr {w W w1 : World} (h : Below w.heap.size w W) (k : Below W.heap.size W w1) : Below w.heap.size w w1 := h.trans (k.mono h.size)
theorem below_al {w W : World} (h : Below w.heap.size w W) (o : Obj) : Below w.heap.size w (W.alloc o) := h.alloc h.size o
theorem below_rf (w : World) : Below w.heap.size w w := Below.refl _ _

theorem bcell {W w1 : World} (hb : Below W.heap.size W w1) : (∀ b o, b < W.heap.size → w1.cell? ⟨b, o, none⟩ = W.cell? ⟨b, o, none⟩) ∧ (∀ b o, b < W.heap.size → w1.frozen? ⟨b, o, none⟩ = W.frozen? ⟨b, o, none⟩) :=
  ⟨fun b o h => hb.cell (p := ⟨b, o, none⟩) h, fun b o h => hb.frozen (p := ⟨b, o, none⟩) h⟩

theorem bsz {w w1 : World} {o : Obj} (hb : Below (w.alloc o).heap.size (w.alloc o) w1) : w.heap.size < w1.heap.size := Nat.lt_of_lt_of_le (by simp) hb.size
/-- The worlds that keep all that was. -/
structure InW (w : World) where
  v : World
  h : Below w.heap.size w v
instance (w : World) : Nonempty (InW w) := ⟨⟨w, Below.refl _ _⟩⟩

theorem wp_region_in {P : Program} {id : Nat} {Q : Exit → Act → World → Prop} {a : Act} {w : World} {l : List Oper} (hm : P.follows .mixedOrders = true) (hB : Region.lexB .any l.toArray = true)
    (h : wpQuiet P l.toArray (fun w' => ∃ p : InW w, w' = p.v) (fun a' => ∀ w', (∃ p : InW w, w' = p.v) → Q .normal a' w') l a) : (Code.region id l.toArray true).wp P Q a w :=
  wp_region_quiet (C := fun w' => ∃ p : InW w, w' = p.v) hm hB ⟨⟨{ w with drawn := w.drawn + 1 }, (Below.refl _ _).drew⟩, rfl⟩ (by simpa using h)
theorem in_call {P : Program} {f : FuncId} {args : Array Value} {w : World} {p : InW w} {v : Value}
    (h : Calls P f args p.v fun e w' => e = .returned v ∧ Below p.v.heap.size p.v w') : Calls P f args p.v fun e w' => e = .returned v ∧ ∃ q : InW w, w' = q.v :=
  h.mono fun _ w' ⟨he, hb⟩ => ⟨he, ⟨w', below_tr p.h hb⟩, rfl⟩
theorem in_call0 {P : Program} {f : FuncId} {args : Array Value} {w : World} {p : InW w} {v : Value}
    (h : Calls P f args p.v fun e w' => e = .returned v ∧ p.v = w') : Calls P f args p.v fun e w' => e = .returned v ∧ ∃ q : InW w, w' = q.v :=
  h.mono fun _ _ ⟨he, hb⟩ => ⟨he, p, hb.symm⟩

theorem ret_bool {a b : Bool} (h : a = b) : Ending.returned (.bool a) = .returned (.bool b) := by rw [h]
theorem ret_int {k : IntKind} {a b : Int} (h : a = b) : Ending.returned (.int k a) = .returned (.int k b) := by rw [h]
theorem take_snoc (s : ByteArray) (k : Nat) (h : k < s.size) : s.data.toList.take (k + 1) = s.data.toList.take k ++ [s[k]] := by
  rw [List.take_succ_eq_append_getElem (by simpa using h)]; rfl

/-! rows of the call's own -/
section
variable {α : Type} [Enc α]
theorem flat_len (xs : List α) : (xs.flatMap cs).length = xs.length * k α := by
  induction xs with
  | nil => simp
  | cons x xs ih => simp [Enc.hk, ih, Nat.succ_mul, Nat.add_comm]
theorem flat_get (xs : List α) (i j : Nat) (h : i < xs.length) (hj : j < k α) : (xs.flatMap cs)[i * k α + j]? = (cs xs[i])[j]? := by
  induction xs generalizing i with
  | nil => simp at h
  | cons x xs ih =>
    cases i with
    | zero => simp only [List.flatMap_cons, Nat.zero_mul, Nat.zero_add, List.getElem_cons_zero]; rw [List.getElem?_append_left (by rw [Enc.hk]; exact hj)]
    | succ i =>
      simp only [List.flatMap_cons, List.getElem_cons_succ]
      rw [List.getElem?_append_right (by rw [Enc.hk, Nat.succ_mul]; omega), Enc.hk, show (i + 1) * k α + j - k α = i * k α + j by rw [Nat.succ_mul]; omega]
      exact ih i (by simpa using h)
theorem flat_one (xs : List α) : ∀ u ∈ xs.flatMap cs, u.oneCell' = true := by
  intro u hu
  obtain ⟨x, _, hx⟩ := List.mem_flatMap.1 hu
  exact Enc.one x u hx
theorem Ow.nil (T lo : Nat) (w : World) : Ow T lo w (.slice none 0 0) ([] : List α) := World.ownsRow_nil w lo T _
theorem Ow.form {T lo : Nat} {w : World} {v : Value} {xs : List α} (h : Ow T lo w v xs) : ∃ A cap, v = .slice A xs.length cap := by
  rcases h.2 with ⟨rfl, h0⟩ | ⟨g, cap, cur, rfl, _⟩
  · exact ⟨none, 0, by rw [h0]⟩
  · exact ⟨_, cap, rfl⟩
theorem Ow.rd {T lo : Nat} {w : World} {v : Value} {xs : List α} (h : Ow T lo w v xs) : Rd w v xs := by
  rcases h.2 with ⟨rfl, h0⟩ | ⟨g, cap, cur, rfl, hb, hh, hn, hcm, hsz, ht⟩
  · exact ⟨none, 0, by rw [h0], by omega, by omega, fun hp => by omega⟩
  · refine ⟨_, cap, rfl, hn, by unfold maxLen at hcm; omega, fun _ => ⟨g, 0, rfl, (Array.getElem?_eq_some_iff.1 hh).1, fun i hi j u hu => ?_⟩⟩
    have hj : j < k α := by rw [← Enc.hk xs[i]]; exact (List.getElem?_eq_some_iff.1 hu).1
    rw [World.ownsRow.cellAt (xs := xs.flatMap cs) h (0 + i * k α + j), Nat.zero_add, flat_get xs i j hi hj]
    · exact hu
    · have : (i + 1) * k α ≤ xs.length * k α := Nat.mul_le_mul_right _ hi
      rw [Nat.succ_mul] at this
      omega

/-- Cells put one behind the other. -/
def setCells (w : World) (g o : Nat) : List Value → World
  | [] => w
  | u :: us => setCells (w.setCell ⟨g, o, none⟩ u) g (o + 1) us
def setAll (l : List Value) (o : Nat) : List Value → List Value
  | [] => l
  | u :: us => setAll (l.set o u) (o + 1) us
theorem setAll_mid (us : List Value) : ∀ (A B C : List Value), us.length = B.length → setAll (A ++ (B ++ C)) A.length us = A ++ (us ++ C) := by
  induction us with
  | nil => intro A B C h; cases B with
    | nil => rfl
    | cons b B => simp at h
  | cons u us ih =>
    intro A B C h
    cases B with
    | nil => simp at h
    | cons b B =>
      have e : (A ++ (b :: B ++ C)).set A.length u = (A ++ [u]) ++ (B ++ C) := by simp
      unfold setAll
      rw [e, show A.length + 1 = (A ++ [u]).length by simp, ih (A ++ [u]) B C (by simpa using h)]
      simp
theorem flat_set (ys : List α) (i : Nat) (h : i < ys.length) (y : α) : setAll (ys.flatMap cs) (i * k α) (cs y) = (ys.set i y).flatMap cs := by
  have e1 : ys.flatMap cs = (ys.take i).flatMap cs ++ (cs ys[i] ++ (ys.drop (i + 1)).flatMap cs) := by
    conv => lhs; rw [← List.take_append_drop i ys, List.drop_eq_getElem_cons h]
    rw [List.flatMap_append, List.flatMap_cons]
  have e2 : (ys.set i y).flatMap cs = (ys.take i).flatMap cs ++ (cs y ++ (ys.drop (i + 1)).flatMap cs) := by
    rw [List.set_eq_take_append_cons_drop, if_pos h]
    simp
  have e3 : i * k α = ((ys.take i).flatMap cs).length := by rw [flat_len, List.length_take, Nat.min_eq_left (by omega)]
  rw [e1, e2, e3]
  exact setAll_mid _ _ _ _ (by rw [Enc.hk, Enc.hk])
theorem own_setAll {lo e size g n cap : Nat} (us : List Value) : ∀ {w : World} {xs : List Value} (o : Nat), w.ownsRow lo e size (.slice (some ⟨g, 0, none⟩) n cap) n xs →
    (setCells w g o us).ownsRow lo e size (.slice (some ⟨g, 0, none⟩) n cap) n (setAll xs o us) ∧ w.grownBy (setCells w g o us) (some g) := by
  induction us with
  | nil => intro w xs o h; exact ⟨h, World.grownBy.refl _ _⟩
  | cons u us ih =>
    intro w xs o h
    obtain ⟨h1, h2⟩ := World.ownsRow.stored h o u
    obtain ⟨h3, h4⟩ := ih (o + 1) h1
    exact ⟨h3, ⟨h4.os.trans h2.os, h4.tape.trans h2.tape, h4.output.trans h2.output, Nat.le_trans h2.size h4.size, fun j hj hne => (h4.block j (Nat.lt_of_lt_of_le hj h2.size) hne).trans (h2.block j hj hne)⟩⟩
theorem Ow.set {T lo g cap : Nat} {w : World} {ys : List α} (h : Ow T lo w (.slice (some ⟨g, 0, none⟩) ys.length cap) ys) (i : Nat) (hi : i < ys.length) (y : α) :
    Ow T lo (setCells w g (i * k α) (cs y)) (.slice (some ⟨g, 0, none⟩) ys.length cap) (ys.set i y) ∧ w.grownBy (setCells w g (i * k α) (cs y)) (some g) := by
  have := own_setAll (w := w) (cs y) (i * k α) h
  rw [flat_set ys i hi y] at this
  refine ⟨?_, this.2⟩
  unfold Ow
  rw [List.length_set]
  exact this.1
/-- One field is stored. -/
theorem Ow.set1 {T lo g cap : Nat} {w : World} {ys : List α} (h : Ow T lo w (.slice (some ⟨g, 0, none⟩) ys.length cap) ys) (i j : Nat) (hi : i < ys.length) (hj : j < k α) (y : α) (u : Value) (hy : cs y = (cs ys[i]).set j u) :
    Ow T lo (w.setCell ⟨g, i * k α + j, none⟩ u) (.slice (some ⟨g, 0, none⟩) ys.length cap) (ys.set i y) ∧ w.grownBy (w.setCell ⟨g, i * k α + j, none⟩ u) (some g) := by
  obtain ⟨h1, h2⟩ := World.ownsRow.stored h (i * k α + j) u
  refine ⟨?_, h2⟩
  have e : (ys.set i y).flatMap cs = (ys.flatMap cs).set (i * k α + j) u := by
    have e1 : ys.flatMap cs = (ys.take i).flatMap cs ++ (cs ys[i] ++ (ys.drop (i + 1)).flatMap cs) := by
      conv => lhs; rw [← List.take_append_drop i ys, List.drop_eq_getElem_cons hi]
      rw [List.flatMap_append, List.flatMap_cons]
    have e2 : (ys.set i y).flatMap cs = (ys.take i).flatMap cs ++ (cs y ++ (ys.drop (i + 1)).flatMap cs) := by
      rw [List.set_eq_take_append_cons_drop, if_pos hi]
      simp
    have e3 : i * k α = ((ys.take i).flatMap cs).length := by rw [flat_len, List.length_take, Nat.min_eq_left (by omega)]
    rw [e1, e2, hy, e3, List.set_append_right _ _ (by omega), Nat.add_sub_cancel_left, List.set_append_left _ _ (by rw [Enc.hk]; exact hj)]
  unfold Ow
  rw [List.length_set, e]
  exact h1
theorem Ow.cell {T lo g cap : Nat} {w : World} {ys : List α} (h : Ow T lo w (.slice (some ⟨g, 0, none⟩) ys.length cap) ys) (i : Nat) (hi : i < ys.length) (j : Nat) (u : Value) (hu : (cs ys[i])[j]? = some u) :
    w.cell? ⟨g, i * k α + j, none⟩ = some u := by
  have hj : j < k α := by rw [← Enc.hk ys[i]]; exact (List.getElem?_eq_some_iff.1 hu).1
  rw [World.ownsRow.cellAt (xs := ys.flatMap cs) h (i * k α + j), flat_get ys i j hi hj]
  · exact hu
  · have : (i + 1) * k α ≤ ys.length * k α := Nat.mul_le_mul_right _ hi
    rw [Nat.succ_mul] at this
    omega
theorem Ow.cellE {T lo g cap : Nat} {w : World} {ys : List α} (h : Ow T lo w (.slice (some ⟨g, 0, none⟩) ys.length cap) ys) (i : Nat) (hi : i < ys.length) (j : Nat) (hj : j < k α) :
    ∃ u, w.cell? ⟨g, i * k α + j, none⟩ = some u := by
  have hj2 : j < (cs ys[i]).length := by rw [Enc.hk]; exact hj
  exact ⟨_, h.cell i hi j _ (List.getElem?_eq_getElem hj2)⟩
theorem Ow.frozen {T lo g cap : Nat} {w : World} {ys : List α} (h : Ow T lo w (.slice (some ⟨g, 0, none⟩) ys.length cap) ys) (o : Nat) : w.frozen? ⟨g, o, none⟩ = false :=
  World.ownsRow.frozenAt (xs := ys.flatMap cs) h o
theorem Ow.below {T lo : Nat} {w w1 : World} {v : Value} {ys : List α} (h : Ow T lo w v ys) (hb : Below w.heap.size w w1) : Ow T lo w1 v ys := by
  refine World.ownsRow.kept (row := none) h ⟨hb.os, hb.tape, hb.output, hb.size, fun i hi _ => hb.block i hi⟩ ?_
  cases v.ownBlock <;> simp
theorem Ow.kept {T lo : Nat} {w w1 : World} {v : Value} {ys : List α} {row : Option Nat} (h : Ow T lo w v ys) (hg : w.grownBy w1 row) (hne : v.ownBlock = none ∨ v.ownBlock ≠ row) : Ow T lo w1 v ys :=
  World.ownsRow.kept h hg hne
theorem Ow.lo {T lo lo' : Nat} {w : World} {v : Value} {ys : List α} (h : Ow T lo w v ys) (hl : lo' ≤ lo) : Ow T lo' w v ys := by
  refine ⟨h.1, ?_⟩
  rcases h.2 with h2 | ⟨g, cap, cur, hv, hb, r⟩
  · exact .inl h2
  · exact .inr ⟨g, cap, cur, hv, Nat.le_trans hl hb, r⟩
theorem made_flat (z : α) (n : Nat) (a : Array Value) (ha : a.toList = cs z) (hk : 0 < k α) : (madeCells a (n * k α)).toList = (List.replicate n z).flatMap cs := by
  have hs : a.size = k α := by rw [← Array.length_toList, ha, Enc.hk]
  apply List.ext_getElem?
  intro p
  by_cases hp : p < n * k α
  · have hq : p / k α < n := Nat.div_lt_of_lt_mul (by rw [Nat.mul_comm]; exact hp)
    have hr : p % k α < k α := Nat.mod_lt _ hk
    have e : p = p / k α * k α + p % k α := by rw [Nat.mul_comm]; exact (Nat.div_add_mod p (k α)).symm
    have h1 := flat_get (List.replicate n z) (p / k α) (p % k α) (by simpa using hq) hr
    rw [← e] at h1
    rw [h1]
    simp only [List.getElem_replicate]
    rw [← ha]
    simp [madeCells, hp, hs, hr]
  · rw [List.getElem?_eq_none (by simp [madeCells]; omega), List.getElem?_eq_none (by rw [flat_len]; simp; omega)]
theorem Ow.made {T lo : Nat} {w : World} {n g : Nat} (z : α) (a : Array Value) (ha : a.toList = cs z) (hk : 0 < k α) (h : w.ownsRow lo T (k α) (.slice (some ⟨g, 0, none⟩) n n) n (madeCells a (n * k α)).toList) :
    Ow T lo w (.slice (some ⟨g, 0, none⟩) n n) (List.replicate n z) := by
  unfold Ow
  rw [List.length_replicate, ← made_flat z n a ha hk]
  exact h
end

theorem set_fill {α : Type} (z : α) (xs : List α) {n : Nat} (h : n < xs.length) : (xs.take n ++ List.replicate (xs.length - n) z).set n xs[n] = xs.take (n + 1) ++ List.replicate (xs.length - (n + 1)) z := by
  have hl : (xs.take n).length = n := by rw [List.length_take]; omega
  rw [List.set_append_right _ _ (by omega), hl, Nat.sub_self, List.take_succ_eq_append_getElem h, show xs.length - n = (xs.length - (n + 1)) + 1 by omega, List.replicate_succ, List.set_cons_zero, List.append_assoc]
  rfl
theorem Ow.addr {α : Type} [Enc α] {T lo : Nat} {w : World} {v : Value} {xs : List α} (h : Ow T lo w v xs) (hp : 0 < xs.length) : ∃ g cap, v = .slice (some ⟨g, 0, none⟩) xs.length cap ∧ lo ≤ g ∧ g < w.heap.size := by
  rcases h.2 with ⟨_, h0⟩ | ⟨g, cap, cur, rfl, hb, hh, _⟩
  · omega
  · exact ⟨g, cap, rfl, hb, (Array.getElem?_eq_some_iff.1 hh).1⟩
theorem grown_tr {w w1 w2 : World} {row : Option Nat} (h : w.grownBy w1 row) (k : w1.grownBy w2 row) : w.grownBy w2 row :=
  ⟨k.os.trans h.os, k.tape.trans h.tape, k.output.trans h.output, Nat.le_trans h.size k.size, fun i hi hne => (k.block i (Nat.lt_of_lt_of_le hi h.size) hne).trans (h.block i hi hne)⟩
theorem grown_below {w w1 : World} (row : Option Nat) (h : Below w.heap.size w w1) : w.grownBy w1 row := ⟨h.os, h.tape, h.output, h.size, fun i hi _ => h.block i hi⟩
/-- The marked list: element i bears the marks from k + i * c on. -/
def mkS {α : Type} (mk : Int → α) (c n : Nat) (k : Int) : List α := (List.range n).map fun (i : Nat) => mk (k + (i * c : Nat))
theorem mkS_len {α : Type} (mk : Int → α) (c n : Nat) (k : Int) : (mkS mk c n k).length = n := by simp [mkS]
theorem mkS_get {α : Type} (mk : Int → α) (c n : Nat) (k : Int) (i : Nat) (h : i < (mkS mk c n k).length) : (mkS mk c n k)[i] = mk (k + (i * c : Nat)) := by simp [mkS]
theorem mkS_succ {α : Type} (mk : Int → α) (c n : Nat) (k : Int) : mkS mk c (n + 1) k = mkS mk c n k ++ [mk (k + (n * c : Nat))] := by simp [mkS, List.range_succ]
theorem mk_fill {α : Type} (mk : Int → α) (c : Nat) (k : Int) (xs : List α) {n : Nat} (h : n < xs.length) : (mkS mk c n k ++ xs.drop n).set n (mk (k + (n * c : Nat))) = mkS mk c (n + 1) k ++ xs.drop (n + 1) := by
  rw [List.set_append_right _ _ (by rw [mkS_len]; omega), mkS_len, Nat.sub_self, List.drop_eq_getElem_cons h, List.set_cons_zero, mkS_succ, List.append_assoc]
  rfl
/-- A list of the call's own has been overwritten with marks; all other old blocks are as they were. -/
def MkPost {α : Type} [Enc α] (mk : Int → α) (c T lo : Nat) (v : Value) (n : Nat) (k : Int) (w : World) (e : Ending) (w' : World) : Prop :=
  e = .returned (.int .i64 (k + (n * c : Nat))) ∧ Ow T lo w' v (mkS mk c n k) ∧ w.grownBy w' v.ownBlock
/-- A row at the head of block g, while of all old blocks g alone is written. -/
def OG {α : Type} [Enc α] (w0 : World) (T lo g cap : Nat) (w : World) (ys : List α) : Prop := Ow T lo w (.slice (some ⟨g, 0, none⟩) ys.length cap) ys ∧ w0.grownBy w (some g)
theorem OG.below {α : Type} [Enc α] {w0 : World} {T lo g cap : Nat} {w w1 : World} {ys : List α} (h : OG w0 T lo g cap w ys) (hb : Below w.heap.size w w1) : OG w0 T lo g cap w1 ys :=
  ⟨h.1.below hb, grown_tr h.2 (grown_below _ hb)⟩
theorem OG.put {α : Type} [Enc α] {w0 : World} {T lo g cap : Nat} {w : World} {ys : List α} {n : Nat} {y : α} (h : OG w0 T lo g cap w (ys.set n y)) (hn : n < ys.length) (j : Nat) (hj : j < Enc.k α) (y' : α) (u : Value) (hy : Enc.cs y' = (Enc.cs y).set j u) :
    OG w0 T lo g cap (w.setCell ⟨g, n * Enc.k α + j, none⟩ u) (ys.set n y') := by
  obtain ⟨h1, h2⟩ := h
  have h3 := h1.set1 n j (by rw [List.length_set]; exact hn) hj y' u (by rw [List.getElem_set_self]; exact hy)
  rw [List.set_set] at h3
  refine ⟨?_, grown_tr h2 h3.2⟩
  have h4 := h3.1
  rw [List.length_set] at h4 ⊢
  exact h4
theorem OG.same {α : Type} [Enc α] {w0 : World} {T lo g cap : Nat} {w : World} {ys : List α} (h : OG w0 T lo g cap w ys) (n : Nat) (hn : n < ys.length) : OG w0 T lo g cap w (ys.set n ys[n]) := by
  rw [List.set_getElem_self]; exact h
/-- A function value that answers a Bool of an element, and writes nothing that was. -/
structure FnB (P : Program) {α : Type} (g : Nat) (lb : Array Value) (ev : α → Value) (p : α → Bool) (xs : List α) (w : World) : Prop where
  eg : ∀ (args : Array Value) (W : World), (callFunc g args).run P W = .ok (.enter g args) W
  call : ∀ (W : World) (x : α), Below w.heap.size w W → x ∈ xs → Calls P g (#[ev x] ++ lb) W fun e w' => e = .returned (.bool (p x)) ∧ Below W.heap.size W w'
theorem FnB.mono {P : Program} {α : Type} {g : Nat} {lb : Array Value} {ev : α → Value} {p : α → Bool} {xs : List α} {w w1 : World} (h : FnB P g lb ev p xs w) (hb : Below w.heap.size w w1) : FnB P g lb ev p xs w1 :=
  ⟨h.eg, fun W x hW hx => h.call W x (below_tr hb hW) hx⟩
/-- A function value that answers a number of two elements, and writes nothing that was. -/
structure FnI (P : Program) {α : Type} (g : Nat) (lb : Array Value) (ev : α → Value) (f : α → α → Int) (xs : List α) (w : World) : Prop where
  eg : ∀ (args : Array Value) (W : World), (callFunc g args).run P W = .ok (.enter g args) W
  call : ∀ (W : World) (x y : α), Below w.heap.size w W → x ∈ xs → y ∈ xs → Calls P g (#[ev x, ev y] ++ lb) W fun e w' => e = .returned (.int .i64 (f x y)) ∧ Below W.heap.size W w'
/-- The first index with a property, or -1. -/
def idxI {α : Type} (p : α → Bool) : List α → Nat → Int
  | [], _ => -1
  | x :: xs, n => if p x then n else idxI p xs (n + 1)
theorem idxI_drop {α : Type} (p : α → Bool) (xs : List α) (n : Nat) (h : n < xs.length) : idxI p (xs.drop n) n = if p xs[n] then (n : Int) else idxI p (xs.drop (n + 1)) (n + 1) := by
  rw [List.drop_eq_getElem_cons h]; rfl
theorem idxI_any {α : Type} (p : α → Bool) (xs : List α) (n : Nat) : decide (0 ≤ idxI p xs n) = xs.any p := by
  induction xs generalizing n with
  | nil => rfl
  | cons x xs ih =>
    unfold idxI
    cases hp : p x with
    | true => simp [hp]
    | false => simpa [hp] using ih (n + 1)
/-- Each element is related to the next. -/
def risN {α : Type} [Inhabited α] (lt : α → α → Bool) (xs : List α) (n : Nat) : Bool := (List.range n).all fun i => i == 0 || lt (xs.getD (i - 1) default) (xs.getD i default)
def risB {α : Type} [Inhabited α] (lt : α → α → Bool) (xs : List α) : Bool := risN lt xs xs.length
theorem risN_succ {α : Type} [Inhabited α] (lt : α → α → Bool) (xs : List α) (n : Nat) (h0 : 0 < n) (h : n < xs.length) : risN lt xs (n + 1) = (risN lt xs n && lt xs[n - 1] xs[n]) := by
  have h1 : n - 1 < xs.length := by omega
  simp only [risN, List.range_succ, List.all_append, List.all_cons, List.all_nil, Bool.and_true, List.getD_eq_getElem?_getD, List.getElem?_eq_getElem h, List.getElem?_eq_getElem h1, Option.getD_some]
  rw [show (n == 0) = false by simp; omega]
  rfl
theorem risN_one {α : Type} [Inhabited α] (lt : α → α → Bool) (xs : List α) : risN lt xs 1 = true := rfl
theorem risN_le {α : Type} [Inhabited α] (lt : α → α → Bool) (xs : List α) (n m : Nat) (hm : m ≤ n) (h : risN lt xs m = false) : risN lt xs n = false := by
  unfold risN at h ⊢
  rw [List.all_eq_false] at h ⊢
  obtain ⟨i, hi, h⟩ := h
  exact ⟨i, by rw [List.mem_range] at hi ⊢; omega, h⟩
/-- All elements are good, each is related to the next, and they are not too many. -/
def ordB {α : Type} [Inhabited α] (p : α → Bool) (lt : α → α → Bool) (m : Nat) (xs : List α) : Bool := xs.all p && (risB lt xs && decide (xs.length ≤ m))
/-- All elements are good, and they are not too many. -/
def allB {α : Type} (p : α → Bool) (m : Nat) (xs : List α) : Bool := xs.all p && decide (xs.length ≤ m)
theorem allN_succ {α : Type} (p : α → Bool) (xs : List α) (n : Nat) (h : n < xs.length) : (xs.take (n + 1)).all p = ((xs.take n).all p && p xs[n]) := by
  rw [List.take_succ_eq_append_getElem h, List.all_append]; simp
theorem all_no {α : Type} (p : α → Bool) (xs : List α) (n : Nat) (h : n < xs.length) (hp : p xs[n] = false) : xs.all p = false := by
  rw [List.all_eq_false]; exact ⟨xs[n], List.getElem_mem h, by simp [hp]⟩
theorem Ow.base {α : Type} [Enc α] {T lo : Nat} {w : World} {v : Value} {xs : List α} (h : Ow T lo w v xs) : ∀ b, v.ownBlock = some b → lo ≤ b := fun b hb => (World.ownsRow.lt h b hb).1
theorem Ow.lts {α : Type} [Enc α] {T lo : Nat} {w : World} {v : Value} {xs : List α} (h : Ow T lo w v xs) : ∀ b, v.ownBlock = some b → b < w.heap.size := fun b hb => (World.ownsRow.lt h b hb).2
/-- append(v, y), v a row of the call's own. -/
theorem wpList_app {P : Program} {ops : Array Oper} {rest : List Oper} {o : Oper} {a : Act} {Q : Exit → Act → World → Prop} {α : Type} [Enc α] {w0 W : World} {lo : Nat} (hgd : o.guard = none) (s x : Operand) (t e : TypeId) (z : Value) (bytes : Nat)
    (ho : o.op = .call { callee := .builtin .append, args := #[s, x], argTypes := #[t, t] }) (ht : P.underlying t = some (.slice e)) (hinfo : (P.info? e).map (fun i => (i.zero, i.size, i.bytes)) = some (some z, Enc.k α, bytes)) (hz : z.cells.size = Enc.k α) (hk0 : 0 < Enc.k α) (hb0 : 0 < bytes)
    (v : Value) (xs : List α) (y : α) (hs : a.eval s = v) (hx : a.eval x = .slice (some ⟨W.heap.size, 0, none⟩) 1 1) (HO : Ow e lo W v xs) (HB : Below w0.heap.size w0 W) (hlo : w0.heap.size ≤ lo) (hlw : lo ≤ W.heap.size) (hl : (xs.length + 1) * bytes ≤ 140737488355328)
    (h : ∀ v1 w1, Ow e lo w1 v1 (xs ++ [y]) → Below w0.heap.size w0 w1 → W.grownBy w1 v.ownBlock → (v1.ownBlock = v.ownBlock ∨ ∃ b, v1.ownBlock = some b ∧ W.heap.size ≤ b) → wpList P ops Q rest (a.put o.dst v1) w1) :
    wpList P ops Q (o :: rest) a (W.alloc (.cells (Enc.cs y).toArray e)) := by
  obtain ⟨i0, hi, hzz⟩ := Option.map_eq_some_iff.1 hinfo
  simp only [Prod.mk.injEq] at hzz
  obtain ⟨hz0, hz1, hz2⟩ := hzz
  have hlen : xs.length + 1 ≤ 140737488355328 := Nat.le_trans (Nat.le_mul_of_pos_right _ hb0) hl
  refine wpList_append_own_at (W.alloc (.cells (Enc.cs y).toArray e)) hgd s x t ho lo e i0 z (Enc.k α) bytes ht hi hz0 hz1 hz2 hz hk0 v xs.length (xs.flatMap Enc.cs) hs (World.ownsRow.alloc HO _) ⟨W.heap.size, 0, none⟩ 1 1 (Enc.cs y) hx (by rw [Enc.hk]; omega)
    (World.news_of_block (cs := (Enc.cs y).toArray) (t := e) (fr := (0, 0)) (heap_alloc_new W _)) (Enc.one y) (by simp only [maxLen]; omega) hl (by simp; omega) ?_
  intro v1 w1 hown hg _ hat
  refine h v1 w1 ?_ ((below_al HB _).grown hg (by simp; exact Nat.le_trans hlo (by omega)) (fun b hb => Nat.le_trans hlo (HO.base b hb))) (World.grownBy.trans (World.grownBy_alloc W _ _) hg) ?_
  · unfold Ow
    rw [List.length_append, List.flatMap_append]
    simpa using hown
  · rcases hat with hat | hat
    · exact .inl hat
    · exact .inr ⟨_, hat, by simp⟩
/-- The indices with a property. -/
def idxL {α : Type} (p : α → Bool) : List α → Nat → List Int
  | [], _ => []
  | x :: xs, n => if p x then (n : Int) :: idxL p xs (n + 1) else idxL p xs (n + 1)
theorem idxL_snoc {α : Type} (p : α → Bool) (x : α) (l : List α) : ∀ k : Nat, idxL p (l ++ [x]) k = idxL p l k ++ if p x then [((k + l.length : Nat) : Int)] else [] := by
  induction l with
  | nil => intro k; cases h : p x <;> simp [idxL, h]
  | cons y l ih =>
    intro k
    have e : k + 1 + l.length = k + (l.length + 1) := by omega
    cases h : p y <;> simp [idxL, h, ih, e]
theorem idxL_len {α : Type} (p : α → Bool) (l : List α) : ∀ k, (idxL p l k).length ≤ l.length := by
  induction l with
  | nil => intro k; simp [idxL]
  | cons y l ih => intro k; have := ih (k + 1); unfold idxL; split <;> simp <;> omega
def idxTo {α : Type} (p : α → Bool) (xs : List α) (n : Nat) : List Int := idxL p (xs.take n) 0
theorem idxTo_succ {α : Type} (p : α → Bool) (xs : List α) (n : Nat) (h : n < xs.length) : idxTo p xs (n + 1) = idxTo p xs n ++ if p xs[n] then [(n : Int)] else [] := by
  unfold idxTo
  rw [List.take_succ_eq_append_getElem h, idxL_snoc, List.length_take, Nat.min_eq_left (by omega), Nat.zero_add]
theorem idxTo_len {α : Type} (p : α → Bool) (xs : List α) (n : Nat) : (idxTo p xs n).length ≤ xs.length := by
  have := idxL_len p (xs.take n) 0
  rw [List.length_take] at this
  unfold idxTo; omega
theorem filt_succ {α : Type} (p : α → Bool) (xs : List α) (n : Nat) (h : n < xs.length) : (xs.take (n + 1)).filter p = (xs.take n).filter p ++ if p xs[n] then [xs[n]] else [] := by
  rw [List.take_succ_eq_append_getElem h, List.filter_append]
  cases hp : p xs[n] <;> simp [List.filter_cons, hp]
theorem filt_len {α : Type} (p : α → Bool) (xs : List α) (n : Nat) : ((xs.take n).filter p).length ≤ xs.length :=
  Nat.le_trans (List.length_filter_le _ _) (by rw [List.length_take]; omega)
theorem Ow.lit0 {α : Type} [Enc α] (T lo : Nat) (W : World) (h : lo ≤ W.heap.size) : Ow T lo (W.alloc (.cells #[] T)) (.slice (some ⟨W.heap.size, 0, none⟩) 0 0) ([] : List α) :=
  World.ownsRow_lit (base := lo) W #[] 0 h (Nat.zero_le _) (by simp)
theorem Ow.apart {α β : Type} [Enc α] [Enc β] {T T' lo lo' : Nat} {w w' : World} {v v' : Value} {xs : List α} {ys : List β} (h : Ow T lo w v xs) (h' : Ow T' lo' w' v' ys) (hl : w.heap.size ≤ lo') :
    (v.ownBlock = none ∨ v.ownBlock ≠ v'.ownBlock) ∧ (v'.ownBlock = none ∨ v'.ownBlock ≠ v.ownBlock) := by
  cases e : v.ownBlock with
  | none => exact ⟨.inl rfl, by cases e' : v'.ownBlock <;> simp⟩
  | some b =>
    cases e' : v'.ownBlock with
    | none => exact ⟨.inr (by simp), .inl rfl⟩
    | some b' =>
      have h1 := h.lts b e
      have h2 := h'.base b' e'
      refine ⟨.inr ?_, .inr ?_⟩ <;> (intro h3; injection h3; omega)
/-- A fresh list and a code. -/
def OwPost2 {α : Type} [Enc α] (T : Nat) (xs : List α) (c : Int) (w : World) (e : Ending) (w' : World) : Prop := ∃ v, e = .returned (.tuple #[v, .int .i64 c]) ∧ Ow T w.heap.size w' v xs ∧ Below w.heap.size w w'
/-! strings -/
theorem toList_loop (bs : ByteArray) (i : Nat) (r : List UInt8) : ByteArray.toList.loop bs i r = r.reverse ++ bs.data.toList.drop i := by
  unfold ByteArray.toList.loop
  split
  · rename_i h
    rw [toList_loop bs (i+1)]
    have hl : i < bs.data.toList.length := h
    rw [List.drop_eq_getElem_cons hl]
    simp only [ByteArray.get!, List.reverse_cons, List.append_assoc, List.cons_append, List.nil_append, Array.getElem_toList]
    rw [getElem!_pos bs.data i h]
  · rename_i h
    have hl : bs.data.toList.length ≤ i := by have : ¬ i < bs.data.toList.length := h; omega
    simp [List.drop_eq_nil_of_le hl]
theorem toList_data (a : ByteArray) : a.toList = a.data.toList := by
  unfold ByteArray.toList; rw [toList_loop]; simp
theorem str_inj {a b : ByteArray} (h : a.toList = b.toList) : a = b := by
  rw [toList_data, toList_data] at h
  cases a; cases b
  simp only [ByteArray.mk.injEq]
  exact Array.ext' h
theorem str_eq {a b : ByteArray} : a.toList = b.toList ↔ a = b := ⟨str_inj, fun h => by rw [h]⟩

instance : Enc Int := ⟨fun x => [.int .i64 x], 1, fun _ => rfl, fun x u h => by simp only [List.mem_singleton] at h; subst h; rfl⟩
instance : Enc ByteArray := ⟨fun x => [.string x], 1, fun _ => rfl, fun x u h => by simp only [List.mem_singleton] at h; subst h; rfl⟩
instance : Enc Bool := ⟨fun x => [.bool x], 1, fun _ => rfl, fun x u h => by simp only [List.mem_singleton] at h; subst h; rfl⟩
/-- How much a value holds: its letters. -/
class Ms (α : Type) where
  ms : α → Nat
  ok : α → Prop
/-- How much a list holds. -/
def msL {α : Type} [Ms α] (xs : List α) : Nat := (xs.map Ms.ms).sum
instance : Ms Int := ⟨fun _ => 0, fun _ => True⟩
instance : Ms Bool := ⟨fun _ => 0, fun _ => True⟩
instance : Ms ByteArray := ⟨fun s => s.size, fun s => s.size ≤ 9223372036854775807⟩
theorem msL_snoc {α : Type} [Ms α] (xs : List α) (n : Nat) (h : n < xs.length) : msL (xs.take (n + 1)) = msL (xs.take n) + Ms.ms xs[n] := by
  unfold msL
  rw [List.take_succ_eq_append_getElem h, List.map_append, List.sum_append]; simp only [List.map_cons, List.map_nil, List.sum_cons, List.sum_nil, Nat.add_zero]
theorem msL_take {α : Type} [Ms α] (xs : List α) (n : Nat) : msL (xs.take n) ≤ msL xs := by
  unfold msL
  induction xs generalizing n with
  | nil => simp
  | cons x xs ih => cases n with
    | zero => simp
    | succ n => simp only [List.take_succ_cons, List.map_cons, List.sum_cons]; have := ih n; omega
theorem msL_mem {α : Type} [Ms α] (xs : List α) (x : α) (h : x ∈ xs) : Ms.ms x ≤ msL xs := by
  unfold msL
  induction xs with
  | nil => cases h
  | cons y ys ih =>
    simp only [List.map_cons, List.sum_cons]
    cases h with
    | head => omega
    | tail _ h => have := ih h; omega
/-- What a measuring function answers: what is left of a bound, or less than 0. -/
def SzPost (m : Nat) (left : Int) (w : World) (e : Ending) (w' : World) : Prop := ∃ r : Int, e = .returned (.int .i64 r) ∧ r ≤ left ∧ -1 ≤ r ∧ (0 ≤ r → r + m = left) ∧ Below w.heap.size w w'
/-- A fresh row of the call's own. -/
def OwPost {α : Type} [Enc α] (T : Nat) (xs : List α) (w : World) (e : Ending) (w' : World) : Prop := ∃ v, e = .returned v ∧ Ow T w.heap.size w' v xs ∧ Below w.heap.size w w'
theorem info_int64 : (Try.prog.info? 2).map (fun i => (i.zero, i.size, i.bytes)) = some (some (.int .i64 0), 1, 8) := by kernel_rfl
end Go.Proofs.Ytiplbpapgaoaoaa
