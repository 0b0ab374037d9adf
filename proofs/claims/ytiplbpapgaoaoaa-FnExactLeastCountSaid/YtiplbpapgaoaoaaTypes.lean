/- The data of the program as Lean structures, and their cells. Conditions: none. -/
import Derived.Test.YtiplbpapgaoaoaaBase
namespace Go.Proofs.Ytiplbpapgaoaoaa
open Go.RowKit
set_option linter.unusedVariables false
set_option linter.unusedSimpArgs false
structure Line where
  party : ByteArray
  amount : Int
  deriving DecidableEq
instance : Inhabited Line := ⟨⟨⟨#[]⟩, 0⟩⟩
instance : Enc Line := ⟨fun x => [.string x.party, .int .i64 x.amount], 2, fun _ => rfl, fun x u h => by simp only [List.mem_cons, List.not_mem_nil, or_false] at h; rcases h with rfl | rfl <;> rfl⟩
instance : Ms Line := ⟨fun x => x.party.size, fun x => x.party.size ≤ 9223372036854775807⟩
theorem Line.eq_iff (x y : Line) : x = y ↔ x.party = y.party ∧ x.amount = y.amount := by
  cases x; cases y; simp only [Line.mk.injEq]
structure Entry where
  day : Int
  frm : ByteArray
  dst : ByteArray
  amount : Int
  deriving DecidableEq
instance : Inhabited Entry := ⟨⟨0, ⟨#[]⟩, ⟨#[]⟩, 0⟩⟩
instance : Enc Entry := ⟨fun x => [.int .i64 x.day, .string x.frm, .string x.dst, .int .i64 x.amount], 4, fun _ => rfl, fun x u h => by simp only [List.mem_cons, List.not_mem_nil, or_false] at h; rcases h with rfl | rfl | rfl | rfl <;> rfl⟩
instance : Ms Entry := ⟨fun x => x.frm.size + x.dst.size, fun x => x.frm.size ≤ 9223372036854775807 ∧ x.dst.size ≤ 9223372036854775807⟩
theorem Entry.eq_iff (x y : Entry) : x = y ↔ x.day = y.day ∧ x.frm = y.frm ∧ x.dst = y.dst ∧ x.amount = y.amount := by
  cases x; cases y; simp only [Entry.mk.injEq]
structure Objection where
  party : ByteArray
  day : Int
  event : Int
  ground : Int
  value : Int
  deriving DecidableEq
instance : Inhabited Objection := ⟨⟨⟨#[]⟩, 0, 0, 0, 0⟩⟩
instance : Enc Objection := ⟨fun x => [.string x.party, .int .i64 x.day, .int .i64 x.event, .int .i64 x.ground, .int .i64 x.value], 5, fun _ => rfl, fun x u h => by simp only [List.mem_cons, List.not_mem_nil, or_false] at h; rcases h with rfl | rfl | rfl | rfl | rfl <;> rfl⟩
instance : Ms Objection := ⟨fun x => x.party.size, fun x => x.party.size ≤ 9223372036854775807⟩
theorem Objection.eq_iff (x y : Objection) : x = y ↔ x.party = y.party ∧ x.day = y.day ∧ x.event = y.event ∧ x.ground = y.ground ∧ x.value = y.value := by
  cases x; cases y; simp only [Objection.mk.injEq]
structure Transfer where
  frm : ByteArray
  dst : ByteArray
  amount : Int
  deriving DecidableEq
instance : Inhabited Transfer := ⟨⟨⟨#[]⟩, ⟨#[]⟩, 0⟩⟩
instance : Enc Transfer := ⟨fun x => [.string x.frm, .string x.dst, .int .i64 x.amount], 3, fun _ => rfl, fun x u h => by simp only [List.mem_cons, List.not_mem_nil, or_false] at h; rcases h with rfl | rfl | rfl <;> rfl⟩
instance : Ms Transfer := ⟨fun x => x.frm.size + x.dst.size, fun x => x.frm.size ≤ 9223372036854775807 ∧ x.dst.size ≤ 9223372036854775807⟩
theorem Transfer.eq_iff (x y : Transfer) : x = y ↔ x.frm = y.frm ∧ x.dst = y.dst ∧ x.amount = y.amount := by
  cases x; cases y; simp only [Transfer.mk.injEq]
structure Demand where
  party : ByteArray
  rank : Int
  asked : Int
  deriving DecidableEq
instance : Inhabited Demand := ⟨⟨⟨#[]⟩, 0, 0⟩⟩
instance : Enc Demand := ⟨fun x => [.string x.party, .int .i64 x.rank, .int .i64 x.asked], 3, fun _ => rfl, fun x u h => by simp only [List.mem_cons, List.not_mem_nil, or_false] at h; rcases h with rfl | rfl | rfl <;> rfl⟩
instance : Ms Demand := ⟨fun x => x.party.size, fun x => x.party.size ≤ 9223372036854775807⟩
theorem Demand.eq_iff (x y : Demand) : x = y ↔ x.party = y.party ∧ x.rank = y.rank ∧ x.asked = y.asked := by
  cases x; cases y; simp only [Demand.mk.injEq]
structure Interest where
  code : ByteArray
  kind : Int
  owner : ByteArray
  value : Int
  age : Int
  deriving DecidableEq
instance : Inhabited Interest := ⟨⟨⟨#[]⟩, 0, ⟨#[]⟩, 0, 0⟩⟩
instance : Enc Interest := ⟨fun x => [.string x.code, .int .i64 x.kind, .string x.owner, .int .i64 x.value, .int .i64 x.age], 5, fun _ => rfl, fun x u h => by simp only [List.mem_cons, List.not_mem_nil, or_false] at h; rcases h with rfl | rfl | rfl | rfl | rfl <;> rfl⟩
instance : Ms Interest := ⟨fun x => x.code.size + x.owner.size, fun x => x.code.size ≤ 9223372036854775807 ∧ x.owner.size ≤ 9223372036854775807⟩
theorem Interest.eq_iff (x y : Interest) : x = y ↔ x.code = y.code ∧ x.kind = y.kind ∧ x.owner = y.owner ∧ x.value = y.value ∧ x.age = y.age := by
  cases x; cases y; simp only [Interest.mk.injEq]
structure Event where
  day : Int
  kind : Int
  interest : ByteArray
  amount : Int
  peril : Bool
  voluntary : Bool
  reasonable : Bool
  deriving DecidableEq
instance : Inhabited Event := ⟨⟨0, 0, ⟨#[]⟩, 0, false, false, false⟩⟩
instance : Enc Event := ⟨fun x => [.int .i64 x.day, .int .i64 x.kind, .string x.interest, .int .i64 x.amount, .bool x.peril, .bool x.voluntary, .bool x.reasonable], 7, fun _ => rfl, fun x u h => by simp only [List.mem_cons, List.not_mem_nil, or_false] at h; rcases h with rfl | rfl | rfl | rfl | rfl | rfl | rfl <;> rfl⟩
instance : Ms Event := ⟨fun x => x.interest.size, fun x => x.interest.size ≤ 9223372036854775807⟩
theorem Event.eq_iff (x y : Event) : x = y ↔ x.day = y.day ∧ x.kind = y.kind ∧ x.interest = y.interest ∧ x.amount = y.amount ∧ x.peril = y.peril ∧ x.voluntary = y.voluntary ∧ x.reasonable = y.reasonable := by
  cases x; cases y; simp only [Event.mk.injEq]
structure Clause where
  code : ByteArray
  kind : Int
  peril : Int
  voluntary : Int
  reasonable : Int
  result : Int
  dst : ByteArray
  deriving DecidableEq
instance : Inhabited Clause := ⟨⟨⟨#[]⟩, 0, 0, 0, 0, 0, ⟨#[]⟩⟩⟩
instance : Enc Clause := ⟨fun x => [.string x.code, .int .i64 x.kind, .int .i64 x.peril, .int .i64 x.voluntary, .int .i64 x.reasonable, .int .i64 x.result, .string x.dst], 7, fun _ => rfl, fun x u h => by simp only [List.mem_cons, List.not_mem_nil, or_false] at h; rcases h with rfl | rfl | rfl | rfl | rfl | rfl | rfl <;> rfl⟩
instance : Ms Clause := ⟨fun x => x.code.size + x.dst.size, fun x => x.code.size ≤ 9223372036854775807 ∧ x.dst.size ≤ 9223372036854775807⟩
theorem Clause.eq_iff (x y : Clause) : x = y ↔ x.code = y.code ∧ x.kind = y.kind ∧ x.peril = y.peril ∧ x.voluntary = y.voluntary ∧ x.reasonable = y.reasonable ∧ x.result = y.result ∧ x.dst = y.dst := by
  cases x; cases y; simp only [Clause.mk.injEq]
structure Band where
  age : Int
  points : Int
  deriving DecidableEq
instance : Inhabited Band := ⟨⟨0, 0⟩⟩
instance : Enc Band := ⟨fun x => [.int .i64 x.age, .int .i64 x.points], 2, fun _ => rfl, fun x u h => by simp only [List.mem_cons, List.not_mem_nil, or_false] at h; rcases h with rfl | rfl <;> rfl⟩
instance : Ms Band := ⟨fun _ => 0, fun _ => True⟩
theorem Band.eq_iff (x y : Band) : x = y ↔ x.age = y.age ∧ x.points = y.points := by
  cases x; cases y; simp only [Band.mk.injEq]
structure Step where
  day : Int
  points : Int
  deriving DecidableEq
instance : Inhabited Step := ⟨⟨0, 0⟩⟩
instance : Enc Step := ⟨fun x => [.int .i64 x.day, .int .i64 x.points], 2, fun _ => rfl, fun x u h => by simp only [List.mem_cons, List.not_mem_nil, or_false] at h; rcases h with rfl | rfl <;> rfl⟩
instance : Ms Step := ⟨fun _ => 0, fun _ => True⟩
theorem Step.eq_iff (x y : Step) : x = y ↔ x.day = y.day ∧ x.points = y.points := by
  cases x; cases y; simp only [Step.mk.injEq]
structure Date where
  year : Int
  month : Int
  day : Int
  deriving DecidableEq
instance : Inhabited Date := ⟨⟨0, 0, 0⟩⟩
instance : Enc Date := ⟨fun x => [.int .i64 x.year, .int .i64 x.month, .int .i64 x.day], 3, fun _ => rfl, fun x u h => by simp only [List.mem_cons, List.not_mem_nil, or_false] at h; rcases h with rfl | rfl | rfl <;> rfl⟩
instance : Ms Date := ⟨fun _ => 0, fun _ => True⟩
theorem Date.eq_iff (x y : Date) : x = y ↔ x.year = y.year ∧ x.month = y.month ∧ x.day = y.day := by
  cases x; cases y; simp only [Date.mk.injEq]
theorem info_Line : (Try.prog.info? 72).map (fun i => (i.zero, i.size, i.bytes)) = some (some (.agg #[.string ⟨#[]⟩, .int .i64 0]), 2, 24) := by kernel_rfl
theorem info_Entry : (Try.prog.info? 81).map (fun i => (i.zero, i.size, i.bytes)) = some (some (.agg #[.int .i64 0, .string ⟨#[]⟩, .string ⟨#[]⟩, .int .i64 0]), 4, 48) := by kernel_rfl
theorem info_Objection : (Try.prog.info? 87).map (fun i => (i.zero, i.size, i.bytes)) = some (some (.agg #[.string ⟨#[]⟩, .int .i64 0, .int .i64 0, .int .i64 0, .int .i64 0]), 5, 48) := by kernel_rfl
theorem info_Transfer : (Try.prog.info? 97).map (fun i => (i.zero, i.size, i.bytes)) = some (some (.agg #[.string ⟨#[]⟩, .string ⟨#[]⟩, .int .i64 0]), 3, 40) := by kernel_rfl
theorem info_Demand : (Try.prog.info? 111).map (fun i => (i.zero, i.size, i.bytes)) = some (some (.agg #[.string ⟨#[]⟩, .int .i64 0, .int .i64 0]), 3, 32) := by kernel_rfl
theorem info_Interest : (Try.prog.info? 164).map (fun i => (i.zero, i.size, i.bytes)) = some (some (.agg #[.string ⟨#[]⟩, .int .i64 0, .string ⟨#[]⟩, .int .i64 0, .int .i64 0]), 5, 56) := by kernel_rfl
theorem info_Event : (Try.prog.info? 166).map (fun i => (i.zero, i.size, i.bytes)) = some (some (.agg #[.int .i64 0, .int .i64 0, .string ⟨#[]⟩, .int .i64 0, .bool false, .bool false, .bool false]), 7, 48) := by kernel_rfl
theorem info_Clause : (Try.prog.info? 168).map (fun i => (i.zero, i.size, i.bytes)) = some (some (.agg #[.string ⟨#[]⟩, .int .i64 0, .int .i64 0, .int .i64 0, .int .i64 0, .int .i64 0, .string ⟨#[]⟩]), 7, 72) := by kernel_rfl
theorem info_Band : (Try.prog.info? 170).map (fun i => (i.zero, i.size, i.bytes)) = some (some (.agg #[.int .i64 0, .int .i64 0]), 2, 16) := by kernel_rfl
theorem info_Step : (Try.prog.info? 172).map (fun i => (i.zero, i.size, i.bytes)) = some (some (.agg #[.int .i64 0, .int .i64 0]), 2, 16) := by kernel_rfl
theorem info_Date : (Try.prog.info? 127).map (fun i => (i.zero, i.size, i.bytes)) = some (some (.agg #[.int .i64 0, .int .i64 0, .int .i64 0]), 3, 24) := by kernel_rfl
end Go.Proofs.Ytiplbpapgaoaoaa
