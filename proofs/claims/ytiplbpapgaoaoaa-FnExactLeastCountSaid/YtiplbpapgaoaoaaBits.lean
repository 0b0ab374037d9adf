/- Bits of small numbers. Conditions: none. -/
import Derived.Test.YtiplbpapgaoaoaaBase
namespace Go.Proofs.Ytiplbpapgaoaoaa
open Go.RowKit
theorem bit_drop_all : ∀ n : Fin 10, ∀ s : Fin 1024, s.val / 2 ^ n.val % 2 = 1 → bits .andNot .i64 (s.val : Int) ((2 ^ n.val : Nat) : Int) = ((s.val - 2 ^ n.val : Nat) : Int) := by decide +kernel
theorem bit_one_all : ∀ s : Fin 1024, bits .and .i64 (s.val : Int) 1 = ((s.val % 2 : Nat) : Int) := by decide +kernel
theorem bit_drop {n s : Nat} (hn : n < 10) (hs : s < 1024) (h : s / 2 ^ n % 2 = 1) : bits .andNot .i64 (s : Int) ((2 ^ n : Nat) : Int) = ((s - 2 ^ n : Nat) : Int) := bit_drop_all ⟨n, hn⟩ ⟨s, hs⟩ h
theorem bit_one {s : Nat} (hs : s < 1024) : bits .and .i64 (s : Int) 1 = ((s % 2 : Nat) : Int) := bit_one_all ⟨s, hs⟩
end Go.Proofs.Ytiplbpapgaoaoaa
