/- core.Has. -/
import Derived.Test.YtpppfiagaiaggaaDoorQwAskD
namespace Go.Proofs.YtpppfiagaiaggaaDoor
open Go.RowKit Go.Shelf

theorem has_fin : ∀ (s : Fin 256) (i : Fin 8), ((s.val >>> i.val) &&& 1 == 1) = s.val.testBit i.val := by decide +kernel

theorem has_calls (s i : Nat) (w : World) (hs : s < 256) (hi : i < 8) :
    Calls Tryd.prog 45 #[.int .i64 (s : Int), .int .i64 (i : Int)] w fun e w' => e = .returned (.bool (s.testBit i)) ∧ w' = w := by
  go_enter Tryd.func45, Tryd.ntmps45
  go_wp2
  go_ret
  refine ⟨?_, rfl⟩
  have e : ((s : Int) / 2 ^ i) = ((s >>> i : Nat) : Int) := by rw [Nat.shiftRight_eq_div_pow]; simp
  have e2 : bits .and .i64 ((s : Int) / 2 ^ i) 1 = (((s >>> i) &&& 1 : Nat) : Int) := by
    rw [e]
    exact Qw.i64_and _ 1 (by have := Nat.shiftRight_le s i; omega) (by decide)
  have h := has_fin ⟨s, hs⟩ ⟨i, hi⟩
  simp only [] at h
  show Ending.returned (Value.bool (bits .and .i64 ((s : Int) / 2 ^ i) 1 == 1)) = _
  rw [e2, ← h]
  congr 2
  rw [Bool.eq_iff_iff, beq_iff_eq, beq_iff_eq]
  constructor
  · intro h; exact_mod_cast h
  · intro h; exact_mod_cast h
end Go.Proofs.YtpppfiagaiaggaaDoor
