/- Small sets as the references reckon with them: halving and doubling, plain. -/
import Derived.Test.YtpppfiagaiaggaaDoorPureBits
namespace Qw
open Go Go.RowKit

theorem bit_half (s i : Nat) : s.testBit i = decide (s / 2 ^ i % 2 = 1) := Nat.testBit_eq_decide_div_mod_eq

theorem subB_zero (y : Nat) : subB 0 y = true := by rw [subB_iff]; intro i h; simp at h
theorem subB_step (x y : Nat) : subB x y = (!(decide (x % 2 = 1) && decide (y % 2 = 0)) && subB (x / 2) (y / 2)) := by
  rw [Bool.eq_iff_iff]
  simp only [Bool.and_eq_true, Bool.not_eq_true', Bool.and_eq_false_iff, decide_eq_false_iff_not, subB_iff]
  constructor
  · intro h
    refine ⟨?_, fun i hi => ?_⟩
    · by_cases hx : x % 2 = 1
      · have := h 0 (by rw [Nat.testBit_zero]; simp [hx])
        rw [Nat.testBit_zero] at this
        simp at this
        right; omega
      · exact .inl hx
    · rw [Nat.testBit_div_two] at hi ⊢; exact h _ hi
  · rintro ⟨h0, h⟩ i hi
    cases i with
    | zero =>
      rw [Nat.testBit_zero] at hi ⊢
      simp at hi ⊢
      rcases h0 with h0 | h0 <;> omega
    | succ i =>
      have := h i (by rw [Nat.testBit_div_two]; exact hi)
      rw [Nat.testBit_div_two] at this; exact this

theorem and_step (a b k : Nat) : (a &&& b) % 2 ^ (k + 1) = (a &&& b) % 2 ^ k + if a / 2 ^ k % 2 = 1 ∧ b / 2 ^ k % 2 = 1 then 2 ^ k else 0 := by
  rw [Nat.mod_pow_succ]
  have h : (a &&& b) / 2 ^ k % 2 = if a / 2 ^ k % 2 = 1 ∧ b / 2 ^ k % 2 = 1 then 1 else 0 := by
    have h1 := bit_half (a &&& b) k
    rw [Nat.testBit_and, bit_half a, bit_half b] at h1
    have h2 : (a &&& b) / 2 ^ k % 2 < 2 := Nat.mod_lt _ (by decide)
    by_cases ha : a / 2 ^ k % 2 = 1 <;> by_cases hb : b / 2 ^ k % 2 = 1 <;> simp [ha, hb] at h1 ⊢ <;> omega
  rw [h]
  split <;> simp
theorem or_eq (a b : Nat) : (a ||| b) + (a &&& b) = a + b := by
  induction a using Nat.strongRecOn generalizing b with
  | _ a ih =>
    by_cases h0 : a = 0
    · subst h0; simp
    · have h := ih (a / 2) (by omega) (b / 2)
      have e1 : (a ||| b) / 2 = a / 2 ||| b / 2 := Nat.or_div_two
      have e2 : (a &&& b) / 2 = a / 2 &&& b / 2 := Nat.and_div_two
      have e3 : (a ||| b) % 2 + (a &&& b) % 2 = a % 2 + b % 2 := by
        have x1 : (a ||| b) % 2 = 1 ↔ a % 2 = 1 ∨ b % 2 = 1 := Nat.or_mod_two_eq_one
        have x2 : (a &&& b) % 2 = 1 ↔ a % 2 = 1 ∧ b % 2 = 1 := Nat.and_mod_two_eq_one
        omega
      omega
theorem setBit_eq (s i : Nat) : setBit s i = if s.testBit i then s else s + 2 ^ i := by
  unfold setBit
  have h := or_eq s (2 ^ i)
  have h2 : s &&& 2 ^ i = if s.testBit i then 2 ^ i else 0 := by
    apply Nat.eq_of_testBit_eq
    intro j
    rw [Nat.testBit_and, Nat.testBit_two_pow]
    by_cases hj : i = j
    · subst hj
      cases hs : s.testBit i <;> simp [Nat.testBit_two_pow_self]
    · simp only [decide_eq_false hj, Bool.and_false]
      split
      · rw [Nat.testBit_two_pow]; simp [hj]
      · simp
  rw [h2] at h
  split at h <;> rename_i hc <;> simp [hc] <;> omega
theorem setBit_clr (s i : Nat) : setBit s i - 2 ^ i = clrBit s i := by
  rw [setBit_eq]; unfold clrBit
  split <;> omega
end Qw
