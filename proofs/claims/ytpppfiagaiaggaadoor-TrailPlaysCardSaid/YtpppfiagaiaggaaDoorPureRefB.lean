/- The references' links and numerals, plain. -/
import Derived.Test.YtpppfiagaiaggaaDoorPureTrail
namespace Go.Proofs.YtpppfiagaiaggaaDoor
open Go Go.RowKit

theorem wrap_add (m t : Int) : wrap64 (wrap64 m + wrap64 t) = wrap64 (m + t) := by unfold wrap64; omega
theorem wrap_left (m t : Int) : wrap64 (wrap64 m + t) = wrap64 (m + t) := by unfold wrap64; omega
/-- What is added up of a line, byte by byte. -/
def linkSum : List UInt8 → Nat → Int
  | [], _ => 0
  | c :: cs, i => ((i : Int) + 1) * (c.toNat : Int) + linkSum cs (i + 1)
theorem linkAt_sum (l : List UInt8) : ∀ (i : Nat) (m : Int), linkAt l i (wrap64 m) = wrap64 (m + linkSum l i) := by
  induction l with
  | nil => intro i m; simp [linkAt, linkSum]
  | cons c l ih =>
    intro i m
    rw [linkAt, linkStep, linkSum, wrap_add, ih]
    congr 1; omega
theorem linkSum_drop (l : List UInt8) (k : Nat) (h : k < l.length) : linkSum (l.drop k) k = ((k : Int) + 1) * (l[k].toNat : Int) + linkSum (l.drop (k + 1)) (k + 1) := by
  rw [List.drop_eq_getElem_cons h, linkSum]
/-- The references' own sum, from behind. -/
def linkBack (c : Int) (l : List UInt8) (k : Nat) : Int := wrap64 (31 * c + linkSum (l.drop k) k)
theorem linkBack_end (c : Int) (l : List UInt8) : linkBack c l l.length = wrap64 (31 * c) := by unfold linkBack; simp [linkSum]
theorem linkBack_step (c : Int) (l : List UInt8) (k : Nat) (h : k < l.length) : linkBack c l k = wrap64 (linkBack c l (k + 1) + wrap64 (((k : Int) + 1) * (l[k].toNat : Int))) := by
  unfold linkBack
  rw [wrap_add, linkSum_drop l k h]
  congr 1; omega
theorem linkBack_zero (c : Int) (l : List UInt8) : (linkBack c l 0).tmod 9973 = link c l := by
  unfold link linkBack
  rw [linkAt_sum, List.drop_zero, Int.mul_comm]
/-- The sum, as a natural number. -/
def linkN : List UInt8 → Nat → Nat
  | [], _ => 0
  | c :: cs, i => (i + 1) * c.toNat + linkN cs (i + 1)
theorem linkSum_N : ∀ (l : List UInt8) (i : Nat), linkSum l i = (linkN l i : Int)
  | [], _ => rfl
  | c :: cs, i => by
    rw [linkSum, linkN, linkSum_N cs (i + 1)]
    simp
theorem linkN_le : ∀ (l : List UInt8) (i : Nat), linkN l i ≤ 255 * ((i + l.length) * l.length)
  | [], _ => by simp [linkN]
  | c :: cs, i => by
    have h1 := linkN_le cs (i + 1)
    have h2 : (i + 1) * c.toNat ≤ (i + 1) * 255 := Nat.mul_le_mul_left _ (by have := c.toNat_lt; omega)
    rw [linkN, List.length_cons]
    have e1 : (i + (cs.length + 1)) * (cs.length + 1) = (i + 1 + cs.length) * cs.length + (i + 1 + cs.length) := by
      rw [show i + (cs.length + 1) = i + 1 + cs.length by omega, Nat.mul_succ]
    rw [e1]
    generalize (i + 1 + cs.length) * cs.length = q at *
    omega
/-- A link of a line that is not too long, as a plain remainder. -/
theorem link_small {c : Int} {l : List UInt8} (h0 : 0 ≤ c) (h1 : c < 9973) (hl : l.length ≤ 1000) : link c l = (((c.toNat * 31 + linkN l 0) % 9973 : Nat) : Int) := by
  obtain ⟨n, rfl⟩ := Int.eq_ofNat_of_zero_le h0
  unfold link
  rw [linkAt_sum, linkSum_N]
  have hb := linkN_le l 0
  have h2 : (0 + l.length) * l.length ≤ 1000 * 1000 := Nat.mul_le_mul (by omega) hl
  generalize (0 + l.length) * l.length = q at *
  have hw : wrap64 ((n : Int) * 31 + (linkN l 0 : Int)) = ((n * 31 + linkN l 0 : Nat) : Int) := by
    simp only [Int.natCast_add, Int.natCast_mul]
    unfold wrap64
    omega
  rw [hw, Int.toNat_natCast, Int.tmod_eq_emod_of_nonneg (by omega)]
  rfl
theorem link_nonneg {c : Int} {l : List UInt8} (h0 : 0 ≤ c) (h1 : c < 9973) (hl : l.length ≤ 1000) : 0 ≤ link c l ∧ link c l < 9973 := by
  rw [link_small h0 h1 hl]; omega
end Go.Proofs.YtpppfiagaiaggaaDoor
