/- Decimal numerals as plain Lean: what is a numeral without a needless 0, its value, and how it stands to decDigits and atoiAll. No program in sight. -/
import Derived.Lib.ItoaMem
import Derived.Lib.AtoiAllCases
namespace Qw
open Go.Lib

def isDig (c : UInt8) : Bool := decide (48 ≤ c.toNat ∧ c.toNat ≤ 57)
/-- What digits spell behind 'acc'. -/
def decVal (acc : Nat) (s : List UInt8) : Nat := s.foldl (fun a c => a * 10 + (c.toNat - 48)) acc
theorem decVal_nil (acc : Nat) : decVal acc [] = acc := rfl
theorem decVal_cons (acc : Nat) (c : UInt8) (r : List UInt8) : decVal acc (c :: r) = decVal (acc * 10 + (c.toNat - 48)) r := by unfold decVal; rw [List.foldl_cons]
/-- Digits alone, at least one, no needless 0 ahead. -/
def plainNum : List UInt8 → Bool
  | [] => false
  | c :: r => isDig c && r.all isDig && (r.isEmpty || c != 48)
def maxI : Nat := 9223372036854775808
/-- The number of a numeral; none: it is none (within 64 bits). -/
def num? (s : List UInt8) : Option Nat := if plainNum s && decide (decVal 0 s < maxI) then some (decVal 0 s) else none

theorem decVal_append (acc : Nat) (l r : List UInt8) : decVal acc (l ++ r) = decVal (decVal acc l) r := by
  unfold decVal; rw [List.foldl_append]

theorem dig_toNat {n : Nat} (h : n < 10) : (UInt8.ofNat (48 + n)).toNat = 48 + n := by
  rw [UInt8.toNat_ofNat']; omega

theorem isDig_ofNat {n : Nat} (h : n < 10) : isDig (UInt8.ofNat (48 + n)) = true := by
  unfold isDig; rw [dig_toNat h]; simp; omega

theorem decDigits_big {n : Nat} (h : ¬ n < 10) : decDigits n = decDigits (n / 10) ++ [UInt8.ofNat (48 + n % 10)] := by
  rw [decDigits, dif_neg h]

theorem decDigits_ne_nil (n : Nat) : decDigits n ≠ [] := by
  by_cases h : n < 10
  · rw [decDigits_one h]; simp
  · rw [decDigits_big h]; simp

theorem decDigits_all (n : Nat) : (decDigits n).all isDig = true := by
  induction n using Nat.strongRecOn with
  | _ n ih =>
    by_cases h : n < 10
    · rw [decDigits_one h]; simp only [List.all_cons, List.all_nil, isDig_ofNat h, Bool.and_self]
    · rw [decDigits_big h, List.all_append, ih (n / 10) (by omega)]; simp only [List.all_cons, List.all_nil, isDig_ofNat (show n % 10 < 10 by omega), Bool.and_self]

theorem decDigits_head (n : Nat) (h : n ≠ 0) : ∃ c r, decDigits n = c :: r ∧ c ≠ 48 := by
  induction n using Nat.strongRecOn with
  | _ n ih =>
    by_cases hs : n < 10
    · refine ⟨UInt8.ofNat (48 + n), [], decDigits_one hs, ?_⟩
      intro e
      have := congrArg UInt8.toNat e
      rw [dig_toNat hs] at this
      have h48 : (48 : UInt8).toNat = 48 := rfl
      omega
    · obtain ⟨c, r, e, hc⟩ := ih (n / 10) (by omega) (by omega)
      exact ⟨c, r ++ [UInt8.ofNat (48 + n % 10)], by rw [decDigits_big hs, e]; rfl, hc⟩

theorem decVal_decDigits (n : Nat) : decVal 0 (decDigits n) = n := by
  induction n using Nat.strongRecOn with
  | _ n ih =>
    by_cases h : n < 10
    · rw [decDigits_one h, decVal_cons, dig_toNat h, decVal_nil]; omega
    · rw [decDigits_big h, decVal_append, ih (n / 10) (by omega)]
      rw [decVal_cons, dig_toNat (show n % 10 < 10 by omega), decVal_nil]; omega

theorem plainNum_decDigits (n : Nat) : plainNum (decDigits n) = true := by
  by_cases h : n = 0
  · subst h; rw [decDigits_one (by omega)]; decide
  · obtain ⟨c, r, e, hc⟩ := decDigits_head n h
    have ha := decDigits_all n
    rw [e] at ha ⊢
    simp only [List.all_cons, Bool.and_eq_true] at ha
    simp [plainNum, ha.1, ha.2, hc]

theorem num?_decDigits {n : Nat} (h : n < maxI) : num? (decDigits n) = some n := by
  unfold num?; simp [plainNum_decDigits, decVal_decDigits, h]

/-- Of a numeral the digits of its value are it. -/
theorem decDigits_decVal : ∀ (s : List UInt8), plainNum s = true → decDigits (decVal 0 s) = s := by
  -- by the last digit
  have key : ∀ (r : List UInt8) (a : Nat), a ≠ 0 → r.all isDig = true → decDigits (decVal a r) = decDigits a ++ r := by
    intro r
    induction r with
    | nil => intro a _ _; simp [decVal_nil]
    | cons c r ih =>
      intro a ha hr
      simp only [List.all_cons, Bool.and_eq_true] at hr
      have hc := hr.1
      unfold isDig at hc
      simp only [decide_eq_true_eq] at hc
      rw [decVal_cons, ih _ (by omega) hr.2, decDigits_big (by omega)]
      have e1 : (a * 10 + (c.toNat - 48)) / 10 = a := by omega
      have e2 : (a * 10 + (c.toNat - 48)) % 10 = c.toNat - 48 := by omega
      have e3 : UInt8.ofNat (48 + (c.toNat - 48)) = c := by
        apply UInt8.toNat_inj.1
        rw [UInt8.toNat_ofNat']; have := c.toNat_lt; omega
      rw [e1, e2, e3]; simp
  intro s hs
  cases s with
  | nil => simp [plainNum] at hs
  | cons c r =>
    simp only [plainNum, Bool.and_eq_true] at hs
    obtain ⟨⟨hc, hr⟩, hz⟩ := hs
    unfold isDig at hc
    simp only [decide_eq_true_eq] at hc
    have e3 : UInt8.ofNat (48 + (c.toNat - 48)) = c := by
      apply UInt8.toNat_inj.1
      rw [UInt8.toNat_ofNat']; have := c.toNat_lt; omega
    by_cases h0 : c.toNat = 48
    · cases r with
      | nil =>
        rw [decVal_cons, decVal_nil, Nat.zero_mul, Nat.zero_add, decDigits_one (by omega), e3]
      | cons d t =>
        simp only [List.isEmpty_cons, Bool.false_or, bne_iff_ne, ne_eq] at hz
        exact absurd (UInt8.toNat_inj.1 (show c.toNat = (48 : UInt8).toNat from h0)) hz
    · rw [decVal_cons, key r _ (by omega) hr, Nat.zero_mul, Nat.zero_add, decDigits_one (by omega), e3]; rfl

theorem num?_some {s : List UInt8} {n : Nat} (h : num? s = some n) : decDigits n = s ∧ n < maxI ∧ plainNum s = true := by
  unfold num? at h
  split at h
  · rename_i hc
    simp only [Bool.and_eq_true, decide_eq_true_eq] at hc
    have e := Option.some.inj h
    subst e
    exact ⟨decDigits_decVal s hc.1, hc.2, hc.1⟩
  · cases h

theorem num?_none {s : List UInt8} (h : num? s = none) : ∀ n, n < maxI → decDigits n ≠ s := by
  intro n hn e
  rw [← e, num?_decDigits hn] at h; cases h

theorem num?_eq {s : List UInt8} {n : Nat} (h : decDigits n = s) (hn : n < maxI) : num? s = some n := by rw [← h, num?_decDigits hn]

/-- strconv.Atoi at a numeral. -/
theorem parseUint10_digits : ∀ (s : List UInt8) (acc : Nat), s.all isDig = true → decVal acc s < maxI → parseUint10 acc s = .ok (decVal acc s) := by
  have mono : ∀ (s : List UInt8) (a : Nat), a ≤ decVal a s := by
    intro s
    induction s with
    | nil => intro a; exact Nat.le_refl _
    | cons c r ih => intro a; have := ih (a * 10 + (c.toNat - 48)); rw [decVal_cons]; omega
  intro s
  induction s with
  | nil => intro acc _ _; rfl
  | cons c r ih =>
    intro acc ha hv
    simp only [List.all_cons, Bool.and_eq_true] at ha
    have hc := ha.1
    unfold isDig at hc
    simp only [decide_eq_true_eq] at hc
    rw [decVal_cons] at hv
    have hm := mono r (acc * 10 + (c.toNat - 48))
    have hmax : maxI = 9223372036854775808 := rfl
    rw [parseUint10, if_pos hc, if_neg (by omega), if_neg (by omega), ih _ ha.2 hv, decVal_cons]

theorem atoiAll_num {s : List UInt8} {n : Nat} (h : num? s = some n) : atoiAll s = .ok (n : Int) := by
  obtain ⟨e, hn, hp⟩ := num?_some h
  have hv : decVal 0 s = n := by rw [← e, decVal_decDigits]
  cases s with
  | nil => simp [plainNum] at hp
  | cons c r =>
    simp only [plainNum, Bool.and_eq_true] at hp
    have hc := hp.1.1
    unfold isDig at hc
    simp only [decide_eq_true_eq] at hc
    have hall : (c :: r).all isDig = true := by simp [hp.1.1]; simpa using hp.1.2
    have hp := parseUint10_digits (c :: r) 0 hall (by rw [hv]; exact hn)
    have hmax : maxI = 9223372036854775808 := rfl
    unfold atoiAll
    simp only []
    rw [if_neg (by omega), parseMag, if_neg (by simp), hp, hv]
    simp only []
    rw [if_neg (by omega), if_neg (by omega), if_neg (by omega)]

/-- 'n, err := strconv.Atoi(x); err != nil || n < 0 || strconv.Itoa(n) != x': where it is not so, x is the numeral of n. -/
theorem num?_of_atoi {s : List UInt8} {n : Int} (h : atoiAll s = .ok n) (h0 : 0 ≤ n) (he : itoa n = s) : num? s = some n.toNat := by
  have hb := (atoiAll_bounds h).2
  obtain ⟨m, rfl⟩ := Int.eq_ofNat_of_zero_le h0
  rw [itoa_nonneg] at he
  have hmax : maxI = 9223372036854775808 := rfl
  exact num?_eq he (by omega)

theorem not_num?_of_atoi {s : List UInt8} {n : Int} (h : atoiAll s = .ok n) (he : n < 0 ∨ itoa n ≠ s) : num? s = none := by
  cases hn : num? s with
  | none => rfl
  | some m =>
    have := atoiAll_num hn
    rw [h] at this
    injection this with e
    subst e
    rcases he with he | he
    · omega
    · rw [itoa_nonneg] at he; exact absurd (num?_some hn).1 he

theorem not_num?_of_atoi_bad {s : List UInt8} (h : ∀ n, atoiAll s ≠ .ok n) : num? s = none := by
  cases hn : num? s with
  | none => rfl
  | some m => exact absurd (atoiAll_num hn) (h _)

theorem num?_length {s : List UInt8} {n : Nat} (h : num? s = some n) : s.length = nDigits n := by
  rw [← (num?_some h).1, decDigits_length]
end Qw
