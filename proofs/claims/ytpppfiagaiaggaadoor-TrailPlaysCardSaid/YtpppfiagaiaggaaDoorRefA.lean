/- Contracts of the references' leaves: small sets, labels. -/
import Derived.Test.YtpppfiagaiaggaaDoorQwBase
import Derived.Test.YtpppfiagaiaggaaDoorPureBell
import Derived.Test.YtpppfiagaiaggaaDoorPureRef
namespace Go.Proofs.YtpppfiagaiaggaaDoor
open Go.RowKit

theorem refIn_calls (n a b : Int) (w : World) :
    Calls Tryd.prog 34 #[.int .i64 n, .int .i64 a, .int .i64 b] w fun e w' => e = .returned (.bool (inR n a b)) ∧ w' = w := by
  unfold inR
  go_enter Tryd.func34, Tryd.ntmps34
  by_cases h1 : a ≤ n <;> by_cases h2 : n ≤ b
  all_goals
    go_wp2
    go_ret
    simp [h1, h2]

theorem ret_bool {a b : Bool} (h : a = b) : Ending.returned (.bool a) = .returned (.bool b) := by rw [h]
theorem ret_i64 {a b : Int} (h : a = b) : Ending.returned (.int .i64 a) = .returned (.int .i64 b) := by rw [h]
def p2 (n : Nat) : Nat := 2 ^ n

theorem pow2_calls (n : Nat) (w : World) (hn : n ≤ 8) :
    Calls Tryd.prog 14 #[.int .i64 n] w fun e w' => e = .returned (.int .i64 (p2 n : Int)) ∧ w' = w := by
  go_enter Tryd.func14, Tryd.ntmps14
  go_wp2
  go_loop [3, 4] (fun p i => ∃ k : Nat, k ≤ n ∧ i = .int .i64 k ∧ p = .int .i64 (p2 k : Int)) (fun _ i => n - (intOf i).toNat)
  case atStart => exact ⟨0, Nat.zero_le _, rfl, rfl⟩
  case round =>
    obtain ⟨k, hk, rfl, rfl⟩ := hrel
    have hb : p2 k ≤ 256 := Nat.pow_le_pow_right (n := 2) (by decide) (j := 8) (by omega)
    have hs : p2 (k + 1) = p2 k * 2 := Nat.pow_succ 2 k
    have HS := Lib.hid hs
    clear hs
    by_cases hlt : k < n
    · go_wp2
      go_round
      case rel => exact ⟨k + 1, by omega, by go_num, by rw [HS.out]; go_num⟩
      case measure => simp [intOf]; omega
    · obtain rfl : k = n := by omega
      go_wp2
      go_ret
      exact ⟨rfl, rfl⟩

theorem bit_calls (s i : Nat) (w : World) (hs : s < 4294967296) (hi : i ≤ 64) :
    Calls Tryd.prog 36 #[.int .i64 s, .int .i64 i] w fun e w' => e = .returned (.bool (s.testBit i)) ∧ w' = w := by
  have hfin := Qw.bit_half s i
  have HF := Lib.hid hfin
  clear hfin
  go_enter Tryd.func36, Tryd.ntmps36
  go_wp2
  go_loop [0, 5] (fun p q => ∃ k : Nat, k ≤ i ∧ q = .int .i64 k ∧ p = .int .i64 ((s / 2 ^ k : Nat) : Int)) (fun _ q => i - (intOf q).toNat)
  case atStart => exact ⟨0, Nat.zero_le _, rfl, by simp⟩
  case round =>
    obtain ⟨k, hk, rfl, rfl⟩ := hrel
    have hb : s / 2 ^ k ≤ s := Nat.div_le_self _ _
    have hs' : s / 2 ^ (k + 1) = s / 2 ^ k / 2 := by rw [Nat.pow_succ, Nat.div_div_eq_div_mul]
    have hz : s / 2 ^ k = 0 → s / 2 ^ i = 0 := fun h => by
      obtain ⟨d, rfl⟩ := Nat.exists_eq_add_of_le hk
      rw [Nat.pow_add, ← Nat.div_div_eq_div_mul, h]; simp
    have HS := Lib.hid hs'
    have HZ := Lib.hid hz
    clear hs' hz
    generalize hp : s / 2 ^ k = p at *
    have HP := Lib.hid hp
    clear hp
    by_cases hlt : k < i
    · by_cases h0 : p = 0
      · have h0' : ((p : Int) != 0) = false := by simp [h0]
        have HP0 := Lib.hid (HZ.out h0)
        clear h0
        go_wp2
        go_ret
        have hp0 : (p : Int) = 0 := by simpa using h0'
        refine ⟨ret_bool ?_, rfl⟩
        rw [HF.out, HP0.out, Bool.eq_iff_iff, hp0]; decide
      · have h0' : ((p : Int) != 0) = true := by simp; omega
        go_wp2
        go_round
        case rel => exact ⟨k + 1, by omega, by go_num, by rw [HS.out]; go_num⟩
        case measure => simp [intOf]; omega
    · obtain rfl : k = i := by omega
      go_wp2
      go_ret
      refine ⟨ret_bool ?_, rfl⟩
      rw [HF.out, HP.out, Bool.eq_iff_iff]
      simp
      omega

theorem refMask8_calls (s : Int) (w : World) :
    Calls Tryd.prog 50 #[.int .i64 s, .int .i64 8] w fun e w' => e = .returned (.bool (decide (0 ≤ s ∧ s < 256))) ∧ w' = w := by
  have C := Lib.hid (fun w => pow2_calls 8 w (by omega))
  by_cases h1 : 0 ≤ s
  · by_cases h2 : s < 256
    · have hd : decide (s < ((p2 8 : Nat) : Int)) = true := by rw [show p2 8 = 256 from rfl]; simp; omega
      have h3 : decide (0 ≤ s ∧ s < 256) = true := by simp; omega
      rw [h3]
      go_enter Tryd.func50, Tryd.ntmps50
      go_wp2_with (go_at_call 14; refine (C.out _).mono ?_; rintro e w' ⟨rfl, rfl⟩)
      go_ret
      exact ⟨rfl, rfl⟩
    · have hd : decide (s < ((p2 8 : Nat) : Int)) = false := by rw [show p2 8 = 256 from rfl]; simp; omega
      have h3 : decide (0 ≤ s ∧ s < 256) = false := by simp; omega
      rw [h3]
      go_enter Tryd.func50, Tryd.ntmps50
      go_wp2_with (go_at_call 14; refine (C.out _).mono ?_; rintro e w' ⟨rfl, rfl⟩)
      go_ret
      exact ⟨rfl, rfl⟩
  · have h3 : decide (0 ≤ s ∧ s < 256) = false := by simp; omega
    rw [h3]
    go_enter Tryd.func50, Tryd.ntmps50
    go_wp2
    go_ret
    exact ⟨rfl, rfl⟩

theorem refLabel_calls (l s : Int) (w : World) :
    Calls Tryd.prog 30 #[.agg #[.int .i64 l, .int .i64 s]] w fun e w' => e = .returned (.int .i64 (if labOk l s then 0 else 1)) ∧ Below w.heap.size w w' := by
  by_cases h1 : inR l 0 7 = true
  · by_cases h2 : decide (0 ≤ s ∧ s < 256) = true
    · have ok : labOk l s = true := by simp [inR] at h1 h2; simp [labOk]; omega
      rw [ok]
      go_enter Tryd.func30, Tryd.ntmps30
      go_wp2_with (first | (go_at_call 34; refine (refIn_calls _ _ _ _).mono ?_; rintro e w' ⟨rfl, rfl⟩; rw [h1]) | (go_at_call 50; refine (refMask8_calls _ _).mono ?_; rintro e w' ⟨rfl, rfl⟩; rw [h2]))
      go_ret
      exact ⟨rfl, (Below.refl _ _).alloc (Nat.le_refl _) _⟩
    · have ok : labOk l s = false := by simp [inR] at h1 h2; simp [labOk]; omega
      simp only [Bool.not_eq_true] at h2
      rw [ok]
      go_enter Tryd.func30, Tryd.ntmps30
      go_wp2_with (first | (go_at_call 34; refine (refIn_calls _ _ _ _).mono ?_; rintro e w' ⟨rfl, rfl⟩; rw [h1]) | (go_at_call 50; refine (refMask8_calls _ _).mono ?_; rintro e w' ⟨rfl, rfl⟩; rw [h2]))
      go_ret
      exact ⟨rfl, (Below.refl _ _).alloc (Nat.le_refl _) _⟩
  · have ok : labOk l s = false := by simp [inR] at h1; simp [labOk]; omega
    simp only [Bool.not_eq_true] at h1
    rw [ok]
    go_enter Tryd.func30, Tryd.ntmps30
    go_wp2_with (go_at_call 34; refine (refIn_calls _ _ _ _).mono ?_; rintro e w' ⟨rfl, rfl⟩; rw [h1])
    go_ret
    exact ⟨rfl, (Below.refl _ _).alloc (Nat.le_refl _) _⟩

theorem refWithin_calls (a b : Nat) (w : World) (ha : a < 4294967296) (hb : b < 4294967296) :
    Calls Tryd.prog 56 #[.int .i64 a, .int .i64 b] w fun e w' => e = .returned (.bool (Qw.subB a b)) ∧ w' = w := by
  go_enter Tryd.func56, Tryd.ntmps56
  go_wp2
  go_loop [0, 1] (fun p q => ∃ x y : Nat, x < 4294967296 ∧ y < 4294967296 ∧ p = .int .i64 x ∧ q = .int .i64 y ∧ Hid (Qw.subB a b = Qw.subB x y)) (fun p _ => (intOf p).toNat)
  case atStart => exact ⟨a, b, ha, hb, rfl, rfl, Lib.hid rfl⟩
  case round =>
    obtain ⟨x, y, hx, hy, rfl, rfl, HX⟩ := hrel
    have HS := Lib.hid (Qw.subB_step x y)
    by_cases h0 : 0 < x
    · by_cases h1 : x % 2 = 1 ∧ y % 2 = 0
      · have t1 : (((x : Int) % 2) == 1) = true := by simp; omega
        have t2 : (((y : Int) % 2) == 0) = true := by simp; omega
        have HB := Lib.hid (show Qw.subB a b = false by rw [HX.out, HS.out]; simp [h1])
        clear h1
        go_wp2
        go_ret
        exact ⟨ret_bool (a := false) HB.out.symm, rfl⟩
      · have HB : Hid (Qw.subB a b = Qw.subB (x / 2) (y / 2)) := by
          apply Lib.hid
          rw [HX.out, HS.out]
          by_cases hx1 : x % 2 = 1
          · have : y % 2 ≠ 0 := fun h => h1 ⟨hx1, h⟩
            simp [this]
          · simp [hx1]
        by_cases hx1 : x % 2 = 1
        · have t1 : (((x : Int) % 2) == 1) = true := by simp; omega
          have t2 : (((y : Int) % 2) == 0) = false := by simp; omega
          clear h1 hx1
          go_wp2
          go_round
          case rel => exact ⟨x / 2, y / 2, by omega, by omega, by go_num, by go_num, HB⟩
          case measure => simp [intOf]; omega
        · have t1 : (((x : Int) % 2) == 1) = false := by simp; omega
          clear h1 hx1
          go_wp2
          go_round
          case rel => exact ⟨x / 2, y / 2, by omega, by omega, by go_num, by go_num, HB⟩
          case measure => simp [intOf]; omega
    · have HB := Lib.hid (show Qw.subB a b = true by rw [HX.out]; have : x = 0 := by omega
                                                     subst this; exact Qw.subB_zero _)
      go_wp2
      go_ret
      exact ⟨ret_bool (a := true) HB.out.symm, rfl⟩

theorem refBelow_calls (l s l' s' : Int) (w : World) (h : labOk l s = true) (h' : labOk l' s' = true) :
    Calls Tryd.prog 35 #[.agg #[.int .i64 l, .int .i64 s], .agg #[.int .i64 l', .int .i64 s']] w fun e w' => e = .returned (.bool (belowB l s l' s')) ∧ Below w.heap.size w w' := by
  unfold labOk at h h'
  simp only [decide_eq_true_eq] at h h'
  obtain ⟨S, rfl⟩ := Int.eq_ofNat_of_zero_le h.2.2.1
  obtain ⟨S', rfl⟩ := Int.eq_ofNat_of_zero_le h'.2.2.1
  have C := Lib.hid (fun w => refWithin_calls S S' w (by omega) (by omega))
  clear h h'
  unfold belowB
  by_cases hl : l ≤ l'
  · go_enter Tryd.func35, Tryd.ntmps35
    go_wp2_with (go_at_call 56; refine (C.out _).mono ?_; rintro e w' ⟨rfl, rfl⟩)
    go_ret
    exact ⟨by simp [hl], ((Below.refl _ _).alloc (Nat.le_refl _) _).alloc (by simp) _⟩
  · go_enter Tryd.func35, Tryd.ntmps35
    go_wp2
    go_ret
    exact ⟨ret_bool (by rw [decide_eq_false (show ¬ l ≤ l' by omega)]; rfl), ((Below.refl _ _).alloc (Nat.le_refl _) _).alloc (by simp) _⟩

theorem refWith_calls (s i : Nat) (w : World) (hs : s < 4294967296) (hi : i ≤ 8) :
    Calls Tryd.prog 38 #[.int .i64 s, .int .i64 i] w fun e w' => e = .returned (.int .i64 (Qw.setBit s i : Int)) ∧ w' = w := by
  have C1 := Lib.hid (fun w => bit_calls s i w hs (by omega))
  have C2 := Lib.hid (fun w => pow2_calls i w hi)
  have hp : p2 i ≤ 256 := Nat.pow_le_pow_right (n := 2) (by decide) (j := 8) hi
  have hv := Qw.setBit_eq s i
  cases hb : s.testBit i
  · have HV : Hid (Qw.setBit s i = s + p2 i) := Lib.hid (by rw [hv, hb]; rfl)
    rw [hb] at C1
    clear hv hb
    go_enter Tryd.func38, Tryd.ntmps38
    go_wp2_with (first | (go_at_call 36; refine (C1.out _).mono ?_; rintro e w' ⟨rfl, rfl⟩) | (go_at_call 14; refine (C2.out _).mono ?_; rintro e w' ⟨rfl, rfl⟩))
    go_ret
    exact ⟨ret_i64 (by rw [HV.out]; omega), rfl⟩
  · have HV : Hid (Qw.setBit s i = s) := Lib.hid (by rw [hv, hb]; rfl)
    rw [hb] at C1
    clear hv hb
    go_enter Tryd.func38, Tryd.ntmps38
    go_wp2_with (go_at_call 36; refine (C1.out _).mono ?_; rintro e w' ⟨rfl, rfl⟩)
    go_ret
    exact ⟨ret_i64 (by rw [HV.out]), rfl⟩

theorem refBoth_calls (a b : Nat) (w : World) (ha : a < 256) (hb : b < 256) :
    Calls Tryd.prog 57 #[.int .i64 a, .int .i64 b] w fun e w' => e = .returned (.int .i64 ((a &&& b : Nat) : Int)) ∧ w' = w := by
  have HF := Lib.hid (rfl : a &&& b = Nat.land a b)
  go_enter Tryd.func57, Tryd.ntmps57
  go_wp2
  go_loop [0, 1, 5, 6] (fun x y o p => ∃ k : Nat, k ≤ 8 ∧ x = .int .i64 ((a / 2 ^ k : Nat) : Int) ∧ y = .int .i64 ((b / 2 ^ k : Nat) : Int) ∧ o = .int .i64 (((a &&& b) % 2 ^ k : Nat) : Int) ∧ p = .int .i64 ((2 ^ k : Nat) : Int)) (fun x _ _ _ => (intOf x).toNat)
  case atStart => exact ⟨0, by omega, by simp, by simp, by simp [Nat.mod_one], rfl⟩
  case round =>
    obtain ⟨k, hk, rfl, rfl, rfl, rfl⟩ := hrel
    have HS := Lib.hid (Qw.and_step a b k)
    have ha' : a / 2 ^ k < 256 := Nat.lt_of_le_of_lt (Nat.div_le_self _ _) ha
    have hb' : b / 2 ^ k < 256 := Nat.lt_of_le_of_lt (Nat.div_le_self _ _) hb
    have hp' : 2 ^ k ≤ 256 := Nat.pow_le_pow_right (n := 2) (by decide) (j := 8) hk
    have ho' : (a &&& b) % 2 ^ k < 256 := Nat.lt_of_lt_of_le (Nat.mod_lt _ (Nat.two_pow_pos _)) hp'
    have hA : Hid (a / 2 ^ (k + 1) = a / 2 ^ k / 2) := by rw [Nat.pow_succ, Nat.div_div_eq_div_mul]; rfl
    have hB : Hid (b / 2 ^ (k + 1) = b / 2 ^ k / 2) := by rw [Nat.pow_succ, Nat.div_div_eq_div_mul]; rfl
    have hP : Hid (2 ^ (k + 1) = 2 ^ k * 2) := Nat.pow_succ 2 k
    have hk8 : 0 < a / 2 ^ k → k < 8 := fun h => by
      rcases Nat.lt_or_ge k 8 with h8 | h8
      · exact h8
      · have : k = 8 := by omega
        subst this; have : a / 2 ^ 8 = 0 := Nat.div_eq_of_lt ha
        omega
    have hfa : Hid (a / 2 ^ k = 0 → (a &&& b) % 2 ^ k = a &&& b) := fun h => by
      have : a &&& b < 2 ^ k := Nat.lt_of_le_of_lt Nat.and_le_left (by
        rcases Nat.lt_or_ge a (2 ^ k) with h8 | h8
        · exact h8
        · have := Nat.div_pos h8 (Nat.two_pow_pos _); omega)
      exact Nat.mod_eq_of_lt this
    have hfb : Hid (b / 2 ^ k = 0 → (a &&& b) % 2 ^ k = a &&& b) := fun h => by
      have : a &&& b < 2 ^ k := Nat.lt_of_le_of_lt Nat.and_le_right (by
        rcases Nat.lt_or_ge b (2 ^ k) with h8 | h8
        · exact h8
        · have := Nat.div_pos h8 (Nat.two_pow_pos _); omega)
      exact Nat.mod_eq_of_lt this
    generalize a / 2 ^ k = x at *
    generalize b / 2 ^ k = y at *
    generalize hoo : (a &&& b) % 2 ^ k = o at *
    have HOO := Lib.hid hoo
    clear hoo
    generalize hpp : 2 ^ k = p at *
    have HPP := Lib.hid hpp
    clear hpp
    by_cases hx : 0 < x
    · by_cases hy : 0 < y
      · have hk' := hk8 hx
        have HV : ∀ v : Nat, (v = if x % 2 = 1 ∧ y % 2 = 1 then p else 0) → Hid ((a &&& b) % 2 ^ (k + 1) = o + v) := fun v hv => by
          rw [hv]; exact HS.out
        clear hk8 hfa hfb HF
        by_cases h1 : x % 2 = 1
        · by_cases h2 : y % 2 = 1
          · have t1 : (((x : Int) % 2) == 1) = true := by simp; omega
            have t2 : (((y : Int) % 2) == 1) = true := by simp; omega
            have HQ := HV p (by rw [if_pos ⟨h1, h2⟩])
            clear h1 h2 HV HS
            go_wp2
            go_round
            case rel => exact ⟨k + 1, by omega, by rw [hA.out]; go_num, by rw [hB.out]; go_num, by rw [HQ.out]; go_num, by rw [hP.out]; go_num⟩
            case measure => simp [intOf]; omega
          · have t1 : (((x : Int) % 2) == 1) = true := by simp; omega
            have t2 : (((y : Int) % 2) == 1) = false := by simp; omega
            have HQ := HV 0 (by rw [if_neg (fun h => h2 h.2)])
            clear h1 h2 HV HS
            go_wp2
            go_round
            case rel => exact ⟨k + 1, by omega, by rw [hA.out]; go_num, by rw [hB.out]; go_num, by rw [HQ.out]; go_num, by rw [hP.out]; go_num⟩
            case measure => simp [intOf]; omega
        · have t1 : (((x : Int) % 2) == 1) = false := by simp; omega
          have HQ := HV 0 (by rw [if_neg (fun h => h1 h.1)])
          clear h1 HV HS
          go_wp2
          go_round
          case rel => exact ⟨k + 1, by omega, by rw [hA.out]; go_num, by rw [hB.out]; go_num, by rw [HQ.out]; go_num, by rw [hP.out]; go_num⟩
          case measure => simp [intOf]; omega
      · have HQ := Lib.hid (hfb.out (by omega))
        clear hk8 hfa hfb HF HS
        go_wp2
        go_ret
        exact ⟨ret_i64 (by rw [HQ.out]), rfl⟩
    · have HQ := Lib.hid (hfa.out (by omega))
      clear hk8 hfa hfb HF HS
      go_wp2
      go_ret
      exact ⟨ret_i64 (by rw [HQ.out]), rfl⟩

theorem refEither_calls (a b : Nat) (w : World) (ha : a < 256) (hb : b < 256) :
    Calls Tryd.prog 39 #[.int .i64 a, .int .i64 b] w fun e w' => e = .returned (.int .i64 ((a ||| b : Nat) : Int)) ∧ w' = w := by
  have C := Lib.hid (fun w => refBoth_calls a b w ha hb)
  have HO := Lib.hid (Qw.or_eq a b)
  have hx : a &&& b ≤ a := Nat.and_le_left
  generalize a &&& b = x at *
  go_enter Tryd.func39, Tryd.ntmps39
  go_wp2_with (go_at_call 57; refine (C.out _).mono ?_; rintro e w' ⟨rfl, rfl⟩)
  go_ret
  exact ⟨ret_i64 (by have := HO.out; omega), rfl⟩
end Go.Proofs.YtpppfiagaiaggaaDoor
