/- Contracts of the leaves: core.Within, core.Mask, core.Has, label.Check, label.both, label.Below, bell.below. -/
import Derived.Test.YtpppfiagaiaggaaDoorQwBase
import Derived.Test.YtpppfiagaiaggaaDoorPureBell
namespace Go.Proofs.YtpppfiagaiaggaaDoor
open Go.RowKit

theorem within_calls (n a b : Int) (w : World) :
    Calls Tryd.prog 40 #[.int .i64 n, .int .i64 a, .int .i64 b] w fun e w' => e = .returned (.bool (decide (a ≤ n) && decide (n ≤ b))) ∧ w = w' := by
  go_enter Tryd.func40, Tryd.ntmps40
  by_cases h1 : a ≤ n <;> by_cases h2 : n ≤ b
  all_goals
    go_wp2
    go_ret
    simp [h1, h2]

theorem mask8_calls (s : Int) (w : World) :
    Calls Tryd.prog 62 #[.int .i64 s, .int .i64 8] w fun e w' => e = .returned (.bool (decide (0 ≤ s) && decide (s < 256))) ∧ w = w' := by
  go_enter Tryd.func62, Tryd.ntmps62
  by_cases h1 : 0 ≤ s <;> by_cases h2 : s < 256
  all_goals
    go_wp2
    go_ret
    simp [h1, h2]

theorem labelCheck_calls (l s : Int) (w : World) :
    Calls Tryd.prog 51 #[.agg #[.int .i64 l, .int .i64 s]] w fun e w' => e = .returned (errV (if labOk l s then 0 else 1)) ∧ Below w.heap.size w w' := by
  by_cases h1 : (decide (0 ≤ l) && decide (l ≤ 7)) = true
  · by_cases h2 : (decide (0 ≤ s) && decide (s < 256)) = true
    · have ok : labOk l s = true := by simp at h1 h2; simp [labOk]; omega
      rw [ok]
      go_enter Tryd.func51, Tryd.ntmps51
      go_wp2_with (first | (go_at_call 40; refine (within_calls _ _ _ _).mono ?_; rintro e w' ⟨rfl, rfl⟩; rw [h1]) | (go_at_call 62; refine (mask8_calls _ _).mono ?_; rintro e w' ⟨rfl, rfl⟩; rw [h2]))
      go_ret
      exact ⟨rfl, (Below.refl _ _).alloc (Nat.le_refl _) _⟩
    · have ok : labOk l s = false := by simp at h1 h2; simp [labOk]; omega
      simp only [Bool.not_eq_true] at h2
      rw [ok]
      go_enter Tryd.func51, Tryd.ntmps51
      go_wp2_with (first | (go_at_call 40; refine (within_calls _ _ _ _).mono ?_; rintro e w' ⟨rfl, rfl⟩; rw [h1]) | (go_at_call 62; refine (mask8_calls _ _).mono ?_; rintro e w' ⟨rfl, rfl⟩; rw [h2]))
      go_ret
      exact ⟨rfl, (Below.refl _ _).alloc (Nat.le_refl _) _⟩
  · have ok : labOk l s = false := by simp at h1; simp [labOk]; omega
    simp only [Bool.not_eq_true] at h1
    rw [ok]
    go_enter Tryd.func51, Tryd.ntmps51
    go_wp2_with (go_at_call 40; refine (within_calls _ _ _ _).mono ?_; rintro e w' ⟨rfl, rfl⟩; rw [h1])
    go_ret
    exact ⟨rfl, (Below.refl _ _).alloc (Nat.le_refl _) _⟩

theorem labelBoth_calls (l s l' s' : Int) (w : World) (h : labOk l s = true) (h' : labOk l' s' = true) :
    Calls Tryd.prog 65 #[.agg #[.int .i64 l, .int .i64 s], .agg #[.int .i64 l', .int .i64 s']] w fun e w' => e = .returned .nilIface ∧ Below w.heap.size w w' := by
  have c1 := fun w => labelCheck_calls l s w
  have c2 := fun w => labelCheck_calls l' s' w
  simp only [h, h', if_true, errV_zero] at c1 c2
  have C1 := Lib.hid c1
  have C2 := Lib.hid c2
  clear c1 c2 h h'
  go_enter Tryd.func65, Tryd.ntmps65
  go_wp2_with fail
  refine (C1.out _).mono ?_
  rintro e w1 ⟨rfl, hb1⟩
  obtain ⟨hc, hf⟩ := bcell hb1
  go_wp2_with fail
  refine (C2.out _).mono ?_
  rintro e w2 ⟨rfl, hb2⟩
  go_wp2
  go_ret
  exact ⟨rfl, (((Below.refl _ _).alloc (Nat.le_refl _) _).alloc (by simp) _).trans ((hb1.mono (by simp; omega)).trans (hb2.mono (by have := hb1.size; simp at this; omega)))⟩

theorem labelBelow_calls (l s l' s' : Int) (w : World) (h : labOk l s = true) (h' : labOk l' s' = true) :
    Calls Tryd.prog 58 #[.agg #[.int .i64 l, .int .i64 s], .agg #[.int .i64 l', .int .i64 s']] w fun e w' => e = .returned (.tuple #[.bool (belowB l s l' s'), .nilIface]) ∧ Below w.heap.size w w' := by
  have c1 := fun w => labelBoth_calls l s l' s' w h h'
  have hs : (bits .andNot .i64 s s' == 0) = Qw.subB s.toNat s'.toNat := by
    unfold labOk at h h'
    simp only [decide_eq_true_eq] at h h'
    obtain ⟨S, rfl⟩ := Int.eq_ofNat_of_zero_le h.2.2.1
    obtain ⟨S', rfl⟩ := Int.eq_ofNat_of_zero_le h'.2.2.1
    exact Qw.andNot_zero S S' (by omega) (by omega)
  have C1 := Lib.hid c1
  have HS := Lib.hid hs
  clear c1 hs h h'
  unfold belowB
  by_cases hl : l ≤ l'
  · go_enter Tryd.func58, Tryd.ntmps58
    go_wp2_with fail
    refine (C1.out _).mono ?_
    rintro e w1 ⟨rfl, hb1⟩
    obtain ⟨hc, hf⟩ := bcell hb1
    go_wp2
    go_ret2
    exact ⟨by rw [HS.out]; simp [hl], (((Below.refl _ _).alloc (Nat.le_refl _) _).alloc (by simp) _).trans (hb1.mono (by simp; omega))⟩
  · go_enter Tryd.func58, Tryd.ntmps58
    go_wp2_with fail
    refine (C1.out _).mono ?_
    rintro e w1 ⟨rfl, hb1⟩
    obtain ⟨hc, hf⟩ := bcell hb1
    go_wp2
    go_ret2
    exact ⟨by have hn : ¬ l ≤ l' := by omega
              simp [hn], (((Below.refl _ _).alloc (Nat.le_refl _) _).alloc (by simp) _).trans (hb1.mono (by simp; omega))⟩

theorem bellBelow_calls (l s l' s' : Int) (w : World) (h : labOk l s = true) (h' : labOk l' s' = true) :
    Calls Tryd.prog 41 #[.agg #[.int .i64 l, .int .i64 s], .agg #[.int .i64 l', .int .i64 s']] w fun e w' => e = .returned (.bool (belowB l s l' s')) ∧ Below w.heap.size w w' := by
  have c1 := fun w => labelBelow_calls l s l' s' w h h'
  have C1 := Lib.hid c1
  clear c1 h h'
  generalize belowB l s l' s' = r at *
  go_enter Tryd.func41, Tryd.ntmps41
  go_wp2_with fail
  refine (C1.out _).mono ?_
  rintro e w1 ⟨rfl, hb1⟩
  obtain ⟨hc, hf⟩ := bcell hb1
  go_wp2
  go_ret
  exact ⟨rfl, (((Below.refl _ _).alloc (Nat.le_refl _) _).alloc (by simp) _).trans (hb1.mono (by simp; omega))⟩
end Go.Proofs.YtpppfiagaiaggaaDoor
