/- Contracts of the references: numerals, links; what an error tells. -/
import Derived.Test.YtpppfiagaiaggaaDoorRefB
import Derived.Test.YtpppfiagaiaggaaDoorPureRefB
import Derived.Test.YtpppfiagaiaggaaDoorQwErr
namespace Go.Proofs.YtpppfiagaiaggaaDoor
open Go.RowKit

theorem dig_slice : ∀ n : Fin 10, (⟨#[48, 49, 50, 51, 52, 53, 54, 55, 56, 57]⟩ : ByteArray).extract n.val (n.val + 1) = ⟨#[UInt8.ofNat (48 + n.val)]⟩ := by decide +kernel
theorem digits_one {n : Nat} (h : n < 10) : (⟨#[48, 49, 50, 51, 52, 53, 54, 55, 56, 57]⟩ : ByteArray).extract n (n + 1) = ⟨(Lib.decDigits n).toArray⟩ := by
  rw [Lib.decDigits_one h]; exact dig_slice ⟨n, h⟩
theorem digits_big {n : Nat} (h : ¬ n < 10) : (⟨(Lib.decDigits (n / 10)).toArray⟩ : ByteArray) ++ ⟨(Lib.decDigits (n % 10)).toArray⟩ = ⟨(Lib.decDigits n).toArray⟩ := by
  rw [Qw.decDigits_big h, Lib.decDigits_one (show n % 10 < 10 by omega)]
  apply ByteArray.ext
  simp [ByteArray.data_append]
theorem ret_str {a b : ByteArray} (h : a = b) : Ending.returned (.string a) = .returned (.string b) := by rw [h]
def digB (n : Nat) : ByteArray := ⟨(Lib.decDigits n).toArray⟩

theorem digB_size {n : Nat} (hn : n ≤ 9223372036854775807) : (digB n).size ≤ 30 := by
  have h := Lib.itoa_length_le (n : Int) (by omega) (by omega)
  rw [Lib.itoa_nonneg] at h
  have e : (digB n).size = (Lib.decDigits n).length := by simp [digB, ByteArray.size]
  omega

set_option maxHeartbeats 400000 in
theorem refDigits_calls (n : Nat) (hn : n ≤ 9223372036854775807) (w : World) :
    Calls Tryd.prog 18 #[.int .i64 n] w fun e w' => e = .returned (.string (digB n)) ∧ w' = w := by
  induction n using Nat.strongRecOn generalizing w with
  | _ n ih =>
    by_cases h : n < 10
    · have H := Lib.hid (digits_one h)
      clear ih
      go_enter Tryd.func18, Tryd.ntmps18
      go_wp2
      go_ret
      exact ⟨ret_str H.out, rfl⟩
    · have H := Lib.hid (digits_big h)
      have s1 := digB_size (n := n / 10) (by omega)
      have s2 := digB_size (n := n % 10) (by omega)
      have I1 := Lib.hid (fun w => ih (n / 10) (by omega) (by omega) w)
      have I2 := Lib.hid (fun w => ih (n % 10) (by omega) (by omega) w)
      clear ih
      go_enter Tryd.func18, Tryd.ntmps18
      go_wp2_with fail
      refine (I1.out _).mono ?_
      rintro e w' ⟨rfl, rfl⟩
      go_wp2_with fail
      refine (I2.out _).mono ?_
      rintro e w' ⟨rfl, rfl⟩
      go_wp2
      go_ret
      exact ⟨ret_str H.out, rfl⟩

theorem wrap_byte (b : UInt8) : wrap64 ((b.toNat : Nat) : Int) = b.toNat := by have := b.toNat_lt; unfold wrap64; omega
theorem refLink_calls (c : Int) (s : ByteArray) (w : World) (hs : s.size < 281474976710656) :
    Calls Tryd.prog 19 #[.int .i64 c, .string s] w fun e w' => e = .returned (.int .i64 (link c s.data.toList)) ∧ w' = w := by
  have hl : s.data.toList.length = s.size := by rw [Array.length_toList]; rfl
  have HZ := Lib.hid (linkBack_zero c s.data.toList)
  have HE := Lib.hid (linkBack_end c s.data.toList)
  have HS := Lib.hid (fun k => linkBack_step c s.data.toList k)
  have HL := Lib.hid hl
  clear hl
  go_enter Tryd.func19, Tryd.ntmps19
  go_wp2
  go_loop [5, 6] (fun n i => ∃ k : Nat, k ≤ s.size ∧ i = .int .i64 ((k : Int) - 1) ∧ n = .int .i64 (linkBack c s.data.toList k)) (fun _ i => (intOf i + 1).toNat)
  case atStart => exact ⟨s.size, Nat.le_refl _, rfl, by rw [← HL.out, HE.out]⟩
  case round =>
    obtain ⟨k, hk, rfl, rfl⟩ := hrel
    cases k with
    | zero =>
      generalize linkBack c s.data.toList 0 = x at *
      go_wp2
      go_ret
      exact ⟨ret_i64 HZ.out, rfl⟩
    | succ k =>
      have hkk : k < s.size := hk
      have HK := Lib.hid (HS.out k (by rw [HL.out]; exact hkk))
      have e1 : ((k + 1 : Nat) : Int) - 1 = (k : Int) := by omega
      have hb : (s.data.toList[k]'(by rw [HL.out]; exact hkk)).toNat < 256 := UInt8.toNat_lt _
      rw [e1]
      clear e1
      generalize linkBack c s.data.toList (k + 1) = x at *
      go_wp2
      go_round
      case rel => exact ⟨k, by omega, rfl, by rw [HK.out, wrap_byte]; rfl⟩
      case measure => simp [intOf]

set_option maxHeartbeats 1000000 in
/-- plain.Told: the number of an error; 0 of nil. -/
theorem plainTold_calls (e : Int) (w : World) (hg : ErrTyped w) :
    Calls Tryd.prog 16 #[errV e] w fun ev w' => ev = .returned (.int .i64 e) ∧ Below w.heap.size w w' := by
  have hlt : 0 < w.heap.size := cell_ltB hg
  by_cases he : e = 0
  · subst he
    rw [errV_zero]
    clear hg
    go_enter Tryd.func16, Tryd.ntmps16
    go_wp2
    go_ret
    exact ⟨rfl, Below.refl _ _⟩
  · rw [errV_pos he]
    have HH := Lib.hid (as_hit e ⟨w.heap.size, 0, none⟩ (.int .i64 0) (w.alloc (.cells #[.int .i64 0] 55)) (by rw [World.cell?_alloc_lt _ _ ⟨0, 0, none⟩ hlt]; exact hg) (by simp) (by simp))
    clear hg he
    go_enter Tryd.func16, Tryd.ntmps16
    go_wp2_with (go_at_call 33; refine HH.out.mono ?_; rintro e w' ⟨rfl, rfl⟩)
    go_ret
    refine ⟨rfl, ?_⟩
    repeat (first | exact Below.refl _ _ | refine bl_alloc' ?_ _)

theorem sameError_calls (e k : Int) (w : World) (hg : ErrTyped w) :
    Calls Tryd.prog 6 #[errV e, .int .i64 k] w fun ev w' => ev = .returned (.bool (e == k)) ∧ Below w.heap.size w w' := by
  have C := Lib.hid (plainTold_calls e w hg)
  clear hg
  go_enter Tryd.func6, Tryd.ntmps6
  go_wp2_with (go_at_call 16; refine C.out.mono ?_; rintro e w' ⟨rfl, hb⟩)
  go_ret
  exact ⟨rfl, hb⟩
end Go.Proofs.YtpppfiagaiaggaaDoor
