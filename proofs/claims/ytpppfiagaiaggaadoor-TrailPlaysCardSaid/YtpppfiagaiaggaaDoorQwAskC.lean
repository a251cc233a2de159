/- The monitor is asked to copy. -/
import Derived.Test.YtpppfiagaiaggaaDoorQwHas
namespace Go.Proofs.YtpppfiagaiaggaaDoor
open Go.RowKit Go.Shelf

theorem wrap64_pow' (f : Nat) (hf : f < 8) : ∃ p : Nat, wrap64 ((2 : Int) ^ f) = (p : Int) := ⟨_, wrap64_pow f hf⟩

set_option maxRecDepth 100000 in
set_option maxHeartbeats 4000000 in
theorem ask_copy (B : Nat) (m : MonV) (b : Bell) (u f t : Nat) (w : World) (hM : MonAt w B m b) (hu : u < b.users.length) (hf : f < b.files.length) (ht : t < b.files.length) :
    Calls Tryd.prog 20 #[.pointer (some ⟨m.mb, 0, none⟩), .agg #[.int .i64 3, .int .i64 (u : Int), .int .i64 (f : Int), .int .i64 (t : Int)]] w fun e w' => e = .returned (errV (askBell b ⟨3, u, f, t⟩).2) ∧
      MonAt w' B m (askBell b ⟨3, u, f, t⟩).1 ∧ Kp m.foot w w' := by
  obtain ⟨gu, cu, gf, cf, gr, cr, gw, cw, gh, ch, _, ef, er, ew, eh, hR⟩ := hM.rd (by omega) (by omega)
  have h8 := hM.ok.users
  have f8 := hM.ok.files
  have lm := hR.lm
  have v0 := hR.v0
  have v1 := hR.v1
  have v2 := hR.v2
  have v3 := hR.v3
  obtain ⟨hf1, hf2⟩ := hR.files f hf
  have hru := hR.reads u hu
  have hwu := hR.writes u hu
  have lf := hR.lf
  have lr : gr < w.heap.size := cell_lt hru
  have lw : gw < w.heap.size := cell_lt hwu
  have hfr := hR.fr u
  have hfw := hR.fw u
  obtain ⟨rm1, rm2⟩ := hR.rm
  obtain ⟨wm1, wm2⟩ := hR.wm
  obtain ⟨rw1, rw2⟩ := hR.rw
  have hf256 : 2 ^ b.files.length ≤ 256 := Nat.pow_le_pow_right (n := 2) (by decide) (j := 8) f8
  have hrb : b.reads.getD u 0 < 256 := Nat.lt_of_lt_of_le (getD_lt hM.ok.reads u) hf256
  have hwb : b.writes.getD u 0 < 256 := Nat.lt_of_lt_of_le (getD_lt hM.ok.writes u) hf256
  have v4 := hR.v4
  have hhf := hR.holds f hf
  have hht := hR.holds t ht
  have lh : gh < w.heap.size := cell_lt hhf
  have hfh := hR.fh t
  obtain ⟨hm1, hm2⟩ := hR.hm
  have hhf256 : b.holds.getD f 0 < 256 := Nat.lt_of_lt_of_le (getD_lt hM.ok.holds f) hf256
  have hht256 : b.holds.getD t 0 < 256 := Nat.lt_of_lt_of_le (getD_lt hM.ok.holds t) hf256
  have eor := Qw.i64_or (b.holds.getD t 0) (b.holds.getD f 0) (by omega) (by omega)
  have ho : askOut b ⟨3, u, f, t⟩ = false := by simp [askOut, inR]; omega
  have hask : askBell b ⟨3, u, f, t⟩ = if (b.reads.getD u 0).testBit f && (b.writes.getD u 0).testBit t then
      ({ b with holds := b.holds.set t (b.holds.getD t 0 ||| b.holds.getD f 0) }, 0) else (b, 8) := by
    simp only [askBell, ho]; simp
  have hok2 := askBell_ok hM.ok ⟨3, u, f, t⟩
  rw [hask] at hok2 ⊢
  generalize b.reads.getD u 0 = rv at *
  generalize b.writes.getD u 0 = wv at *
  generalize b.holds.getD f 0 = hf0 at *
  generalize b.holds.getD t 0 = ht0 at *
  have C1 := Lib.hid (fun w => has_calls rv f w hrb (by omega))
  have C2 := Lib.hid (fun w => has_calls wv t w hwb (by omega))
  have hfle : (f : Int) < 8 := by omega
  obtain ⟨p, hpow⟩ := wrap64_pow' f (by omega)
  have WALK : ∀ (x y : Bool), rv.testBit f = x → (x = true → wv.testBit t = y) → (x = false → y = false) → (y = true → x = true) →
      Calls Tryd.prog 20 #[.pointer (some ⟨m.mb, 0, none⟩), .agg #[.int .i64 3, .int .i64 (u : Int), .int .i64 (f : Int), .int .i64 (t : Int)]] w fun e w' => e = .returned (errV (if y then 0 else 8)) ∧
      MonAt w' B m (if y then { b with holds := b.holds.set t (ht0 ||| hf0) } else b) ∧ Kp m.foot w w' := by
    intro x y hx hy hxy hyx
    have HM := Lib.hid hM
    have HOK2 := Lib.hid (fun (h1 : rv.testBit f = true) (h2 : wv.testBit t = true) => (by rw [h1, h2] at hok2; exact hok2 : BellOk { b with holds := b.holds.set t (ht0 ||| hf0) }))
    have HEH := Lib.hid eh
    have HX := Lib.hid hx
    have HY := Lib.hid hy
    rw [hx] at C1
    cases x
    · obtain rfl := hxy rfl
      clear hR hM hok2 hask eh er ew ef hx hy hxy hyx
      go_enter Tryd.func20, Tryd.ntmps20
      go_wp2_with fail
      go_quiet ((go_at_call 40; exact Calls.quiet_of_same (within_yes _ _ _ _ (by omega))))
      go_wp2_with fail
      go_quiet ((go_at_call 40; exact quiet_add_same (within_yes _ _ _ _ (by omega))))
      go_wp2_with fail
      go_region
      go_wp2_with fail
      go_quiet ((go_at_call 45; first | exact Calls.quiet_of_same (C1.out _) | exact quiet_add_same (C1.out _)))
      go_wp2
      go_ret
      refine ⟨rfl, ?_, ?_⟩
      · repeat (first | with_reducible exact HM.out | with_reducible refine MonAt.drew ?_ | with_reducible refine MonAt.drewN ?_ _ | with_reducible refine MonAt.alloc ?_ _)
      · repeat (first | with_reducible exact Kp.refl _ _ | with_reducible refine Kp.drew ?_ | with_reducible refine Kp.drewN ?_ _ | with_reducible refine Kp.alloc ?_ _)
    · rw [hy rfl] at C2
      clear hR hM hok2 hask eh er ew ef hx hy hxy hyx
      cases y
      all_goals
        go_enter Tryd.func20, Tryd.ntmps20
        go_wp2_with fail
        go_quiet ((go_at_call 40; exact Calls.quiet_of_same (within_yes _ _ _ _ (by omega))))
        go_wp2_with fail
        go_quiet ((go_at_call 40; exact quiet_add_same (within_yes _ _ _ _ (by omega))))
        go_wp2_with fail
        go_region
        go_wp2_with fail
        go_quiet ((go_at_call 45; first | exact Calls.quiet_of_same (C1.out _) | exact Calls.quiet_of_same (C2.out _) | exact quiet_add_same (C1.out _) | exact quiet_add_same (C2.out _)))
        go_wp2_with fail
      · go_ret
        refine ⟨rfl, ?_, ?_⟩
        · repeat (first | with_reducible exact HM.out | with_reducible refine MonAt.drew ?_ | with_reducible refine MonAt.drewN ?_ _ | with_reducible refine MonAt.alloc ?_ _)
        · repeat (first | with_reducible exact Kp.refl _ _ | with_reducible refine Kp.drew ?_ | with_reducible refine Kp.drewN ?_ _ | with_reducible refine Kp.alloc ?_ _)
      · go_region
        go_wp2
        go_ret
        refine ⟨rfl, ?_, ?_⟩
        · repeat (first | with_reducible refine MonAt.drew ?_ | with_reducible refine MonAt.drewN ?_ _ | with_reducible refine MonAt.alloc ?_ _)
          refine MonAt.setH (b := b) ?_ HEH.out t (ht0 ||| hf0) (HOK2.out HX.out (HY.out trivial))
          repeat (first | with_reducible exact HM.out | with_reducible refine MonAt.drew ?_ | with_reducible refine MonAt.drewN ?_ _ | with_reducible refine MonAt.alloc ?_ _)
        · repeat (first | with_reducible exact Kp.refl _ _ | with_reducible refine Kp.drew ?_ | with_reducible refine Kp.drewN ?_ _ | with_reducible refine Kp.alloc ?_ _ | with_reducible refine Kp.setCell ?_ (.inl (footH HEH.out)) _)
  cases hb1 : rv.testBit f
  · simpa using WALK false false hb1 (by simp) (by simp) (by simp)
  · cases hb2 : wv.testBit t
    · simpa using WALK true false hb1 (fun _ => hb2) (by simp) (by simp)
    · simpa using WALK true true hb1 (fun _ => hb2) (by simp) (by simp)
end Go.Proofs.YtpppfiagaiaggaaDoor
