/- The monitor is asked to drop. -/
import Derived.Test.YtpppfiagaiaggaaDoorQwAskA
import Derived.BigRegion
namespace Go.Proofs.YtpppfiagaiaggaaDoor
open Go.RowKit Go.Shelf

theorem wrap64_pow : ∀ k : Nat, k < 8 → wrap64 ((2 : Int) ^ k) = ((2 ^ k : Nat) : Int) := by
  intro k hk
  have h : k = 0 ∨ k = 1 ∨ k = 2 ∨ k = 3 ∨ k = 4 ∨ k = 5 ∨ k = 6 ∨ k = 7 := by omega
  rcases h with rfl | rfl | rfl | rfl | rfl | rfl | rfl | rfl <;> simp [wrap64]

theorem clr_fin : ∀ (a : Fin 256) (f : Fin 8), a.val &&& (2 ^ 64 - (2 ^ f.val + 1)) = Qw.clrBit a.val f.val := by decide +kernel
theorem footR {m : MonV} {g n c : Nat} (e : m.vr = .slice (some ⟨g, 0, none⟩) n c) : m.foot g := .inr (.inr (.inr (.inl (by rw [e]; rfl))))
theorem footW {m : MonV} {g n c : Nat} (e : m.vw = .slice (some ⟨g, 0, none⟩) n c) : m.foot g := .inr (.inr (.inr (.inr (.inl (by rw [e]; rfl)))))
theorem footH {m : MonV} {g n c : Nat} (e : m.vh = .slice (some ⟨g, 0, none⟩) n c) : m.foot g := .inr (.inr (.inr (.inr (.inr (by rw [e]; rfl)))))

theorem and_not (a f : Nat) (ha : a < 256) (hf : f < 8) : bits .andNot .i64 (a : Int) ((2 ^ f : Nat) : Int) = ((Qw.clrBit a f : Nat) : Int) := by
  have hf' : 2 ^ f < 2 ^ 8 := Nat.pow_lt_pow_right (by decide) hf
  rw [Qw.i64_andNot a (2 ^ f) (by omega) (by omega)]
  congr 1
  exact clr_fin ⟨a, ha⟩ ⟨f, hf⟩

set_option maxRecDepth 100000 in
set_option maxHeartbeats 4000000 in
theorem ask_drop (B : Nat) (m : MonV) (b : Bell) (u f : Nat) (t : Int) (w : World) (hM : MonAt w B m b) (hu : u < b.users.length) (hf : f < b.files.length) :
    Calls Tryd.prog 20 #[.pointer (some ⟨m.mb, 0, none⟩), .agg #[.int .i64 2, .int .i64 (u : Int), .int .i64 (f : Int), .int .i64 t]] w fun e w' => e = .returned .nilIface ∧
      MonAt w' B m (askBell b ⟨2, u, f, t⟩).1 ∧ Kp m.foot w w' := by
  obtain ⟨gu, cu, gf, cf, gr, cr, gw, cw, gh, ch, _, _, er, ew, eh, hR⟩ := hM.rd (by omega) (by omega)
  have h8 := hM.ok.users
  have f8 := hM.ok.files
  have lm := hR.lm
  have v0 := hR.v0
  have v1 := hR.v1
  have v2 := hR.v2
  have v3 := hR.v3
  obtain ⟨hf1, hf2⟩ := hR.files f hf
  have hru := hR.reads u hu
  have hwu := hR.writes u hu
  have lf := hR.lf
  have lr : gr < w.heap.size := cell_lt hru
  have lw : gw < w.heap.size := cell_lt hwu
  have hfr := hR.fr u
  have hfw := hR.fw u
  obtain ⟨rm1, rm2⟩ := hR.rm
  obtain ⟨wm1, wm2⟩ := hR.wm
  obtain ⟨rw1, rw2⟩ := hR.rw
  have hf256 : 2 ^ b.files.length ≤ 256 := Nat.pow_le_pow_right (n := 2) (by decide) (j := 8) f8
  have hrb : b.reads.getD u 0 < 256 := Nat.lt_of_lt_of_le (getD_lt hM.ok.reads u) hf256
  have hwb : b.writes.getD u 0 < 256 := Nat.lt_of_lt_of_le (getD_lt hM.ok.writes u) hf256
  obtain ⟨p, hp⟩ : ∃ p : Nat, p = 2 ^ f := ⟨_, rfl⟩
  have hpow : wrap64 (2 ^ f) = (p : Int) := by rw [hp]; exact wrap64_pow f (by omega)
  have e1 := and_not _ f hrb (by omega)
  have e2 := and_not _ f hwb (by omega)
  rw [← hp] at e1 e2
  have hask : (askBell b ⟨2, u, f, t⟩).1 = { { b with reads := b.reads.set u (Qw.clrBit (b.reads.getD u 0) f) } with writes := b.writes.set u (Qw.clrBit (b.writes.getD u 0) f) } := by
    have ho : askOut b ⟨2, u, f, t⟩ = false := by simp [askOut, inR]; omega
    simp [askBell, ho]
  have hok2 := askBell_ok hM.ok ⟨2, u, f, t⟩
  have hok1 : BellOk { b with reads := b.reads.set u (Qw.clrBit (b.reads.getD u 0) f) } := by
    refine ⟨hM.ok.users, hM.ok.files, hM.ok.usersP, hM.ok.filesP, by simpa using hM.ok.readsL, hM.ok.writesL, hM.ok.holdsL, ?_, hM.ok.writes, hM.ok.holds⟩
    intro x hx
    rcases mem_set hx with hx | rfl
    · exact hM.ok.reads x hx
    · exact clrBit_lt (getD_lt hM.ok.reads _)
  rw [hask] at hok2 ⊢
  generalize b.reads.getD u 0 = rv at *
  generalize b.writes.getD u 0 = wv at *
  generalize Qw.clrBit rv f = rc at *
  generalize Qw.clrBit wv f = wc at *
  have HM := Lib.hid hM
  have HOK1 := Lib.hid hok1
  have HOK2 := Lib.hid hok2
  have HER := Lib.hid er
  have HEW := Lib.hid ew
  clear hR hM hok1 hok2 hask hp eh er ew
  go_enter Tryd.func20, Tryd.ntmps20
  go_wp2_with fail
  go_quiet ((go_at_call 40; exact Calls.quiet_of_same (within_yes _ _ _ _ (by omega))))
  go_wp2_with fail
  go_quiet (fail)
  go_wp2_with fail
  go_region
  go_wp2_with fail
  go_region
  go_wp2_with fail
  go_region
  go_wp2
  go_ret
  refine ⟨rfl, ?_, ?_⟩
  · repeat (first | with_reducible refine MonAt.drew ?_ | with_reducible refine MonAt.drewN ?_ _ | with_reducible refine MonAt.alloc ?_ _)
    refine MonAt.setW (b := { b with reads := b.reads.set u rc }) ?_ HEW.out u wc HOK2.out
    refine MonAt.setR (b := b) ?_ HER.out u rc HOK1.out
    repeat (first | with_reducible exact HM.out | with_reducible refine MonAt.drew ?_ | with_reducible refine MonAt.drewN ?_ _ | with_reducible refine MonAt.alloc ?_ _)
  · repeat (first | with_reducible exact Kp.refl _ _ | with_reducible refine Kp.drew ?_ | with_reducible refine Kp.drewN ?_ _ | with_reducible refine Kp.alloc ?_ _ | with_reducible refine Kp.setCell ?_ (.inl (footR HER.out)) _ | with_reducible refine Kp.setCell ?_ (.inl (footW HEW.out)) _)
end Go.Proofs.YtpppfiagaiaggaaDoor
