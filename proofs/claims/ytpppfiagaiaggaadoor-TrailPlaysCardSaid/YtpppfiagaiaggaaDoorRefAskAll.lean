/- The references' monitor, whatever it is asked. -/
import Derived.Test.YtpppfiagaiaggaaDoorRefAskR
import Derived.Test.YtpppfiagaiaggaaDoorRefAskW
import Derived.Test.YtpppfiagaiaggaaDoorRefAskD
import Derived.Test.YtpppfiagaiaggaaDoorRefAskC
namespace Go.Proofs.YtpppfiagaiaggaaDoor
open Go.RowKit

theorem refAskBell_calls (F : Nat → Prop) (vu vf vr vw vh : Value) (b : Bell) (a : Ask) (w : World) (h : RefBell w F vu vf vr vw vh b) (hF : ∀ j, F j → j < w.heap.size) :
    Calls Tryd.prog 17 #[.agg #[vu, vf, vr, vw, vh], .agg #[.int .i64 a.kind, .int .i64 a.user, .int .i64 a.file, .int .i64 a.to]] w fun e w' => ∃ vr' vw' vh', e = .returned (.tuple #[.agg #[vu, vf, vr', vw', vh'], .int .i64 (askBell b a).2]) ∧
      RefBell w' F vu vf vr' vw' vh' (askBell b a).1 ∧ Below w.heap.size w w' := by
  obtain ⟨k, u, f, t⟩ := a
  cases ho : askOut b ⟨k, u, f, t⟩
  · obtain ⟨k0, k3, u0, u1, f0, f1, ht⟩ := askOut_false ho
    simp only at k0 k3 u0 u1 f0 f1 ht
    obtain ⟨U, rfl⟩ := Int.eq_ofNat_of_zero_le u0
    obtain ⟨f', rfl⟩ := Int.eq_ofNat_of_zero_le f0
    have hk : k = 0 ∨ k = 1 ∨ k = 2 ∨ k = 3 := by omega
    rcases hk with rfl | rfl | rfl | rfl
    · exact (refAsk_read F vu vf vr vw vh b U f' t w h (by omega) (by omega) hF).mono fun e w' ⟨vr', h1, h2, h3⟩ => ⟨_, _, _, h1, h2, h3⟩
    · exact (refAsk_write F vu vf vr vw vh b U f' t w h (by omega) (by omega) hF).mono fun e w' ⟨vr', h1, h2, h3⟩ => ⟨_, _, _, h1, h2, h3⟩
    · exact (refAsk_drop F vu vf vr vw vh b U f' t w h (by omega) (by omega) hF).mono fun e w' ⟨vr', vw', h1, h2, h3⟩ => ⟨_, _, _, h1, h2, h3⟩
    · obtain ⟨t0, t1⟩ := ht rfl
      obtain ⟨t', rfl⟩ := Int.eq_ofNat_of_zero_le t0
      exact (refAsk_copy F vu vf vr vw vh b U f' t' w h (by omega) (by omega) (by omega) hF).mono fun e w' ⟨vr', h1, h2, h3⟩ => ⟨_, _, _, h1, h2, h3⟩
  · refine (refAsk_out F vu vf vr vw vh b k u f t w h ho hF).mono fun e w' ⟨h1, h2⟩ => ?_
    rw [askBell_out ho]
    exact ⟨_, _, _, h1, h.bl h2, h2⟩
end Go.Proofs.YtpppfiagaiaggaaDoor
