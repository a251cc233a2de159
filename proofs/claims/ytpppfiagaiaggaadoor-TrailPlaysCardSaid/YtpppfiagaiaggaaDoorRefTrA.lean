/- The references' trail, whatever it is asked. -/
import Derived.Test.YtpppfiagaiaggaaDoorRefTrL
namespace Go.Proofs.YtpppfiagaiaggaaDoor
open Go.RowKit

theorem askTrail_chain {t : TrSt} {a : Ask} (hc : 0 ≤ t.chain ∧ t.chain < 9973) (ha : AskIn a) : 0 ≤ (askTrail t a).1.chain ∧ (askTrail t a).1.chain < 9973 := by
  unfold askTrail
  split
  · exact hc
  · simp only []
    split
    · exact hc
    · exact link_nonneg hc.1 hc.2 (by have := lineHead_length (askTo_in ha) (askBell_in64 t.bell (askTo a)); omega)

theorem refTrAsk_calls (F : Nat → Prop) (vu vf vr vw vh : Value) (t : TrSt) (a : Ask) (w : World) (h : RefBell w F vu vf vr vw vh t.bell) (hF : ∀ j, F j → j < w.heap.size) (hok : TrOk t) (hc : 0 ≤ t.chain ∧ t.chain < 9973) :
    Calls Tryd.prog 7 #[refTrV vu vf vr vw vh t, .agg #[.int .i64 a.kind, .int .i64 a.user, .int .i64 a.file, .int .i64 a.to]] w fun ev w' => ∃ vr' vw' vh',
      ev = .returned (.tuple #[refTrV vu vf vr' vw' vh' (askTrail t a).1, .int .i64 (askTrail t a).2]) ∧ RefBell w' F vu vf vr' vw' vh' (askTrail t a).1.bell ∧ Below w.heap.size w w' := by
  have h100 := hok.many
  have htx := hok.text
  by_cases hm : t.many = 100
  · have e : askTrail t a = (t, 4) := by unfold askTrail; rw [if_pos hm]
    rw [e]
    refine (refTrAsk_full F vu vf vr vw vh t a w h hm).mono ?_
    rintro ev w' ⟨h1, h2⟩
    exact ⟨_, _, _, h1, h.bl h2, h2⟩
  · by_cases he : (askBell t.bell a).2 = 1
    · have e : askTrail t a = (t, 1) := by unfold askTrail; rw [if_neg hm, askBell_to]; simp [he]
      rw [e]
      refine (refTrAsk_range F vu vf vr vw vh t a w h hF (by omega) he).mono ?_
      rintro ev w' ⟨h1, h2⟩
      exact ⟨_, _, _, h1, h.bl h2, h2⟩
    · obtain ⟨k, u, f, g⟩ := a
      have ho : askOut t.bell ⟨k, u, f, g⟩ = false := by
        cases hx : askOut t.bell ⟨k, u, f, g⟩
        · rfl
        · rw [askBell_out hx] at he; exact absurd rfl he
      obtain ⟨k0, k3, u0, u1, f0, f1, ht⟩ := askOut_false ho
      simp only at k0 k3 u0 u1 f0 f1 ht
      obtain ⟨K, rfl⟩ := Int.eq_ofNat_of_zero_le k0
      obtain ⟨U, rfl⟩ := Int.eq_ofNat_of_zero_le u0
      obtain ⟨f', rfl⟩ := Int.eq_ofNat_of_zero_le f0
      have hu8 := h.ok.users
      have hf8 := h.ok.files
      obtain ⟨t1, ht1, ht8, hto⟩ : ∃ t1 : Nat, ((K = 3 ∧ g = t1) ∨ (K ≠ 3 ∧ t1 = 0)) ∧ t1 < 8 ∧ askTo ⟨K, U, f', g⟩ = ⟨K, U, f', t1⟩ := by
        by_cases hk : K = 3
        · obtain ⟨g0, g1⟩ := ht (by omega)
          obtain ⟨g', rfl⟩ := Int.eq_ofNat_of_zero_le g0
          exact ⟨g', .inl ⟨hk, rfl⟩, by omega, by unfold askTo; rw [if_pos (by show (K : Int) = 3; omega)]⟩
        · exact ⟨0, .inr ⟨hk, rfl⟩, by omega, by unfold askTo; rw [if_neg (by show ¬ (K : Int) = 3; omega)]; rfl⟩
      obtain ⟨e, he', he8⟩ : ∃ e : Nat, (askBell t.bell ⟨K, U, f', g⟩).2 = e ∧ e ≤ 8 := by
        rcases askBell_err t.bell ⟨K, U, f', g⟩ with h | h | h | h
        · exact ⟨0, h, by omega⟩
        · exact ⟨1, h, by omega⟩
        · exact ⟨7, h, by omega⟩
        · exact ⟨8, h, by omega⟩
      have hE : askTrail t ⟨K, U, f', g⟩ = (⟨(askBell t.bell ⟨K, U, f', g⟩).1, t.text ++ lineOf t.chain (lineHead ⟨K, U, f', t1⟩ e), t.many + 1, link t.chain (lineHead ⟨K, U, f', t1⟩ e)⟩, (e : Int)) := by
        unfold askTrail
        rw [if_neg hm, askBell_to, hto]
        simp only []
        rw [if_neg he, he']
      rw [hE]
      exact refTrAsk_line F vu vf vr vw vh t K U f' t1 e g (askBell t.bell ⟨K, U, f', g⟩).1 w h hF (by omega) (by rw [← he']) (by rw [he'] at he; omega) he8 (by omega) (by omega) (by omega) ht1 ht8 (by omega) hc
end Go.Proofs.YtpppfiagaiaggaaDoor
