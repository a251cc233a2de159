/- trail.Ask, whatever is asked. -/
import Derived.Test.YtpppfiagaiaggaaDoorQwTrAsk
namespace Go.Proofs.YtpppfiagaiaggaaDoor
open Go.RowKit Go.Shelf

theorem trailAsk_calls (B : Nat) (x : TrV) (t : TrSt) (a : Ask) (w : World) (h : TrailAt w B x t) (hE : Env w) (hB : 4 ≤ B) (ha : AskIn a) :
    Calls Tryd.prog 8 #[.pointer (some ⟨x.tb, 0, none⟩), .agg #[.int .i64 a.kind, .int .i64 a.user, .int .i64 a.file, .int .i64 a.to]] w fun ev w' => ∃ x', x'.tb = x.tb ∧ ev = .returned (errV (askTrail t a).2) ∧
      TrailAt w' B x' (askTrail t a).1 ∧ Kp x.foot w w' ∧ (∀ k, x'.foot k → x.foot k ∨ w.heap.size ≤ k) := by
  by_cases hm : t.many = 100
  · refine (trailAsk_full B x t a w h hm).mono ?_
    rintro ev w' ⟨rfl, hb⟩
    have : askTrail t a = (t, 4) := by unfold askTrail; rw [if_pos hm]
    rw [this]
    exact ⟨x, rfl, rfl, h.below hb, Kp.of_below hb, fun k hk => .inl hk⟩
  · obtain ⟨k, u, f, t0⟩ := a
    obtain ⟨t1, ht1, hto⟩ : ∃ t1, ((k = 3 ∧ t1 = t0) ∨ (k ≠ 3 ∧ t1 = 0)) ∧ askTo ⟨k, u, f, t0⟩ = ⟨k, u, f, t1⟩ := by
      by_cases hk : k = 3
      · exact ⟨t0, .inl ⟨hk, rfl⟩, by simp [askTo, hk]⟩
      · exact ⟨0, .inr ⟨hk, rfl⟩, by simp [askTo, hk]⟩
    have hin := askTo_in ha
    rw [hto] at hin
    refine (trailAsk_mid B x t k u f t0 t1 w h hE hB hm hin ht1 (askBell t.bell ⟨k, u, f, t1⟩).1 (askBell t.bell ⟨k, u, f, t1⟩).2 rfl).mono ?_
    rintro ev w' ⟨x', h1, rfl, h2, h3⟩
    have he : askTrail t ⟨k, u, f, t0⟩ = if (askBell t.bell ⟨k, u, f, t1⟩).2 = 1 then (t, 1) else (⟨(askBell t.bell ⟨k, u, f, t1⟩).1, t.text ++ lineOf t.chain (lineHead ⟨k, u, f, t1⟩ (askBell t.bell ⟨k, u, f, t1⟩).2), t.many + 1, link t.chain (lineHead ⟨k, u, f, t1⟩ (askBell t.bell ⟨k, u, f, t1⟩).2)⟩, (askBell t.bell ⟨k, u, f, t1⟩).2) := by
      unfold askTrail; rw [if_neg hm, hto]
    by_cases h1' : (askBell t.bell ⟨k, u, f, t1⟩).2 = 1
    · rw [if_pos h1'] at he h2
      rw [he]
      exact ⟨x', h1, by rw [h1'], h2, h3⟩
    · rw [if_neg h1'] at he h2
      rw [he]
      exact ⟨x', h1, rfl, h2, h3⟩
end Go.Proofs.YtpppfiagaiaggaaDoor
