/- The monitor is asked: whatever is asked. -/
import Derived.Test.YtpppfiagaiaggaaDoorQwAskC
import Derived.Test.YtpppfiagaiaggaaDoorQwAskR
namespace Go.Proofs.YtpppfiagaiaggaaDoor
open Go.RowKit Go.Shelf

theorem toNat_cast {i : Int} (h : 0 ≤ i) : ((i.toNat : Nat) : Int) = i := Int.toNat_of_nonneg h

theorem ask_calls (B : Nat) (m : MonV) (b : Bell) (a : Ask) (w : World) (hM : MonAt w B m b)
    (hT : 3 < w.heap.size ∧ TabAt 3 Lib.deBruijn64tab w) :
    Calls Tryd.prog 20 #[.pointer (some ⟨m.mb, 0, none⟩), .agg #[.int .i64 a.kind, .int .i64 a.user, .int .i64 a.file, .int .i64 a.to]] w fun e w' => e = .returned (errV (askBell b a).2) ∧
      MonAt w' B m (askBell b a).1 ∧ Kp m.foot w w' := by
  obtain ⟨k, u, f, t⟩ := a
  simp only []
  have h8 := hM.ok.users
  have f8 := hM.ok.files
  cases ho : askOut b ⟨k, u, f, t⟩
  · obtain ⟨h1, h2, h3, h4, h5, h6, h7⟩ := askOut_false ho
    simp only [] at h1 h2 h3 h4 h5 h6 h7
    have hu := toNat_cast h3
    have hf := toNat_cast h5
    obtain ⟨u', rfl⟩ : ∃ n : Nat, u = n := ⟨u.toNat, hu.symm⟩
    obtain ⟨f', rfl⟩ : ∃ n : Nat, f = n := ⟨f.toNat, hf.symm⟩
    have hu' : u' < b.users.length := by omega
    have hf' : f' < b.files.length := by omega
    have hk : k = 0 ∨ k = 1 ∨ k = 2 ∨ k = 3 := by omega
    rcases hk with rfl | rfl | rfl | rfl
    · exact ask_read B m b u' f' t w hM hu' hf' hT
    · exact ask_write B m b u' f' t w hM hu' hf' hT
    · refine (ask_drop B m b u' f' t w hM hu' hf').mono ?_
      rintro e w' ⟨rfl, h⟩
      refine ⟨?_, h⟩
      have : (askBell b ⟨2, u', f', t⟩).2 = 0 := by unfold askBell; rw [ho]; rfl
      rw [this]; rfl
    · obtain ⟨h8, h9⟩ := h7 rfl
      obtain ⟨t', rfl⟩ : ∃ n : Nat, t = n := ⟨t.toNat, (toNat_cast h8).symm⟩
      exact ask_copy B m b u' f' t' w hM hu' hf' (by omega)
  · have hask : askBell b ⟨k, u, f, t⟩ = (b, 1) := by unfold askBell; rw [ho]; rfl
    rw [hask]
    have fin : ∀ (e : Ending) (w' : World), e = .returned (errV 1) ∧ Below w.heap.size w w' → e = .returned (errV 1) ∧ MonAt w' B m b ∧ Kp m.foot w w' :=
      fun e w' ⟨he, hb⟩ => ⟨he, hM.below' hb, Kp.of_below hb⟩
    obtain ⟨Au, cu, Af, cf, Ar, cr, Aw, cw, Ah, ch, e1, e2, e3, e4, e5, v0, v1, v2, v3, v4⟩ := hM.vals
    have lm := hM.blk.lt
    by_cases hk : 0 ≤ k ∧ k ≤ 3
    · by_cases hu : 0 ≤ u ∧ u ≤ (b.users.length : Int) - 1
      · by_cases hf : 0 ≤ f ∧ f ≤ (b.files.length : Int) - 1
        · simp only [askOut, inR, decide_eq_true hk, decide_eq_true hu, decide_eq_true hf, Bool.and_true, Bool.not_true, Bool.false_or, Bool.and_eq_true, beq_iff_eq, Bool.not_eq_true', decide_eq_false_iff_not] at ho
          obtain ⟨rfl, ht⟩ := ho
          exact (ask_to u f t m.mb Au Af _ cu _ cf w hu hf ht h8 f8 v0 v1 lm).mono fin
        · exact (ask_file k u f t m.mb Au Af _ cu _ cf w hk hu hf h8 f8 v0 v1 lm).mono fin
      · exact (ask_user k u f t m.mb Au _ cu w hk hu h8 v0 lm).mono fin
    · exact (ask_kind k u f t m.mb w hk).mono fin
end Go.Proofs.YtpppfiagaiaggaaDoor
