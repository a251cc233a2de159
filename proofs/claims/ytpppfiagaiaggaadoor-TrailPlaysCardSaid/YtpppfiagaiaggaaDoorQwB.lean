/- bell.labels, slices.Clone of labels, bell.New. -/
import Derived.Test.YtpppfiagaiaggaaDoorQwA
namespace Go.Proofs.YtpppfiagaiaggaaDoor
open Go.RowKit

set_option maxHeartbeats 400000 in
theorem labels_calls (A : Option Addr) (n c : Nat) (xs : List (Int × Int)) (most : Int) (w : World) (h : LabsAt w w.heap.size A n xs) (hm : most ≤ 100) :
    Calls Tryd.prog 31 #[.slice A n c, .int .i64 most] w fun e w' => e = .returned (errV (labsErr most xs)) ∧ Below w.heap.size w w' := by
  have hl := h.1
  have hmx := h.2.1
  unfold maxLen at hmx
  have HL := Lib.hid hl
  clear hl
  by_cases hbig : most < (n : Int)
  · go_enter Tryd.func31, Tryd.ntmps31
    go_wp2
    go_ret
    exact ⟨by unfold labsErr; rw [HL.out, if_pos hbig]; rfl, Below.refl _ _⟩
  · have hA' := Lib.hid h
    clear h
    go_enter Tryd.func31, Tryd.ntmps31
    go_wp2
    go_loopw [15] (fun i wr => ∃ k : Nat, k ≤ n ∧ i = .int .i64 k ∧ (xs.take k).all labP = true ∧ Below w.heap.size w wr) (fun i _ => n - (intOf i).toNat)
    case atStart => exact ⟨0, Nat.zero_le _, rfl, rfl, Below.refl _ _⟩
    case round =>
      obtain ⟨k, hk, rfl, hall, hB⟩ := hrel
      have HALL := Lib.hid hall
      clear hall
      by_cases hkn : k < n
      · have hlt : k < xs.length := by rw [HL.out]; exact hkn
        obtain ⟨ad, rfl, hadb, h1', h2'⟩ := (hA'.out.below hB).at_ hlt
        have hsn : (xs.take (k + 1)).all labP = ((xs.take k).all labP && labOk xs[k].1 xs[k].2) := by
          rw [List.take_succ_eq_append_getElem hlt, List.all_append]; simp [labP]
        have HSN := Lib.hid hsn
        clear hsn
        have hBa : Below w.heap.size w (wr.alloc (.cells #[.int .i64 xs[k].1, .int .i64 xs[k].2] 67)) := hB.alloc hB.size _
        generalize xs[k] = x at *
        obtain ⟨l, s⟩ := x
        have C := labelCheck_calls l s
        have e0 : (if labOk l s = true then (0 : Int) else 1) = if labOk l s then 0 else 1 := rfl
        clear e0
        cases hok : labOk l s
        · rw [hok] at C HSN
          have C' := Lib.hid C
          clear C hok
          have hfin : labsErr most xs = 1 := by
            unfold labsErr
            rw [if_neg (by rw [HL.out]; omega), if_neg]
            intro ha
            have : (xs.take (k + 1)).all labP = true := by
              rw [List.all_eq_true] at ha ⊢
              exact fun x hx => ha x (List.mem_of_mem_take hx)
            rw [HSN.out] at this
            simp at this
          have HFIN := Lib.hid hfin
          clear hfin
          go_wp2_with fail
          refine (C'.out _).mono ?_
          rintro e w1 ⟨rfl, hb1⟩
          simp only [errV, Bool.false_eq_true, if_false, Int.reduceEq]
          go_wp2
          go_ret
          exact ⟨by rw [HFIN.out]; rfl, hBa.trans (hb1.mono (by have := hB.size; simp; omega))⟩
        · rw [hok] at C HSN
          have C' := Lib.hid C
          clear C hok
          go_wp2_with fail
          refine (C'.out _).mono ?_
          rintro e w1 ⟨rfl, hb1⟩
          simp only [errV, if_true]
          go_wp2
          go_roundw
          case rel => exact ⟨k + 1, by omega, by go_num, by rw [HSN.out, HALL.out]; rfl, hBa.trans (hb1.mono (by have := hB.size; simp; omega))⟩
          case measure => simp [intOf]; omega
      · have hk' : k = n := by omega
        have hall := HALL.out
        have hfin : labsErr most xs = 0 := by
          unfold labsErr
          rw [hk', ← HL.out, List.take_length] at hall
          rw [if_neg (by rw [HL.out]; omega), if_pos hall]
        have HFIN := Lib.hid hfin
        clear hfin hall hk'
        go_wp2
        go_ret
        exact ⟨by rw [HFIN.out]; rfl, hB⟩

theorem ownsRow_slice {w : World} {B : Nat} {e : TypeId} {size n : Nat} {v : Value} {xs : List Value} (h : w.ownsRow B e size v n xs) : ∃ A c, v = .slice A n c := by
  rcases h.2 with ⟨rfl, rfl⟩ | ⟨g, cap, cur, rfl, _⟩
  · exact ⟨none, 0, rfl⟩
  · exact ⟨_, _, rfl⟩

theorem info_lab : (Tryd.prog.info? 67).map (fun i => (i.zero, i.size, i.bytes)) = some (some (.agg #[.int .i64 0, .int .i64 0]), 2, 16) := by kernel_rfl

set_option maxHeartbeats 400000 in
theorem cloneLab_calls (B : Nat) (A : Option Addr) (n c : Nat) (news : List Value) (w : World) (hB : B ≤ w.heap.size) (h : Reads w w.heap.size 2 A n news) (h1 : ∀ u ∈ news, u.oneCell' = true) (hn : n ≤ 1000) :
    Calls Tryd.prog 32 #[.slice A n c] w fun e w' => ∃ A' c', e = .returned (.slice A' n c') ∧ w'.ownsRow B 67 2 (.slice A' n c') n news ∧ Below w.heap.size w w' := by
  obtain ⟨i0, hi0, hz0, hz1, hz2⟩ := info_parts info_lab
  have q := fun (w : World) (a : Option Addr) (n c n' c' : Nat) => Lib.run_eql_slice_nil (P := Tryd.prog) w 22 67 a n c n' c' Tryd.underlying22
  have H := Lib.hid h
  clear h
  rcases A with _ | ad
  · go_enter Tryd.func32, Tryd.ntmps32
    go_wp2
    go_ret
    have hm : n = 0 := by
      rcases Nat.eq_zero_or_pos n with h0 | h0
      · exact h0
      · obtain ⟨ad, h, _⟩ := H.out.2 h0
        cases h
    have hl := H.out.1
    subst hm
    have hn0 : news = [] := List.eq_nil_of_length_eq_zero (by simpa using hl)
    subst hn0
    exact ⟨none, 0, rfl, ⟨by simp, .inl ⟨rfl, rfl⟩⟩, Below.refl _ _⟩
  · go_enter Tryd.func32, Tryd.ntmps32
    go_wp2_with (at_builtin; refine wpList_append_any _ rfl (.tmp 5) (.tmp 6) _ rfl B 67 i0 _ 2 16 Tryd.underlying22 hi0 hz0 hz1 hz2 rfl (by omega) _ 0 [] rfl (World.ownsRow_made w #[] 0 hB (Nat.zero_le _) (by simp)) w.heap.size (some ad) n c news rfl ?qc1 h1 ?qc2 ?qc3 ?qc4 ?_)
    case qc1 => exact H.out.alloc (Nat.le_refl _) _
    case qc2 => simp only [maxLen]; omega
    case qc3 => omega
    case qc4 => simp; omega
    intro v' w1 hown hgrow hblk
    obtain ⟨A', c', hv⟩ := ownsRow_slice hown
    rw [hv] at hown ⊢
    clear hv hblk
    go_wp2
    go_ret
    refine ⟨A', c', by simp, by simpa using hown, ?_⟩
    exact ((Below.refl _ w).alloc (Nat.le_refl _) _).grown hgrow (by simp) (by intro k hk; simp [Value.ownBlock] at hk; omega)
end Go.Proofs.YtpppfiagaiaggaaDoor
