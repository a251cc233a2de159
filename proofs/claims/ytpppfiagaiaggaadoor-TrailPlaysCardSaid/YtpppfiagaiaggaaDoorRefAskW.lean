/- The references' monitor is asked to write. -/
import Derived.Test.YtpppfiagaiaggaaDoorRefAsk
namespace Go.Proofs.YtpppfiagaiaggaaDoor
open Go.RowKit

set_option maxRecDepth 100000 in
set_option maxHeartbeats 2000000 in
theorem refAsk_write (F : Nat → Prop) (vu vf vr vw vh : Value) (b : Bell) (u f : Nat) (t : Int) (w : World) (h : RefBell w F vu vf vr vw vh b) (hu : u < b.users.length) (hf : f < b.files.length) (hF : ∀ j, F j → j < w.heap.size) :
    Calls Tryd.prog 17 #[.agg #[vu, vf, vr, vw, vh], .agg #[.int .i64 1, .int .i64 u, .int .i64 f, .int .i64 t]] w fun e w' => ∃ vw', e = .returned (.tuple #[.agg #[vu, vf, vr, vw', vh], .int .i64 (askBell b ⟨1, u, f, t⟩).2]) ∧
      RefBell w' F vu vf vr vw' vh (askBell b ⟨1, u, f, t⟩).1 ∧ Below w.heap.size w w' := by
  obtain ⟨au, af, ar, aw, ah, cu, cf, cr, cw, ch, rfl, rfl, rfl, rfl, rfl, hS⟩ := AR.start h (by omega) (by omega) 1 u f t
  have hnu := h.ok.users
  have hnf := h.ok.files
  have hw8 : b.reads.getD u 0 < 256 := Nat.lt_of_lt_of_le (getD_lt h.ok.reads u) (Nat.pow_le_pow_right (n := 2) (by decide) (j := 8) hnf)
  have i1 : inR 1 0 3 = true := rfl
  have i2 : inR u 0 ((b.users.length : Int) - 1) = true := by simp [inR]; omega
  have i3 : inR f 0 ((b.files.length : Int) - 1) = true := by simp [inR]; omega
  have HA := Lib.hid hS
  have HH := Lib.hid h
  have HFF := Lib.hid hF
  have I1 := Lib.hid i1
  have I2 := Lib.hid i2
  have I3 := Lib.hid i3
  clear hS h hF i1 i2 i3
  go_enter Tryd.func17, Tryd.ntmps17
  go_upto_region 7 with (go_at_call 34; refine (refIn_calls _ _ _ _).mono ?_; rintro e w' ⟨rfl, rfl⟩; first | rw [I1.out] | rw [I2.out] | rw [I3.out])
  generalize hW : ((w.alloc (.cells #[.slice (some au) b.users.length cu, .slice (some af) b.files.length cf, .slice (some ar) b.users.length cr, .slice (some aw) b.users.length cw, .slice (some ah) b.files.length ch] 26)).alloc
        (.cells #[.int .i64 1, .int .i64 u, .int .i64 f, .int .i64 t] 40)).alloc (.cells #[.slice none 0 0, .slice none 0 0, .slice none 0 0, .slice none 0 0, .slice none 0 0] 26) = W at HA ⊢
  have HW := Lib.hid hW
  clear hW
  have wa0 := HA.out.ax.cell 0
  simp only [List.getElem?_toArray, List.getElem?_cons_zero] at wa0
  go_quiet (fail)
  generalize hw1 : W.drewN nq = w1
  have hbW : Below W.heap.size W w1 := by rw [← hw1]; exact bl_drewN (Below.refl _ _) _
  have hA1 := HA.out.bl hbW
  have hB1 : Below w.heap.size w w1 := by
    have h0 : Below w.heap.size w W := by rw [← HW.out]; exact bl_alloc (bl_alloc (bl_alloc (Below.refl _ w) _) _) _
    exact bl_trans h0 hbW
  have HA1 := Lib.hid hA1
  have HB1 := Lib.hid hB1
  clear hw1 hbW hA1 hB1 wa0
  have C1 := Lib.hid (fun i (hi : i < b.files.length) W => bit_calls (b.reads.getD u 0) i W (by omega) (by omega))
  have D1 := Lib.hid (fun i (hi : i < b.files.length) W => refBelow_calls b.files[i].1 b.files[i].2 b.files[f].1 b.files[f].2 W (List.all_eq_true.1 HH.out.ok.filesP _ (List.getElem_mem hi)) (List.all_eq_true.1 HH.out.ok.filesP _ (List.getElem_mem hf)))
  have T12 := Lib.hid (fun i (hi : i < b.files.length) (W' : World) (hb : Below w1.heap.size w1 W') => (HA1.out.bl hb).t14 (q := u) (i := i) (j := f) hu hi hf)
  go_wp2_with fail
  go_loopw [8] (fun s8 wr => ∃ i : Nat, s8 = .int .i64 i ∧ i ≤ b.files.length ∧ Below w1.heap.size w1 wr ∧ Hid (∀ j, j < i → (b.reads.getD u 0).testBit j = true → labBelow (b.files.getD j (0, 0)) b.files[f] = true)) (fun s8 _ => b.files.length - (intOf s8).toNat)
  case atStart => exact ⟨0, rfl, Nat.zero_le _, Below.refl _ _, fun j hj => absurd hj (by omega)⟩
  case round =>
    obtain ⟨i, rfl, hi, hB, HALL⟩ := hrel
    have HAR := Lib.hid (HA1.out.bl hB)
    obtain ⟨c0, c1, c2, c3, c4, _, _, _, _, _⟩ := HAR.out.bx.five
    have a0 := HAR.out.ax.cell 0
    simp only [List.getElem?_toArray, List.getElem?_cons_zero] at a0
    by_cases hin : i < b.files.length
    · have HB := Lib.hid hB
      have hcwu := HAR.out.reads u hu
      cases hbit : (b.reads.getD u 0).testBit i
      · have C0 := Lib.hid (fun W => C1.out i hin W)
        rw [hbit] at C0
        have HBIT := Lib.hid hbit
        clear hbit hB
        generalize b.reads.getD u 0 = wv at *
        go_upto_region 12 with fail
        go_quiet (fail)
        go_upto_region 14 with fail
        go_quiet ((go_at_call 36; exact quiet_add_same (C0.out _)))
        go_wp2
        go_roundw
        case rel => exact ⟨i + 1, by go_num, by omega, bl_drewN HB.out _, fun j hj hb => by
          rcases Nat.lt_succ_iff_lt_or_eq.1 hj with h1 | h1
          · exact HALL.out j h1 hb
          · subst h1; rw [HBIT.out] at hb; cases hb⟩
        case measure => simp [intOf]; omega
      · have C0 := Lib.hid (fun W => C1.out i hin W)
        rw [hbit] at C0
        have HBIT := Lib.hid hbit
        have HNO := Lib.hid (fun (hlb : belowB b.files[i].1 b.files[i].2 b.files[f].1 b.files[f].2 = false) => (ask1_no hu hf (allBits_not hin hbit (by rw [getLab hin]; exact hlb)) : askBell b ⟨1, u, f, t⟩ = (b, 7)))
        have D0 := Lib.hid (fun W => D1.out i hin W)
        have T0 := Lib.hid (fun W hb => T12.out i hin W hb)
        clear hbit hB
        generalize b.reads.getD u 0 = wv at *
        have HB1' := HB.out
        go_upto_region 12 with fail
        go_quiet (fail)
        go_upto_region 14 with fail
        go_region_held3 (fun W => (W.cell? ⟨w.heap.size + 1, 0, none⟩ = some (.int .i64 1) ∧ W.cell? ⟨w.heap.size, 2, none⟩ = some (.slice (some ar) b.users.length cr)) ∧ (W.cell? (ar.add u) = some (.int .i64 (wv : Int)) ∧ W.cell? ⟨w.heap.size, 1, none⟩ = some (.slice (some af) b.files.length cf)) ∧
            (W.cell? (af.add (i * 2)) = some (.int .i64 b.files[i].1) ∧ W.cell? ⟨(af.add (i * 2)).block, (af.add (i * 2)).off + 1, none⟩ = some (.int .i64 b.files[i].2)) ∧
            (W.cell? (af.add (f * 2)) = some (.int .i64 b.files[f].1) ∧ W.cell? ⟨(af.add (f * 2)).block, (af.add (f * 2)).off + 1, none⟩ = some (.int .i64 b.files[f].2)))
          (first | exact T0.out _ (bl_drewN HB.out _).drew | exact T0.out _ (bl_trans (bl_drewN HB.out _).drew hb2))
          (first | (go_at_call 36; refine (C0.out _).mono ?_; rintro e w2 ⟨rfl, rfl⟩) | (go_at_call 35; refine (D0.out _).mono ?_; rintro e w2 ⟨rfl, hb2⟩))
        have hbr : Below wr.heap.size wr w2 := (bl_drewN (Below.refl wr.heap.size wr) _).drew.trans hb2
        have HBR := Lib.hid hbr
        have HB2 := Lib.hid (bl_trans HB.out hbr)
        have HA2 := Lib.hid (HAR.out.bl hbr)
        obtain ⟨x0, x1, x2, x3, x4, _, _, _, _, _⟩ := HA2.out.bx.five
        have y0 := HA2.out.ax.cell 0
        simp only [List.getElem?_toArray, List.getElem?_cons_zero] at y0
        clear hb2 hbr HB1' c0 c1 c2 c3 c4 a0 hcwu
        cases hlb : belowB b.files[i].1 b.files[i].2 b.files[f].1 b.files[f].2
        · have hfin : askBell b ⟨1, u, f, t⟩ = (b, 7) := HNO.out hlb
          have HFN := Lib.hid hfin
          obtain ⟨d0, d1, d2, d3, d4, g0, g1, g2, g3, g4⟩ := HA2.out.rx.five
          have hlt := HA2.out.rx.lt
          clear hfin hlb
          go_wp2
          refine bodyPost_ret (v := .tuple #[.agg #[.slice (some au) b.users.length cu, .slice (some af) b.files.length cf, .slice (some ar) b.users.length cr, .slice (some aw) b.users.length cw, .slice (some ah) b.files.length ch], .int .i64 7]) (by simp [results, Tryd.results17, go_sem, d0, d1, d2, d3, d4]) rfl ⟨_, by rw [HFN.out], ?_, bl_set5 (bl_trans HB1.out HB2.out) (by omega) _ _ _ _ _⟩
          rw [HFN.out]
          exact HH.out.bl (bl_set5 (bl_trans HB1.out HB2.out) (by omega) _ _ _ _ _)
        · have HLB := Lib.hid hlb
          clear hlb
          go_wp2
          go_roundw
          case rel => exact ⟨i + 1, by go_num, by omega, HB2.out, fun j hj hb => by
            rcases Nat.lt_succ_iff_lt_or_eq.1 hj with h1 | h1
            · exact HALL.out j h1 hb
            · subst h1
              rw [List.getD_eq_getElem?_getD, List.getElem?_eq_getElem hin]; exact HLB.out⟩
          case measure => simp [intOf]; omega
    · obtain rfl : i = b.files.length := by omega
      have cr3 := HAR.out.writes u hu
      have hrd : b.writes.getD u 0 < 256 := Nat.lt_of_lt_of_le (getD_lt HH.out.ok.writes u) (Nat.pow_le_pow_right (n := 2) (by decide) (j := 8) hnf)
      have hfin : askBell b ⟨1, u, f, t⟩ = ({ b with writes := b.writes.set u (Qw.setBit (b.writes.getD u 0) f) }, 0) := ask1_yes hu hf (allBits_of HALL.out)
      have HOK := Lib.hid (show BellOk { b with writes := b.writes.set u (Qw.setBit (b.writes.getD u 0) f) } from by have := askBell_ok HH.out.ok ⟨1, u, f, t⟩; rw [hfin] at this; exact this)
      have HFN := Lib.hid hfin
      have HB := Lib.hid hB
      have W1 := Lib.hid (fun W => refWith_calls (b.writes.getD u 0) f W (by omega) (by omega))
      have hRd : Reads w w.heap.size 1 (some aw) b.users.length (intsV b.writes) := by
        obtain ⟨A, c, e, _, hr⟩ := HH.out.writes.reads
        injection e with e1; subst e1; exact hr
      have E1 := Lib.hid (fun (W' : World) (hb : Below w.heap.size w W') (v : Nat) => refSet_calls (some aw) b.users.length cw b.writes u v W' ((hRd.below hb).more hb.size) (by omega) (by omega))
      have HW0 := Lib.hid (bl_trans HB1.out hB)
      have S19 := Lib.hid (fun (W' : World) (hb : Below wr.heap.size wr W') => (show (W'.cell? ⟨w.heap.size, 3, none⟩ = some (.slice (some aw) b.users.length cw) ∧ W'.frozen? ⟨w.heap.size, 3, none⟩ = false) ∧ W'.cell? (aw.add u) = some (.int .i64 ((b.writes.getD u 0 : Nat) : Int)) from ⟨⟨(HAR.out.bl hb).bx.cell 3, (HAR.out.bl hb).bx.frozen 3⟩, (HAR.out.bl hb).writes u hu⟩))
      clear hfin hB
      generalize b.writes.getD u 0 = rv at *
      go_upto_region 16 with fail
      go_quiet (fail)
      go_upto_region 21 with fail
      have lbx := HAR.out.bx.lt
      go_region_law (first | (go_simp; go_at_call 38; refine (W1.out _).mono ?_; rintro e w2 ⟨rfl, rfl⟩) | (go_simp; go_at_call 37; refine (E1.out _ ?_ _).mono ?_; (focus exact (bl_drewN HW0.out _).drew); rintro e w2 ⟨An, cn, rfl, ho2, hb2⟩; obtain ⟨⟨z1, z2⟩, _⟩ := S19.out _ (bl_trans (bl_drewN (Below.refl _ _) _).drew hb2)))
      all_goals
        have hbr : Below wr.heap.size wr w2 := bl_trans (bl_drewN (Below.refl _ _) _).drew hb2
        obtain ⟨p1, p2, p3, p4, p5⟩ := refStep (i := 3) (F := F) HAR.out.bx HAR.out.ax HAR.out.rx HW0.out hbr (Nat.le_refl _) ho2 (by unfold maxLen; omega) HFF.out
        have p1' : Blk (w2.setCell ⟨w.heap.size, 3, none⟩ (.slice An b.users.length cn)) w.heap.size 26 #[.slice (some au) b.users.length cu, .slice (some af) b.files.length cf, .slice (some ar) b.users.length cr, .slice An b.users.length cn, .slice (some ah) b.files.length ch] := p1
        obtain ⟨e0, e1, e2, e3, e4, _, _, _, _, _⟩ := p1'.five
        obtain ⟨d0, d1, d2, d3, d4, g0, g1, g2, g3, g4⟩ := p3.five
        have q0 := p2.cell 0
        simp only [List.getElem?_toArray, List.getElem?_cons_zero] at q0
        have hlt := p3.lt
        generalize hW5 : w2.setCell ⟨w.heap.size, 3, none⟩ (.slice An b.users.length cn) = W5 at *
        have P4 := Lib.hid p4
        have P5 := Lib.hid p5
        clear p1 p1' p2 p3 p4 p5 hW5 ho2 hb2 hbr z1 z2 c0 c1 c2 c3 c4 a0 cr3
        go_wp2
        refine bodyPost_ret (v := .tuple #[.agg #[.slice (some au) b.users.length cu, .slice (some af) b.files.length cf, .slice (some ar) b.users.length cr, .slice An b.users.length cn, .slice (some ah) b.files.length ch], .int .i64 0]) (by simp [results, Tryd.results17, go_sem, d0, d1, d2, d3, d4]) rfl ⟨_, by rw [HFN.out], ?_, bl_set5 P4.out (by omega) _ _ _ _ _⟩
        rw [HFN.out]
        have hb0 := HH.out.fin P4.out HFF.out (.slice (some au) b.users.length cu) (.slice (some af) b.files.length cf) (.slice (some ar) b.users.length cr) (.slice An b.users.length cn) (.slice (some ah) b.files.length ch) (w.heap.size + 1 + 1) (by omega)
        exact ⟨HOK.out, hb0.users, hb0.files, hb0.reads, P5.out.fin _ _ _ _ _, hb0.holds⟩
end Go.Proofs.YtpppfiagaiaggaaDoor
