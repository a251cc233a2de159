/- The references' monitor is asked to copy. -/
import Derived.Test.YtpppfiagaiaggaaDoorRefAsk
import Derived.StillTailTactics
namespace Go.Proofs.YtpppfiagaiaggaaDoor
open Go.RowKit

set_option maxRecDepth 100000 in
set_option maxHeartbeats 3000000 in
theorem refAsk_copy (F : Nat → Prop) (vu vf vr vw vh : Value) (b : Bell) (u f t : Nat) (w : World) (h : RefBell w F vu vf vr vw vh b) (hu : u < b.users.length) (hf : f < b.files.length) (ht : t < b.files.length) (hF : ∀ j, F j → j < w.heap.size) :
    Calls Tryd.prog 17 #[.agg #[vu, vf, vr, vw, vh], .agg #[.int .i64 3, .int .i64 u, .int .i64 f, .int .i64 t]] w fun e w' => ∃ vh', e = .returned (.tuple #[.agg #[vu, vf, vr, vw, vh'], .int .i64 (askBell b ⟨3, u, f, t⟩).2]) ∧
      RefBell w' F vu vf vr vw vh' (askBell b ⟨3, u, f, t⟩).1 ∧ Below w.heap.size w w' := by
  obtain ⟨au, af, ar, aw, ah, cu, cf, cr, cw, ch, rfl, rfl, rfl, rfl, rfl, hS⟩ := AR.start h (by omega) (by omega) 3 u f t
  have hnu := h.ok.users
  have hnf := h.ok.files
  have hr8 : b.reads.getD u 0 < 256 := Nat.lt_of_lt_of_le (getD_lt h.ok.reads u) (Nat.pow_le_pow_right (n := 2) (by decide) (j := 8) hnf)
  have hw8 : b.writes.getD u 0 < 256 := Nat.lt_of_lt_of_le (getD_lt h.ok.writes u) (Nat.pow_le_pow_right (n := 2) (by decide) (j := 8) hnf)
  have i1 : inR 3 0 3 = true := rfl
  have i2 : inR u 0 ((b.users.length : Int) - 1) = true := by simp [inR]; omega
  have i4 : inR t 0 ((b.files.length : Int) - 1) = true := by simp [inR]; omega
  have i3 : inR f 0 ((b.files.length : Int) - 1) = true := by simp [inR]; omega
  have HA := Lib.hid hS
  have HH := Lib.hid h
  have HFF := Lib.hid hF
  have I1 := Lib.hid i1
  have I2 := Lib.hid i2
  have I4 := Lib.hid i4
  have I3 := Lib.hid i3
  clear hS h hF i1 i2 i3 i4
  go_enter Tryd.func17, Tryd.ntmps17
  go_upto_region 7 with (go_at_call 34; refine (refIn_calls _ _ _ _).mono ?_; rintro e w' ⟨rfl, rfl⟩; first | rw [I1.out] | rw [I2.out] | rw [I3.out] | rw [I4.out])
  generalize hW : ((w.alloc (.cells #[.slice (some au) b.users.length cu, .slice (some af) b.files.length cf, .slice (some ar) b.users.length cr, .slice (some aw) b.users.length cw, .slice (some ah) b.files.length ch] 26)).alloc
        (.cells #[.int .i64 3, .int .i64 u, .int .i64 f, .int .i64 t] 40)).alloc (.cells #[.slice none 0 0, .slice none 0 0, .slice none 0 0, .slice none 0 0, .slice none 0 0] 26) = W at HA ⊢
  have HW := Lib.hid hW
  clear hW
  have wa0 := HA.out.ax.cell 0
  simp only [List.getElem?_toArray, List.getElem?_cons_zero] at wa0
  go_quiet (fail)
  generalize hw1 : W.drewN nq = w1
  have hbW : Below W.heap.size W w1 := by rw [← hw1]; exact bl_drewN (Below.refl _ _) _
  have hA1 := HA.out.bl hbW
  have hB1 : Below w.heap.size w w1 := by
    have h0 : Below w.heap.size w W := by rw [← HW.out]; exact bl_alloc (bl_alloc (bl_alloc (Below.refl _ w) _) _) _
    exact bl_trans h0 hbW
  have HA1 := Lib.hid hA1
  have HB1 := Lib.hid hB1
  clear hw1 hbW hA1 hB1 wa0
  go_wp2_with fail
  go_loopw [8] (fun s8 wr => ∃ i : Nat, s8 = .int .i64 i ∧ i ≤ b.files.length ∧ Below w1.heap.size w1 wr) (fun s8 _ => b.files.length - (intOf s8).toNat)
  case atStart => exact ⟨0, rfl, Nat.zero_le _, Below.refl _ _⟩
  case round =>
    obtain ⟨i, rfl, hi, hB⟩ := hrel
    have HAR := Lib.hid (HA1.out.bl hB)
    obtain ⟨c0, c1, c2, c3, c4, _, _, _, _, _⟩ := HAR.out.bx.five
    have a0 := HAR.out.ax.cell 0
    have a3 := HAR.out.ax.cell 3
    simp only [List.getElem?_toArray, List.getElem?_cons_zero, List.getElem?_cons_succ] at a0 a3
    have HB := Lib.hid hB
    by_cases hin : i < b.files.length
    · clear hB
      go_upto_region 12 with fail
      go_quiet (fail)
      go_upto_region 14 with fail
      go_quiet (fail)
      go_wp2
      go_roundw
      case rel => exact ⟨i + 1, by go_num, by omega, bl_drewN HB.out _⟩
      case measure => simp [intOf]; omega
    · obtain rfl : i = b.files.length := by omega
      have cr3 := HAR.out.reads u hu
      have cw3 := HAR.out.writes u hu
      have ch3 := HAR.out.holds f hf
      have ct3 := HAR.out.holds t ht
      have HW0 := Lib.hid (bl_trans HB1.out hB)
      have hh8 : b.holds.getD f 0 < 256 := Nat.lt_of_lt_of_le (getD_lt HH.out.ok.holds f) (Nat.pow_le_pow_right (n := 2) (by decide) (j := 8) hnf)
      have ht8 : b.holds.getD t 0 < 256 := Nat.lt_of_lt_of_le (getD_lt HH.out.ok.holds t) (Nat.pow_le_pow_right (n := 2) (by decide) (j := 8) hnf)
      have NO := Lib.hid (fun (h : ((b.reads.getD u 0).testBit f && (b.writes.getD u 0).testBit t) = false) => ask3_no hu hf ht h)
      have YES := Lib.hid (fun (h : ((b.reads.getD u 0).testBit f && (b.writes.getD u 0).testBit t) = true) => ask3_yes hu hf ht h)
      clear hB
      generalize b.reads.getD u 0 = rv at *
      generalize b.writes.getD u 0 = wv at *
      cases hrb : rv.testBit f
      · have hfin := NO.out (by rw [hrb]; rfl)
        have HFN := Lib.hid hfin
        obtain ⟨d0, d1, d2, d3, d4, g0, g1, g2, g3, g4⟩ := HAR.out.rx.five
        have hlt := HAR.out.rx.lt
        clear hfin
        go_upto_region 16 with fail
        go_quiet ((go_at_call 36; exact Calls.quiet_of_same (bit_calls _ _ _ (by omega) (by omega))))
        go_wp2
        refine bodyPost_ret (v := .tuple #[.agg #[.slice (some au) b.users.length cu, .slice (some af) b.files.length cf, .slice (some ar) b.users.length cr, .slice (some aw) b.users.length cw, .slice (some ah) b.files.length ch], .int .i64 8]) (by simp [results, Tryd.results17, go_sem, d0, d1, d2, d3, d4]) rfl ⟨_, by rw [HFN.out], ?_, bl_set5 (bl_drewN HW0.out _) (by omega) _ _ _ _ _⟩
        rw [HFN.out]
        exact HH.out.bl (bl_set5 (bl_drewN HW0.out _) (by omega) _ _ _ _ _)
      · cases hwb : wv.testBit t
        · have hfin := NO.out (by rw [hrb, hwb]; rfl)
          have HFN := Lib.hid hfin
          obtain ⟨d0, d1, d2, d3, d4, g0, g1, g2, g3, g4⟩ := HAR.out.rx.five
          have hlt := HAR.out.rx.lt
          clear hfin
          go_upto_region 16 with fail
          go_quiet ((go_at_call 36; exact Calls.quiet_of_same (bit_calls _ _ _ (by omega) (by omega))))
          go_wp2
          refine bodyPost_ret (v := .tuple #[.agg #[.slice (some au) b.users.length cu, .slice (some af) b.files.length cf, .slice (some ar) b.users.length cr, .slice (some aw) b.users.length cw, .slice (some ah) b.files.length ch], .int .i64 8]) (by simp [results, Tryd.results17, go_sem, d0, d1, d2, d3, d4]) rfl ⟨_, by rw [HFN.out], ?_, bl_set5 (bl_drewN HW0.out _) (by omega) _ _ _ _ _⟩
          rw [HFN.out]
          exact HH.out.bl (bl_set5 (bl_drewN HW0.out _) (by omega) _ _ _ _ _)
        · have hfin := YES.out (by rw [hrb, hwb]; rfl)
          have HFN := Lib.hid hfin
          have HOK := Lib.hid (show BellOk { b with holds := b.holds.set t (b.holds.getD t 0 ||| b.holds.getD f 0) } from by have := askBell_ok HH.out.ok ⟨3, u, f, t⟩; rw [hfin] at this; exact this)
          have hRd : Reads w w.heap.size 1 (some ah) b.files.length (intsV b.holds) := by
            obtain ⟨A, c, e, _, hr⟩ := HH.out.holds.reads
            injection e with e1; subst e1; exact hr
          have OR := Lib.hid (fun W => refEither_calls (b.holds.getD t 0) (b.holds.getD f 0) W ht8 hh8)
          have E1 := Lib.hid (fun (W' : World) (hb : Below w.heap.size w W') (v : Nat) => refSet_calls (some ah) b.files.length ch b.holds t v W' ((hRd.below hb).more hb.size) (by omega) (by omega))
          have S1 := Lib.hid (fun (W' : World) (hb : Below wr.heap.size wr W') => (show W'.cell? ⟨w.heap.size, 4, none⟩ = some (.slice (some ah) b.files.length ch) ∧ W'.frozen? ⟨w.heap.size, 4, none⟩ = false from ⟨(HAR.out.bl hb).bx.cell 4, (HAR.out.bl hb).bx.frozen 4⟩))
          clear hfin hRd NO YES
          generalize b.holds.getD t 0 = tv at *
          generalize b.holds.getD f 0 = hv at *
          go_upto_region 16 with fail
          go_quiet ((go_at_call 36; exact Calls.quiet_of_same (bit_calls _ _ _ (by omega) (by omega))))
          go_upto_region 26 with fail
          have lbx := HAR.out.bx.lt
          refine wp_region_still_tail 16 (by kernel_rfl) (by kernel_rfl) ?_
          have hB9 : Below wr.heap.size wr (wr.drewN nq).drew := (bl_drewN (Below.refl _ _) _).drew
          change wpStill _ _ (wr.drewN nq).drew (fun a' => wpList _ _ _ _ a' (wr.drewN nq).drew) _ _
          generalize (wr.drewN nq).drew = W9 at hB9 ⊢
          obtain ⟨n0, n1, n2, n3, n4, _, _, _, _, _⟩ := (HAR.out.bl hB9).bx.five
          have n5 := (HAR.out.bl hB9).ax.cell 3
          have n6 := hB9.cell (p := ah.add f) (cell_lt ch3)
          have n7 := hB9.cell (p := ah.add t) (cell_lt ct3)
          rw [ch3] at n6
          rw [ct3] at n7
          simp only [List.getElem?_toArray, List.getElem?_cons_zero, List.getElem?_cons_succ] at n5
          have HB9 := Lib.hid hB9
          have lb9 := hB9.size
          clear hB9 c0 c1 c2 c3 c4 a0 a3 cr3 cw3 ch3 ct3
          simp only [List.take_succ_cons, List.take_zero, List.drop_succ_cons, List.drop_zero]
          repeat still_step
          still_call (OR.out _)
          refine wpStill_nil ?_
          go_upto_region 27 with (go_at_call 37; refine (E1.out _ (bl_trans HW0.out HB9.out) _).mono ?_; rintro e w2 ⟨An, cn, rfl, ho2, hb2⟩; obtain ⟨z1, z2⟩ := S1.out _ (bl_trans HB9.out hb2); have lz := cell_lt z1)
          all_goals
            have hbr : Below wr.heap.size wr w2 := bl_trans HB9.out hb2
            obtain ⟨p1, p2, p3, p4, p5⟩ := refStep (i := 4) (F := F) HAR.out.bx HAR.out.ax HAR.out.rx HW0.out hbr (Nat.le_refl _) (ownsRow_base ho2 lb9) (by unfold maxLen; omega) HFF.out
            have p1' : Blk (w2.setCell ⟨w.heap.size, 4, none⟩ (.slice An b.files.length cn)) w.heap.size 26 #[.slice (some au) b.users.length cu, .slice (some af) b.files.length cf, .slice (some ar) b.users.length cr, .slice (some aw) b.users.length cw, .slice An b.files.length cn] := p1
            obtain ⟨e0, e1, e2, e3, e4, _, _, _, _, _⟩ := p1'.five
            obtain ⟨d0, d1, d2, d3, d4, g0, g1, g2, g3, g4⟩ := p3.five
            have hlt := p3.lt
            generalize hW5 : w2.setCell ⟨w.heap.size, 4, none⟩ (.slice An b.files.length cn) = W5 at *
            have P4 := Lib.hid p4
            have P5 := Lib.hid p5
            clear p1 p1' p2 p3 p4 p5 hW5 ho2 hb2 hbr z1 z2
            go_wp2
            refine bodyPost_ret (v := .tuple #[.agg #[.slice (some au) b.users.length cu, .slice (some af) b.files.length cf, .slice (some ar) b.users.length cr, .slice (some aw) b.users.length cw, .slice An b.files.length cn], .int .i64 0]) (by simp [results, Tryd.results17, go_sem, d0, d1, d2, d3, d4]) rfl ⟨_, by rw [HFN.out], ?_, bl_set5 P4.out (by omega) _ _ _ _ _⟩
            rw [HFN.out]
            have hb0 := HH.out.fin P4.out HFF.out (.slice (some au) b.users.length cu) (.slice (some af) b.files.length cf) (.slice (some ar) b.users.length cr) (.slice (some aw) b.users.length cw) (.slice An b.files.length cn) (w.heap.size + 1 + 1) (by omega)
            exact ⟨HOK.out, hb0.users, hb0.files, hb0.reads, hb0.writes, P5.out.fin _ _ _ _ _⟩
end Go.Proofs.YtpppfiagaiaggaaDoor
