/- The references' monitor is asked to drop. -/
import Derived.Test.YtpppfiagaiaggaaDoorRefAsk
import Derived.Deep.Cut
import Derived.Deep.DeepCutAuto
namespace Go.Proofs.YtpppfiagaiaggaaDoor
open Go.RowKit

theorem pow_le_set (s f : Nat) : p2 f ≤ Qw.setBit s f := by
  rw [Qw.setBit_eq]
  unfold p2
  split
  · rename_i h; exact Nat.ge_two_pow_of_testBit h
  · omega
theorem sub_cast {a b : Nat} (h : b ≤ a) (ha : a < 256) : Value.int .i64 (IntKind.i64.wrap ((a : Int) - (b : Int))) = Value.int .i64 ((a - b : Nat) : Int) := by
  rw [← Int.ofNat_sub h, Qw.wrap_small _ (by omega)]

theorem rd_at {w : World} {F : Nat → Prop} {ad : Addr} {c n i : Nat} {l : List Nat} (h : RdF w F 1 (.slice (some ad) n c) n (intsV l)) (hl : l.length = n) (hi : i < n) : w.cell? (ad.add i) = some (.int .i64 ((l.getD i 0 : Nat) : Int)) := by
  obtain ⟨ad', c', e, _, hc⟩ := rd_ints h hl (by omega)
  injection e with e1; injection e1 with e1; subst e1
  exact hc i hi
/-- Behind the dropping of what is read. -/
def DropMid (w : World) (F : Nat → Prop) (u f : Nat) (b : Bell) (vu vf vw vh : Value) (t : Int) (ys : List Value) (wx : World) : Prop :=
  ∃ An cn, Blk wx w.heap.size 26 #[vu, vf, .slice An b.users.length cn, vw, vh] ∧ Blk wx (w.heap.size + 1) 40 #[.int .i64 2, .int .i64 u, .int .i64 f, .int .i64 t] ∧
    Blk wx (w.heap.size + 1 + 1) 26 #[.slice none 0 0, .slice none 0 0, .slice none 0 0, .slice none 0 0, .slice none 0 0] ∧ Below w.heap.size w wx ∧
    RdF wx (fun j => F j ∨ j = w.heap.size ∨ j = w.heap.size + 1 + 1) 1 (.slice An b.users.length cn) b.users.length ys

set_option maxRecDepth 100000 in
set_option maxHeartbeats 2000000 in
theorem refAsk_drop (F : Nat → Prop) (vu vf vr vw vh : Value) (b : Bell) (u f : Nat) (t : Int) (w : World) (h : RefBell w F vu vf vr vw vh b) (hu : u < b.users.length) (hf : f < b.files.length) (hF : ∀ j, F j → j < w.heap.size) :
    Calls Tryd.prog 17 #[.agg #[vu, vf, vr, vw, vh], .agg #[.int .i64 2, .int .i64 u, .int .i64 f, .int .i64 t]] w fun e w' => ∃ vr' vw', e = .returned (.tuple #[.agg #[vu, vf, vr', vw', vh], .int .i64 (askBell b ⟨2, u, f, t⟩).2]) ∧
      RefBell w' F vu vf vr' vw' vh (askBell b ⟨2, u, f, t⟩).1 ∧ Below w.heap.size w w' := by
  obtain ⟨au, af, ar, aw, ah, cu, cf, cr, cw, ch, rfl, rfl, rfl, rfl, rfl, hS⟩ := AR.start h (by omega) (by omega) 2 u f t
  have hnu := h.ok.users
  have hnf := h.ok.files
  have hr8 : b.reads.getD u 0 < 256 := Nat.lt_of_lt_of_le (getD_lt h.ok.reads u) (Nat.pow_le_pow_right (n := 2) (by decide) (j := 8) hnf)
  have hw8 : b.writes.getD u 0 < 256 := Nat.lt_of_lt_of_le (getD_lt h.ok.writes u) (Nat.pow_le_pow_right (n := 2) (by decide) (j := 8) hnf)
  have i1 : inR 2 0 3 = true := rfl
  have i2 : inR u 0 ((b.users.length : Int) - 1) = true := by simp [inR]; omega
  have i3 : inR f 0 ((b.files.length : Int) - 1) = true := by simp [inR]; omega
  have HA := Lib.hid hS
  have HH := Lib.hid h
  have HFF := Lib.hid hF
  have I1 := Lib.hid i1
  have I2 := Lib.hid i2
  have I3 := Lib.hid i3
  clear hS h hF i1 i2 i3
  go_enter Tryd.func17, Tryd.ntmps17
  go_upto_region 7 with (go_at_call 34; refine (refIn_calls _ _ _ _).mono ?_; rintro e w' ⟨rfl, rfl⟩; first | rw [I1.out] | rw [I2.out] | rw [I3.out])
  generalize hW : ((w.alloc (.cells #[.slice (some au) b.users.length cu, .slice (some af) b.files.length cf, .slice (some ar) b.users.length cr, .slice (some aw) b.users.length cw, .slice (some ah) b.files.length ch] 26)).alloc
        (.cells #[.int .i64 2, .int .i64 u, .int .i64 f, .int .i64 t] 40)).alloc (.cells #[.slice none 0 0, .slice none 0 0, .slice none 0 0, .slice none 0 0, .slice none 0 0] 26) = W at HA ⊢
  have HW := Lib.hid hW
  clear hW
  have wa0 := HA.out.ax.cell 0
  simp only [List.getElem?_toArray, List.getElem?_cons_zero] at wa0
  go_quiet (fail)
  generalize hw1 : W.drewN nq = w1
  have hbW : Below W.heap.size W w1 := by rw [← hw1]; exact bl_drewN (Below.refl _ _) _
  have hA1 := HA.out.bl hbW
  have hB1 : Below w.heap.size w w1 := by
    have h0 : Below w.heap.size w W := by rw [← HW.out]; exact bl_alloc (bl_alloc (bl_alloc (Below.refl _ w) _) _) _
    exact bl_trans h0 hbW
  have HA1 := Lib.hid hA1
  have HB1 := Lib.hid hB1
  clear hw1 hbW hA1 hB1 wa0
  go_wp2_with fail
  go_loopw [8] (fun s8 wr => ∃ i : Nat, s8 = .int .i64 i ∧ i ≤ b.files.length ∧ Below w1.heap.size w1 wr) (fun s8 _ => b.files.length - (intOf s8).toNat)
  case atStart => exact ⟨0, rfl, Nat.zero_le _, Below.refl _ _⟩
  case round =>
    obtain ⟨i, rfl, hi, hB⟩ := hrel
    have HAR := Lib.hid (HA1.out.bl hB)
    obtain ⟨c0, c1, c2, c3, c4, _, _, _, _, _⟩ := HAR.out.bx.five
    have a0 := HAR.out.ax.cell 0
    have a3 := HAR.out.ax.cell 3
    simp only [List.getElem?_toArray, List.getElem?_cons_zero, List.getElem?_cons_succ] at a0 a3
    have HB := Lib.hid hB
    by_cases hin : i < b.files.length
    · clear hB
      go_upto_region 12 with fail
      go_quiet (fail)
      go_upto_region 14 with fail
      go_quiet (fail)
      go_wp2
      go_roundw
      case rel => exact ⟨i + 1, by go_num, by omega, bl_drewN HB.out _⟩
      case measure => simp [intOf]; omega
    · obtain rfl : i = b.files.length := by omega
      have cr3 := HAR.out.reads u hu
      have cw3 := HAR.out.writes u hu
      have hfin : askBell b ⟨2, u, f, t⟩ = ({ b with reads := b.reads.set u (Qw.clrBit (b.reads.getD u 0) f), writes := b.writes.set u (Qw.clrBit (b.writes.getD u 0) f) }, 0) := ask2_eq hu hf
      have HOK := Lib.hid (show BellOk { b with reads := b.reads.set u (Qw.clrBit (b.reads.getD u 0) f), writes := b.writes.set u (Qw.clrBit (b.writes.getD u 0) f) } from by have := askBell_ok HH.out.ok ⟨2, u, f, t⟩; rw [hfin] at this; exact this)
      have HFN := Lib.hid hfin
      have hRd : Reads w w.heap.size 1 (some ar) b.users.length (intsV b.reads) := by
        obtain ⟨A, c, e, _, hr⟩ := HH.out.reads.reads
        injection e with e1; subst e1; exact hr
      have hWd : Reads w w.heap.size 1 (some aw) b.users.length (intsV b.writes) := by
        obtain ⟨A, c, e, _, hr⟩ := HH.out.writes.reads
        injection e with e1; subst e1; exact hr
      have W1 := Lib.hid (fun W => refWith_calls (b.reads.getD u 0) f W (by omega) (by omega))
      have W2 := Lib.hid (fun W => refWith_calls (b.writes.getD u 0) f W (by omega) (by omega))
      have PW := Lib.hid (fun W => pow2_calls f W (by omega))
      have E1 := Lib.hid (fun (W' : World) (hb : Below w.heap.size w W') (v : Nat) => refSet_calls (some ar) b.users.length cr b.reads u v W' ((hRd.below hb).more hb.size) (by omega) (by omega))
      have E2 := Lib.hid (fun (W' : World) (hb : Below w.heap.size w W') (v : Nat) => refSet_calls (some aw) b.users.length cw b.writes u v W' ((hWd.below hb).more hb.size) (by omega) (by omega))
      have HW0 := Lib.hid (bl_trans HB1.out hB)
      have HCW := Lib.hid (rd_at HH.out.writes HH.out.ok.writesL hu)
      have S1 := Lib.hid (fun (W' : World) (hb : Below wr.heap.size wr W') => (show W'.cell? ⟨w.heap.size, 2, none⟩ = some (.slice (some ar) b.users.length cr) ∧ W'.frozen? ⟨w.heap.size, 2, none⟩ = false from ⟨(HAR.out.bl hb).bx.cell 2, (HAR.out.bl hb).bx.frozen 2⟩))
      have hs1 : Hid (Qw.setBit (b.reads.getD u 0) f - p2 f = Qw.clrBit (b.reads.getD u 0) f) := Lib.hid (Qw.setBit_clr _ _)
      have hs2 : Hid (Qw.setBit (b.writes.getD u 0) f - p2 f = Qw.clrBit (b.writes.getD u 0) f) := Lib.hid (Qw.setBit_clr _ _)
      have hp8 : p2 f ≤ 256 := Nat.pow_le_pow_right (n := 2) (by decide) (j := 8) (by omega)
      have hg1 : p2 f ≤ Qw.setBit (b.reads.getD u 0) f := pow_le_set _ _
      have hg2 : p2 f ≤ Qw.setBit (b.writes.getD u 0) f := pow_le_set _ _
      have hl1 : Qw.setBit (b.reads.getD u 0) f < 256 := Nat.or_lt_two_pow (n := 8) hr8 (Nat.pow_lt_pow_right (by decide) (by omega))
      have hl2 : Qw.setBit (b.writes.getD u 0) f < 256 := Nat.or_lt_two_pow (n := 8) hw8 (Nat.pow_lt_pow_right (by decide) (by omega))
      clear hfin hB hRd hWd
      generalize b.reads.getD u 0 = rv at *
      generalize b.writes.getD u 0 = wv at *
      go_upto_region 16 with fail
      go_quiet (fail)
      go_upto_region 23 with fail
      have lbx := HAR.out.bx.lt
      go_cut [202] (fun _ wx => DropMid w F u f b (.slice (some au) b.users.length cu) (.slice (some af) b.files.length cf) (.slice (some aw) b.users.length cw) (.slice (some ah) b.files.length ch) t (intsV (b.reads.set u (Qw.clrBit rv f))) wx)
      case first =>
        go_region_law (first | (go_simp; go_at_call 38; refine (W1.out _).mono ?_; rintro e w2 ⟨rfl, rfl⟩) | (go_simp; go_at_call 14; refine (PW.out _).mono ?_; rintro e w2 ⟨rfl, rfl⟩) | (go_simp; go_at_call 37; rw [sub_cast hg1 hl1]; refine (E1.out _ ?_ _).mono ?_; (focus exact (bl_drewN HW0.out _).drew); rintro e w2 ⟨An, cn, rfl, ho2, hb2⟩; obtain ⟨z1, z2⟩ := S1.out _ (bl_trans (bl_drewN (Below.refl _ _) _).drew hb2)))
        all_goals
          go_wp2_with fail
          go_meet
          have hbr : Below wr.heap.size wr w2 := bl_trans (bl_drewN (Below.refl _ _) _).drew hb2
          have hst := refStep (i := 2) (F := F) HAR.out.bx HAR.out.ax HAR.out.rx HW0.out hbr (Nat.le_refl _) ho2 (by unfold maxLen; omega) HFF.out
          rw [hs1.out] at hst
          exact ⟨_, _, hst⟩
      case rest =>
        obtain ⟨A5, c5, p1, p2, p3, p4, p5⟩ := hcut
        have hcw := (p4.cell (p := aw.add u) (by exact cell_lt (HCW.out))).trans HCW.out
        obtain ⟨e0, e1, e2, e3, e4, _, _, _, _, _⟩ := p1.five
        have S2 := Lib.hid (fun (W' : World) (hb : Below wc.heap.size wc W') => (show W'.cell? ⟨w.heap.size, 3, none⟩ = some (.slice (some aw) b.users.length cw) ∧ W'.frozen? ⟨w.heap.size, 3, none⟩ = false from ⟨(p1.below hb p1.lt).cell 3, (p1.below hb p1.lt).frozen 3⟩))
        have P1 := Lib.hid p1
        have P2 := Lib.hid p2
        have P3 := Lib.hid p3
        have P4 := Lib.hid p4
        have P5 := Lib.hid p5
        have lbc := p1.lt
        clear p1 p2 p3 p4 p5 c0 c1 c2 c3 c4 a0 a3 cr3 cw3
        go_wp2_with fail
        go_region_law (first | (go_simp; go_at_call 38; refine (W2.out _).mono ?_; rintro e w2 ⟨rfl, rfl⟩) | (go_simp; go_at_call 14; refine (PW.out _).mono ?_; rintro e w2 ⟨rfl, rfl⟩) | (go_simp; go_at_call 37; rw [sub_cast hg2 hl2]; refine (E2.out _ ?_ _).mono ?_; (focus exact P4.out.drew); rintro e w2 ⟨An, cn, rfl, ho2, hb2⟩; obtain ⟨z1, z2⟩ := S2.out _ ((Below.refl wc.heap.size wc).drew.trans hb2)))
        all_goals
          have hbr : Below wc.heap.size wc w2 := (Below.refl wc.heap.size wc).drew.trans hb2
          have hst := refStep (i := 3) (F := F) P1.out P2.out P3.out P4.out hbr (Nat.le_refl _) ho2 (by unfold maxLen; omega) HFF.out
          rw [hs2.out] at hst
          obtain ⟨p1, p2, p3, p4, p5⟩ := hst
          have p1' : Blk (w2.setCell ⟨w.heap.size, 3, none⟩ (.slice An b.users.length cn)) w.heap.size 26 #[.slice (some au) b.users.length cu, .slice (some af) b.files.length cf, .slice A5 b.users.length c5, .slice An b.users.length cn, .slice (some ah) b.files.length ch] := p1
          obtain ⟨x0, x1, x2, x3, x4, _, _, _, _, _⟩ := p1'.five
          obtain ⟨d0, d1, d2, d3, d4, g0, g1, g2, g3, g4⟩ := p3.five
          have q0 := p2.cell 0
          simp only [List.getElem?_toArray, List.getElem?_cons_zero] at q0
          have hlt := p3.lt
          have P5' := Lib.hid ((P5.out.kp (Kp.of_below hbr)).kp (kp_setc (F := fun j => F j ∨ j = w.heap.size ∨ j = w.heap.size + 1 + 1) (Kp.refl _ _) w.heap.size 3 (.slice An b.users.length cn) (.inr (.inl rfl))))
          generalize hW5 : w2.setCell ⟨w.heap.size, 3, none⟩ (.slice An b.users.length cn) = W5 at *
          have P4' := Lib.hid p4
          have P6 := Lib.hid p5
          clear p1 p1' p2 p3 p4 p5 hW5 ho2 hb2 hbr z1 z2 e0 e1 e2 e3 e4 hcw
          go_wp2
          refine bodyPost_ret (v := .tuple #[.agg #[.slice (some au) b.users.length cu, .slice (some af) b.files.length cf, .slice A5 b.users.length c5, .slice An b.users.length cn, .slice (some ah) b.files.length ch], .int .i64 0]) (by simp [results, Tryd.results17, go_sem, d0, d1, d2, d3, d4]) rfl ⟨_, _, by rw [HFN.out], ?_, bl_set5 P4'.out (by omega) _ _ _ _ _⟩
          rw [HFN.out]
          have hb0 := HH.out.fin P4'.out HFF.out (.slice (some au) b.users.length cu) (.slice (some af) b.files.length cf) (.slice A5 b.users.length c5) (.slice An b.users.length cn) (.slice (some ah) b.files.length ch) (w.heap.size + 1 + 1) (by omega)
          exact ⟨HOK.out, hb0.users, hb0.files, P5'.out.fin _ _ _ _ _, P6.out.fin _ _ _ _ _, hb0.holds⟩
end Go.Proofs.YtpppfiagaiaggaaDoor
