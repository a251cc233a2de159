/- The references' trail is asked: a line is written. -/
import Derived.Test.YtpppfiagaiaggaaDoorRefTr
namespace Go.Proofs.YtpppfiagaiaggaaDoor
open Go.RowKit

theorem line_bytes (k u f t e : Nat) : ((((((((digB k ++ ⟨#[32]⟩) ++ digB u) ++ ⟨#[32]⟩) ++ digB f) ++ ⟨#[32]⟩) ++ digB t) ++ ⟨#[32]⟩) ++ digB e) ++ ⟨#[32]⟩ = (⟨(lineHead ⟨k, u, f, t⟩ e).toArray⟩ : ByteArray) := by
  apply ByteArray.ext
  simp [digB, lineHead, numB, Lib.itoa_nonneg, ByteArray.data_append]

theorem line_end (x hd : List UInt8) (c : Int) (L : Nat) (h : link c hd = L) : (((⟨x.toArray⟩ : ByteArray) ++ ⟨hd.toArray⟩) ++ digB L) ++ ⟨#[10]⟩ = ⟨(x ++ lineOf c hd).toArray⟩ := by
  apply ByteArray.ext
  simp [digB, lineOf, h, Lib.itoa_nonneg, ByteArray.data_append]

set_option maxRecDepth 100000 in
set_option maxHeartbeats 2000000 in
theorem refTrAsk_line (F : Nat → Prop) (vu vf vr vw vh : Value) (t : TrSt) (k u f t1 e : Nat) (g : Int) (b' : Bell) (w : World) (h : RefBell w F vu vf vr vw vh t.bell) (hF : ∀ j, F j → j < w.heap.size) (hm : t.many < 100) (he : askBell t.bell ⟨k, u, f, g⟩ = (b', (e : Int))) (he1 : e ≠ 1) (he8 : e ≤ 8) (hk : k ≤ 3) (hu : u < 8) (hf : f < 8) (ht : (k = 3 ∧ g = t1) ∨ (k ≠ 3 ∧ t1 = 0)) (ht1 : t1 < 8) (htx : t.text.length ≤ 1000000) (hc : 0 ≤ t.chain ∧ t.chain < 9973) :
    Calls Tryd.prog 7 #[.agg #[vu, vf, vr, vw, vh, .string ⟨t.text.toArray⟩, .int .i64 (t.many : Int), .int .i64 t.chain], .agg #[.int .i64 k, .int .i64 u, .int .i64 f, .int .i64 g]] w fun ev w' => ∃ vr' vw' vh',
      ev = .returned (.tuple #[.agg #[vu, vf, vr', vw', vh', .string ⟨(t.text ++ lineOf t.chain (lineHead ⟨k, u, f, t1⟩ e)).toArray⟩, .int .i64 ((t.many + 1 : Nat) : Int), .int .i64 (link t.chain (lineHead ⟨k, u, f, t1⟩ e))], .int .i64 e]) ∧ RefBell w' F vu vf vr' vw' vh' b' ∧ Below w.heap.size w w' := by
  have C := Lib.hid (fun (cs qs : Array Value) (W : World) (hT : TR w cs qs W) => refAskBell_calls (fun j => F j ∨ j = w.heap.size ∨ j = w.heap.size + 1 + 1) vu vf vr vw vh t.bell ⟨k, u, f, g⟩ W ((h.more (fun j hj hf => hf.resolve_right (by omega))).bl hT.bl) (fun j hj => by
    have := hT.rb.lt
    rcases hj with hj | hj | hj
    · have := hF j hj; omega
    · omega
    · omega))
  rw [he] at C
  obtain ⟨Au, cu, rfl⟩ := h.users.slice
  obtain ⟨Af, cf, rfl⟩ := h.files.slice
  obtain ⟨Ar, cr, rfl⟩ := h.reads.slice
  obtain ⟨Aw, cw, rfl⟩ := h.writes.slice
  obtain ⟨Ah, ch, rfl⟩ := h.holds.slice
  have hT0 := Lib.hid (TR.start w #[.slice Au t.bell.users.length cu, .slice Af t.bell.files.length cf, .slice Ar t.bell.users.length cr, .slice Aw t.bell.users.length cw, .slice Ah t.bell.files.length ch, .string ⟨t.text.toArray⟩, .int .i64 (t.many : Int), .int .i64 t.chain] #[.int .i64 k, .int .i64 u, .int .i64 f, .int .i64 g])
  have z1 := digB_size (n := k) (by omega)
  have z2 := digB_size (n := u) (by omega)
  have z3 := digB_size (n := f) (by omega)
  have z4 := digB_size (n := t1) (by omega)
  have z5 := digB_size (n := e) (by omega)
  have HS := Lib.hid (line_bytes k u f t1 e)
  have HLN := Lib.hid (lineHead_length (a := ⟨k, u, f, t1⟩) (e := e) ⟨by show in64 (k : Int); unfold in64; omega, by show in64 (u : Int); unfold in64; omega, by show in64 (f : Int); unfold in64; omega, by show in64 (t1 : Int); unfold in64; omega⟩ (by unfold in64; omega))
  obtain ⟨hd, hhd⟩ : ∃ hd, hd = lineHead ⟨k, u, f, t1⟩ e := ⟨_, rfl⟩
  rw [← hhd] at HS HLN ⊢
  have HLK := Lib.hid (link_nonneg (l := hd) hc.1 hc.2 (by have := HLN.out; omega))
  clear hhd
  have HH := Lib.hid h
  have HFF := Lib.hid hF
  have HEE := Lib.hid he
  have he1' : ((e : Int) == 1) = false := by simp; omega
  clear h he hF
  generalize t.bell.users.length = nu at *
  generalize t.bell.files.length = nf at *
  have hcase : (((k : Int) == 3) = true ∧ g = t1) ∨ (((k : Int) == 3) = false ∧ t1 = 0) := by
    rcases ht with ⟨rfl, rfl⟩ | ⟨h1, h2⟩
    · exact .inl ⟨rfl, rfl⟩
    · exact .inr ⟨by simp; omega, h2⟩
  clear ht
  rcases hcase with ⟨hk3, rfl⟩ | ⟨hk3, rfl⟩
  all_goals
    go_enter Tryd.func7, Tryd.ntmps7
    go_wp2_with fail
    refine (C.out _ _ _ hT0.out).mono ?_
    rintro ev w1 ⟨vr', vw', vh', rfl, hr, hb⟩
    have hT1 := hT0.out.below hb
    obtain ⟨A1, k1, rfl⟩ := hr.reads.slice
    obtain ⟨A2, k2, rfl⟩ := hr.writes.slice
    obtain ⟨A3, k3, rfl⟩ := hr.holds.slice
    have HR := Lib.hid hr
    have HT1 := Lib.hid hT1
    clear hT1 hr hb
    generalize b'.users.length = n1 at *
    generalize b'.files.length = n2 at *
    go_upto_region 4 with fail
    have hbb := Blk.new w1 26 #[.slice Au nu cu, .slice Af nf cf, .slice A1 n1 k1, .slice A2 n1 k2, .slice A3 n2 k3]
    have hB12 : Below w1.heap.size w1 (w1.alloc (.cells #[.slice Au nu cu, .slice Af nf cf, .slice A1 n1 k1, .slice A2 n1 k2, .slice A3 n2 k3] 26)) := (Below.refl _ _).alloc (Nat.le_refl _) _
    generalize w1.alloc (.cells #[.slice Au nu cu, .slice Af nf cf, .slice A1 n1 k1, .slice A2 n1 k2, .slice A3 n2 k3] 26) = W2 at hbb hB12 ⊢
    have HT2 := Lib.hid (HT1.out.below hB12)
    have lb1 := HT1.out.rb.lt
    have HR2 := Lib.hid (HR.out.bl hB12)
    have HBB := Lib.hid hbb
    have lb2 := hbb.lt
    generalize hbn : w1.heap.size = bn at *
    clear hbb hB12 hbn
    obtain ⟨⟨c0, c1, c2, c3, c4, c5, c6, c7⟩, y0, y1, y2, y3, y4, y5, y6, y7⟩ := HT2.out.tb.eight
    obtain ⟨m0, m1, m2, m3, m4, _, _, _, _, _⟩ := HBB.out.five
    have a0 := HT2.out.ab.cell 0
    have a1 := HT2.out.ab.cell 1
    have a2 := HT2.out.ab.cell 2
    have a3 := HT2.out.ab.cell 3
    simp only [List.getElem?_toArray, List.getElem?_cons_zero, List.getElem?_cons_succ] at a0 a1 a2 a3
    go_upto_region 9 with fail
    go_quiet ((go_at_call 18; first | exact Calls.quiet_of_same (refDigits_calls _ (by omega) _) | exact Calls.quiet_of_same (refDigits_calls 0 (by omega) _)))
    rw [HS.out]
    have hB23 : Below W2.heap.size W2 (W2.drewN nq) := bl_drewN (Below.refl _ _) _
    go_upto_region 10 with fail
    generalize W2.drewN nq = W3 at hB23 ⊢
    have hT3 := HT2.out.below hB23
    have HR3 := Lib.hid (HR2.out.bl hB23)
    obtain ⟨m0, m1, m2, m3, m4, _, _, _, _, _⟩ := (HBB.out.below hB23 HBB.out.lt).five
    have lb3 := (HBB.out.below hB23 HBB.out.lt).lt
    have HT3 := Lib.hid hT3
    obtain ⟨⟨c0, c1, c2, c3, c4, c5, c6, c7⟩, y0, y1, y2, y3, y4, y5, y6, y7⟩ := hT3.tb.eight
    clear hT3 hB23
    have hdl := HLN.out
    have hlk := HLK.out
    have CL := Lib.hid (fun W => refLink_calls t.chain ⟨hd.toArray⟩ W (by simp [ByteArray.size]; omega))
    go_upto_region 11 with fail
    have hT4 : TR w #[.slice Au nu cu, .slice Af nf cf, .slice A1 n1 k1, .slice A2 n1 k2, .slice A3 n2 k3, .string ⟨t.text.toArray⟩, .int .i64 (t.many : Int), .int .i64 t.chain] #[.int .i64 k, .int .i64 u, .int .i64 f, .int .i64 _]
        (set5 W3 w.heap.size (.slice Au nu cu) (.slice Af nf cf) (.slice A1 n1 k1) (.slice A2 n1 k2) (.slice A3 n2 k3)) :=
      ((((HT3.out.set_ 0 (.slice Au nu cu)).set_ 1 (.slice Af nf cf)).set_ 2 (.slice A1 n1 k1)).set_ 3 (.slice A2 n1 k2)).set_ 4 (.slice A3 n2 k3)
    have hR4 : RefBell (set5 W3 w.heap.size (.slice Au nu cu) (.slice Af nf cf) (.slice A1 n1 k1) (.slice A2 n1 k2) (.slice A3 n2 k3)) (fun j => F j ∨ j = w.heap.size ∨ j = w.heap.size + 1 + 1) (.slice Au nu cu) (.slice Af nf cf) (.slice A1 n1 k1) (.slice A2 n1 k2) (.slice A3 n2 k3) b' :=
      HR3.out.kp (kp_set5 (Kp.refl _ _) (.inr (.inl rfl)) _ _ _ _ _)
    change Code.wp _ _ _ _ (set5 W3 w.heap.size (.slice Au nu cu) (.slice Af nf cf) (.slice A1 n1 k1) (.slice A2 n1 k2) (.slice A3 n2 k3))
    generalize set5 W3 w.heap.size (.slice Au nu cu) (.slice Af nf cf) (.slice A1 n1 k1) (.slice A2 n1 k2) (.slice A3 n2 k3) = W4 at hT4 hR4 ⊢
    have HT4 := Lib.hid hT4
    have HR4 := Lib.hid hR4
    clear hT4 hR4 c0 c1 c2 c3 c4 c5 c6 c7 y0 y1 y2 y3 y4 y5 y6 y7 m0 m1 m2 m3 m4 a0 a1 a2 a3
    obtain ⟨⟨c0, c1, c2, c3, c4, c5, c6, c7⟩, y0, y1, y2, y3, y4, y5, y6, y7⟩ := HT4.out.tb.eight
    have l0 := HT4.out.tb.lt
    go_upto_region 12 with (go_at_call 19; refine (CL.out _).mono ?_; rintro ev w4 ⟨rfl, rfl⟩)
    obtain ⟨L, hL⟩ : ∃ L : Nat, link t.chain hd = (L : Int) := ⟨(link t.chain hd).toNat, (Int.toNat_of_nonneg hlk.1).symm⟩
    rw [hL] at hlk ⊢
    have HLL := Lib.hid hL
    clear hL
    have hT5 := HT4.out.set_ 7 (.int .i64 (L : Int))
    have hR5 := HR4.out.kp (kp_setc (F := fun j => F j ∨ j = w.heap.size ∨ j = w.heap.size + 1 + 1) (Kp.refl _ _) w.heap.size 7 (.int .i64 (L : Int)) (.inr (.inl rfl)))
    generalize w4.setCell ⟨w.heap.size, 7, none⟩ (.int .i64 (L : Int)) = W5 at hT5 hR5 ⊢
    have hT5' : TR w #[.slice Au nu cu, .slice Af nf cf, .slice A1 n1 k1, .slice A2 n1 k2, .slice A3 n2 k3, .string ⟨t.text.toArray⟩, .int .i64 (t.many : Int), .int .i64 (L : Int)] #[.int .i64 k, .int .i64 u, .int .i64 f, .int .i64 _] W5 := hT5
    have HT5 := Lib.hid hT5'
    have HR5 := Lib.hid hR5
    clear hT5 hT5' hR5 c0 c1 c2 c3 c4 c5 c6 c7 y0 y1 y2 y3 y4 y5 y6 y7 l0
    have z6 := digB_size (n := L) (by omega)
    have zt : (⟨t.text.toArray⟩ : ByteArray).size ≤ 1000000 := by simp [ByteArray.size]; omega
    have zh : (⟨hd.toArray⟩ : ByteArray).size ≤ 110 := by simp [ByteArray.size]; omega
    have CD := Lib.hid (fun W => refDigits_calls L (by omega) W)
    refine wp_region_still_tail 9 (by kernel_rfl) (by kernel_rfl) ?_
    have hB6 : Below W5.heap.size W5 W5.drew := (Below.refl _ _).drew
    change wpStill _ _ W5.drew (fun a' => wpList _ _ _ _ a' W5.drew) _ _
    generalize W5.drew = W6 at hB6 ⊢
    have HT6 := Lib.hid (HT5.out.below hB6)
    have HR6 := Lib.hid (HR5.out.bl hB6)
    clear hB6
    obtain ⟨⟨c0, c1, c2, c3, c4, c5, c6, c7⟩, y0, y1, y2, y3, y4, y5, y6, y7⟩ := HT6.out.tb.eight
    have l0 := HT6.out.tb.lt
    have q1 : ¬ 9223372036854775807 < t.text.length + hd.length := by omega
    have q2 : ¬ 9223372036854775807 < t.text.length + hd.length + (digB L).size := by omega
    have q3 : ¬ 9223372036854775807 < t.text.length + hd.length + (digB L).size + 1 := by omega
    simp only [List.take_succ_cons, List.take_zero, List.drop_succ_cons, List.drop_zero]
    repeat still_step
    still_call (CD.out _)
    repeat still_step
    refine wpStill_nil ?_
    go_upto_region 13 with fail
    have HLE := Lib.hid (line_end t.text hd t.chain L HLL.out)
    rw [HLE.out]
    have hT7 := HT6.out.set_ 5 (.string ⟨(t.text ++ lineOf t.chain hd).toArray⟩)
    have hR7 := HR6.out.kp (kp_setc (F := fun j => F j ∨ j = w.heap.size ∨ j = w.heap.size + 1 + 1) (Kp.refl _ _) w.heap.size 5 (.string ⟨(t.text ++ lineOf t.chain hd).toArray⟩) (.inr (.inl rfl)))
    generalize W6.setCell ⟨w.heap.size, 5, none⟩ (.string ⟨(t.text ++ lineOf t.chain hd).toArray⟩) = W7 at hT7 hR7 ⊢
    have hT7' : TR w #[.slice Au nu cu, .slice Af nf cf, .slice A1 n1 k1, .slice A2 n1 k2, .slice A3 n2 k3, .string ⟨(t.text ++ lineOf t.chain hd).toArray⟩, .int .i64 (t.many : Int), .int .i64 (L : Int)] #[.int .i64 k, .int .i64 u, .int .i64 f, .int .i64 _] W7 := hT7
    have HT7 := Lib.hid hT7'
    have HR7 := Lib.hid hR7
    clear hT7 hT7' hR7 c0 c1 c2 c3 c4 c5 c6 c7 y0 y1 y2 y3 y4 y5 y6 y7 l0 q1 q2 q3
    obtain ⟨⟨c0, c1, c2, c3, c4, c5, c6, c7⟩, y0, y1, y2, y3, y4, y5, y6, y7⟩ := HT7.out.tb.eight
    have l0 := HT7.out.tb.lt
    go_upto_region 14 with fail
    have hT8 := HT7.out.set_ 6 (.int .i64 ((t.many : Int) + 1))
    have hR8 := HR7.out.kp (kp_setc (F := fun j => F j ∨ j = w.heap.size ∨ j = w.heap.size + 1 + 1) (Kp.refl _ _) w.heap.size 6 (.int .i64 ((t.many : Int) + 1)) (.inr (.inl rfl)))
    generalize W7.setCell ⟨w.heap.size, 6, none⟩ (.int .i64 ((t.many : Int) + 1)) = W8 at hT8 hR8 ⊢
    have hT8' : TR w #[.slice Au nu cu, .slice Af nf cf, .slice A1 n1 k1, .slice A2 n1 k2, .slice A3 n2 k3, .string ⟨(t.text ++ lineOf t.chain hd).toArray⟩, .int .i64 ((t.many : Int) + 1), .int .i64 (L : Int)] #[.int .i64 k, .int .i64 u, .int .i64 f, .int .i64 _] W8 := hT8
    have HT8 := Lib.hid hT8'
    have HR8 := Lib.hid hR8
    clear hT8 hT8' hR8 c0 c1 c2 c3 c4 c5 c6 c7 y0 y1 y2 y3 y4 y5 y6 y7 l0
    obtain ⟨⟨c0, c1, c2, c3, c4, c5, c6, c7⟩, _⟩ := HT8.out.tb.eight
    obtain ⟨⟨d0, d1, d2, d3, d4, d5, d6, d7⟩, g0, g1, g2, g3, g4, g5, g6, g7⟩ := HT8.out.rb.eight
    have l0 := HT8.out.rb.lt
    have l1 := HT8.out.tb.lt
    generalize hx : t.text ++ lineOf t.chain hd = tx at *
    have HX := Lib.hid hx
    clear hx
    go_wp2
    refine bodyPost_ret (v := .tuple #[.agg #[.slice Au nu cu, .slice Af nf cf, .slice A1 n1 k1, .slice A2 n1 k2, .slice A3 n2 k3, .string ⟨tx.toArray⟩, .int .i64 ((t.many : Int) + 1), .int .i64 (L : Int)], .int .i64 e]) (by simp [results, Tryd.results7, go_sem, d0, d1, d2, d3, d4, d5, d6, d7]) rfl ?_
    refine ⟨.slice A1 n1 k1, .slice A2 n1 k2, .slice A3 n2 k3, ?_, ?_, ?_⟩
    · rw [HX.out, HLL.out]; rfl
    · exact (HR8.out.kp (kp_set8 (Kp.refl _ _) (.inr (.inr rfl)) _ _ _ _ _ _ _ _)).more fun j _ hj => .inl hj
    · exact bl_set8 HT8.out.bl (by omega) _ _ _ _ _ _ _ _
end Go.Proofs.YtpppfiagaiaggaaDoor
