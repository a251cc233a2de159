/- The monitor is asked to write. -/
import Derived.Test.YtpppfiagaiaggaaDoorQwAskD
import Derived.Deep.RegionWith
namespace Go.Proofs.YtpppfiagaiaggaaDoor
open Go.RowKit Go.Shelf

theorem AllAt.drew {w : World} {mb gf cf fb : Nat} {files : List (Int × Int)} {f : Int × Int} (h : AllAt w mb gf cf files fb f) : AllAt w.drew mb gf cf files fb f := ⟨h.lm, h.lf, h.lg, h.filesV, h.cells, h.f0, h.f1, h.filesP, h.fP, h.tab⟩
theorem AllAt.drewN {w : World} {mb gf cf fb : Nat} {files : List (Int × Int)} {f : Int × Int} (h : AllAt w mb gf cf files fb f) (n : Nat) : AllAt (w.drewN n) mb gf cf files fb f := ⟨h.lm, h.lf, h.lg, h.filesV, h.cells, h.f0, h.f1, h.filesP, h.fP, h.tab⟩

theorem MonRd.allAt {w : World} {m : MonV} {b : Bell} {gu cu gf cf gr cr gw cw gh ch : Nat} (h : MonRd w m b gu cu gf cf gr cr gw cw gh ch) (hP : b.files.all labP = true) {f : Nat} (hf : f < b.files.length)
    (hT : 3 < w.heap.size ∧ TabAt 3 Lib.deBruijn64tab w) (W : World) (ty2 : TypeId) (n : Nat) (hs : n = W.heap.size) (hW : Below w.heap.size w W) :
    AllAt (W.alloc (.cells #[.int .i64 b.files[f].1, .int .i64 b.files[f].2] ty2)) m.mb gf cf b.files n b.files[f] := by
  have hB : Below w.heap.size w (W.alloc (.cells #[.int .i64 b.files[f].1, .int .i64 b.files[f].2] ty2)) := bl_alloc hW _
  have hsz := hB.size
  refine ⟨Nat.lt_of_lt_of_le h.lm hsz, by rw [hs]; simp, Nat.lt_of_lt_of_le h.lf hsz, ?_, fun i hi => ⟨?_, ?_⟩, ?_, ?_, hP, List.all_eq_true.1 hP _ (List.getElem_mem hf), Nat.lt_of_lt_of_le hT.1 hsz, ?_⟩
  · exact (hB.cell (p := ⟨m.mb, 1, none⟩) h.lm).trans h.v1
  · exact (hB.cell (p := ⟨gf, i * 2, none⟩) h.lf).trans (h.files i hi).1
  · exact (hB.cell (p := ⟨gf, i * 2 + 1, none⟩) h.lf).trans (h.files i hi).2
  · rw [World.cell?_alloc_at _ _ _ _ hs]; rfl
  · rw [World.cell?_alloc_at _ _ _ _ hs]; rfl
  · intro j hj
    exact (hB.cell (p := ⟨3, j, none⟩) hT.1).trans (hT.2 j hj)

theorem pow_facts (f v : Nat) (hf : f < 8) (hv : v < 256) : ∃ p : Nat, p = 2 ^ f ∧ wrap64 ((2 : Int) ^ f) = (p : Int) ∧ bits .or .i64 (v : Int) (p : Int) = ((v ||| p : Nat) : Int) := by
  have : 2 ^ f < 2 ^ 8 := Nat.pow_lt_pow_right (by decide) hf
  exact ⟨_, rfl, wrap64_pow f hf, Qw.i64_or v (2 ^ f) (by omega) (by omega)⟩

theorem MonRd.below {w w' : World} {m : MonV} {b : Bell} {gu cu gf cf gr cr gw cw gh ch : Nat} (h : MonRd w m b gu cu gf cf gr cr gw cw gh ch) (hu : 0 < b.users.length) (hf : 0 < b.files.length) (hb : Below w.heap.size w w') : MonRd w' m b gu cu gf cf gr cr gw cw gh ch := by
  have lu : gu < w.heap.size := cell_lt (h.users 0 hu).1
  have lr : gr < w.heap.size := cell_lt (h.reads 0 hu)
  have lw : gw < w.heap.size := cell_lt (h.writes 0 hu)
  have lh : gh < w.heap.size := cell_lt (h.holds 0 hf)
  have c : ∀ g o v, g < w.heap.size → w.cell? ⟨g, o, none⟩ = some v → w'.cell? ⟨g, o, none⟩ = some v := fun g o v hg hv => (hb.cell (p := ⟨g, o, none⟩) hg).trans hv
  have fz : ∀ g o, g < w.heap.size → w.frozen? ⟨g, o, none⟩ = false → w'.frozen? ⟨g, o, none⟩ = false := fun g o hg hv => (hb.frozen (p := ⟨g, o, none⟩) hg).trans hv
  exact ⟨Nat.lt_of_lt_of_le h.lm hb.size, Nat.lt_of_lt_of_le h.lf hb.size, c _ _ _ h.lm h.v0, c _ _ _ h.lm h.v1, c _ _ _ h.lm h.v2, c _ _ _ h.lm h.v3, c _ _ _ h.lm h.v4,
    fun i hi => ⟨c _ _ _ lu (h.users i hi).1, c _ _ _ lu (h.users i hi).2⟩, fun i hi => ⟨c _ _ _ h.lf (h.files i hi).1, c _ _ _ h.lf (h.files i hi).2⟩, fun i hi => c _ _ _ lr (h.reads i hi), fun i hi => c _ _ _ lw (h.writes i hi), fun i hi => c _ _ _ lh (h.holds i hi),
    fun i => fz _ _ lr (h.fr i), fun i => fz _ _ lw (h.fw i), fun i => fz _ _ lh (h.fh i), h.rm, h.wm, h.hm, h.rw, h.ev⟩

theorem MonAt.below' {w w' : World} {B : Nat} {m : MonV} {b : Bell} (h : MonAt w B m b) (hb : Below w.heap.size w w') : MonAt w' B m b := h.same fun _ hk => hb.block _ (h.foot hk).2
theorem Kp.bl {F : Nat → Prop} {a w w' : World} (h : Kp F a w) (hb : Below w.heap.size w w') : Kp F a w' := h.trans (Kp.of_below (F := F) hb) (fun _ _ h => h)

set_option maxRecDepth 100000 in
set_option maxHeartbeats 4000000 in
theorem ask_write (B : Nat) (m : MonV) (b : Bell) (u f : Nat) (t : Int) (w : World) (hM : MonAt w B m b) (hu : u < b.users.length) (hf : f < b.files.length)
    (hT : 3 < w.heap.size ∧ TabAt 3 Lib.deBruijn64tab w) :
    Calls Tryd.prog 20 #[.pointer (some ⟨m.mb, 0, none⟩), .agg #[.int .i64 1, .int .i64 (u : Int), .int .i64 (f : Int), .int .i64 t]] w fun e w' => e = .returned (errV (askBell b ⟨1, u, f, t⟩).2) ∧
      MonAt w' B m (askBell b ⟨1, u, f, t⟩).1 ∧ Kp m.foot w w' := by
  obtain ⟨gu, cu, gf, cf, gr, cr, gw, cw, gh, ch, _, ef, er, ew, eh, hR⟩ := hM.rd (by omega) (by omega)
  have h8 := hM.ok.users
  have f8 := hM.ok.files
  have lm := hR.lm
  have v0 := hR.v0
  have v1 := hR.v1
  have v2 := hR.v2
  have v3 := hR.v3
  obtain ⟨hf1, hf2⟩ := hR.files f hf
  have hru := hR.reads u hu
  have hwu := hR.writes u hu
  have lf := hR.lf
  have lr : gr < w.heap.size := cell_lt hru
  have lw : gw < w.heap.size := cell_lt hwu
  have hfr := hR.fr u
  have hfw := hR.fw u
  obtain ⟨rm1, rm2⟩ := hR.rm
  obtain ⟨wm1, wm2⟩ := hR.wm
  obtain ⟨rw1, rw2⟩ := hR.rw
  have hf256 : 2 ^ b.files.length ≤ 256 := Nat.pow_le_pow_right (n := 2) (by decide) (j := 8) f8
  have hrb : b.reads.getD u 0 < 256 := Nat.lt_of_lt_of_le (getD_lt hM.ok.reads u) hf256
  have hwb : b.writes.getD u 0 < 256 := Nat.lt_of_lt_of_le (getD_lt hM.ok.writes u) hf256
  have HA := Lib.hid (hR.allAt hM.ok.filesP hf hT)
  obtain ⟨p, hp, hpow, eor⟩ := pow_facts f (b.writes.getD u 0) (Nat.lt_of_lt_of_le hf f8) hwb
  have C := Lib.hid (fun W (hA : AllAt W m.mb gf cf b.files (w.heap.size + 1) b.files[f]) => all2_calls m.mb gf cf (w.heap.size + 1) b.files b.files[f] (b.reads.getD u 0) W hA f8 (getD_lt hM.ok.reads u))
  have ho : askOut b ⟨1, u, f, t⟩ = false := by simp [askOut, inR]; omega
  have hgd : b.files.getD f (0, 0) = b.files[f] := by rw [List.getD_eq_getElem?_getD, List.getElem?_eq_getElem hf]; rfl
  have hask : askBell b ⟨1, u, f, t⟩ = if allBits (b.reads.getD u 0) b.files (labBelow · b.files[f]) then ({ b with writes := b.writes.set u (b.writes.getD u 0 ||| p) }, 0) else (b, 7) := by
    unfold askBell
    rw [ho]
    simp only [Bool.false_eq_true, if_false, Int.toNat_natCast, hgd, hp]
    rfl
  have hok2 := askBell_ok hM.ok ⟨1, u, f, t⟩
  rw [hask] at hok2 ⊢
  generalize b.reads.getD u 0 = rv at *
  generalize hwv : b.writes.getD u 0 = wv at *
  have HWV := Lib.hid hwv
  generalize allBits rv b.files (labBelow · b.files[f]) = r at *
  have HM := Lib.hid hM
  have HOK2 := Lib.hid hok2
  have HEW := Lib.hid ew
  have HR := Lib.hid hR
  have hfle : (f : Int) < 8 := by omega
  clear hwv hM hok2 hask eh er ew ef hR hgd ho hp hT
  go_enter Tryd.func20, Tryd.ntmps20
  go_wp2_with fail
  go_quiet ((go_at_call 40; exact Calls.quiet_of_same (within_yes _ _ _ _ (by omega))))
  go_wp2_with fail
  go_quiet (fail)
  go_wp2_with fail
  go_region
  go_wp2_with fail
  have LW := Lib.hid (show Below w.heap.size w w from Below.refl _ _)
  go_upto_region 13 with fail
  rw [hpow]
  go_cut [117] (fun s117 wx => s117 = .bool (!r) ∧ Below w.heap.size w wx ∧ wx.cell? ⟨w.heap.size, 1, none⟩ = some (.int .i64 (u : Int)) ∧ w.heap.size < wx.heap.size)
  case first =>
    go_region_with (go_at_call 42; refine (C.out _ ?_).mono ?_; (focus (repeat (first | with_reducible refine AllAt.drew ?_ | with_reducible refine AllAt.drewN ?_ _)); refine HA.out _ _ _ (by simp) ?_; repeat (first | exact Below.refl _ _ | with_reducible refine bl_drewN ?_ _ | with_reducible refine bl_alloc ?_ _)); rintro e w1 ⟨rfl, hb1⟩)
    all_goals
      go_wp2_with fail
      go_meet
      refine ⟨rfl, ?_, ?_, ?_⟩
      · refine bl_trans ?_ hb1
        repeat (first | exact Below.refl _ _ | with_reducible refine Below.drew ?_ | with_reducible refine bl_drewN ?_ _ | with_reducible refine bl_alloc ?_ _)
      · refine (hb1.cell (p := ⟨w.heap.size, 1, none⟩) (by simp; omega)).trans ?_
        exact (World.cell?_alloc_past (w := (w.alloc _).drewN _) _ _ _ (by simp)).trans (World.cell?_alloc_at (w := w) _ _ _ _ rfl)
      · have := hb1.size; simp at this; omega
  case rest =>
    obtain ⟨rfl, hbw, hcu, hlt⟩ := hcut
    have hR2 := HR.out.below (by omega) (by omega) hbw
    have HM2 := Lib.hid (HM.out.below' hbw)
    have HK2 := Lib.hid (show Kp m.foot w wc from Kp.of_below hbw)
    have v3' := hR2.v3
    have hwu' := hR2.writes u hu
    have hfw' := hR2.fw u
    have lm' := hR2.lm
    have lw' : gw < wc.heap.size := cell_lt hwu'
    have hwm := hR2.wm
    have hwv := HWV.out
    rw [hwv] at hwu'
    have HBW := Lib.hid hbw
    clear hbw hR2 hwv
    cases r
    · go_wp2
      go_ret
      exact ⟨rfl, HM2.out, HK2.out⟩
    · go_wp2_with fail
      go_region
      go_wp2
      go_ret
      refine ⟨rfl, ?_, ?_⟩
      · repeat (first | with_reducible refine MonAt.drew ?_ | with_reducible refine MonAt.drewN ?_ _ | with_reducible refine MonAt.alloc ?_ _)
        refine MonAt.setW (b := b) ?_ HEW.out u (wv ||| p) HOK2.out
        repeat (first | with_reducible exact HM2.out | with_reducible refine MonAt.drew ?_ | with_reducible refine MonAt.drewN ?_ _ | with_reducible refine MonAt.alloc ?_ _)
      · repeat (first | with_reducible exact HK2.out | with_reducible refine Kp.drew ?_ | with_reducible refine Kp.drewN ?_ _ | with_reducible refine Kp.alloc ?_ _ | with_reducible refine Kp.setCell ?_ (.inl (footW HEW.out)) _)
end Go.Proofs.YtpppfiagaiaggaaDoor
