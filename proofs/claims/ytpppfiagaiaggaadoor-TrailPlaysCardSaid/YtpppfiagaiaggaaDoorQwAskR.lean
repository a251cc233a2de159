/- The monitor is asked to read. -/
import Derived.Test.YtpppfiagaiaggaaDoorQwAskW
import Derived.Deep.RegionHeld3
namespace Go.Proofs.YtpppfiagaiaggaaDoor
open Go.RowKit Go.Shelf

/-- The cells that the test of a reading reads. -/
theorem MonRd.cellsAt {w : World} {m : MonV} {b : Bell} {gu cu gf cf gr cr gw cw gh ch : Nat} (h : MonRd w m b gu cu gf cf gr cr gw cw gh ch) {u f : Nat} (hu : u < b.users.length) (hf : f < b.files.length) (k t : Int) (n : Nat) (ty ty2 : TypeId) (W : World)
    (hW : Below (((w.alloc (.cells #[.int .i64 k, .int .i64 (u : Int), .int .i64 (f : Int), .int .i64 t] ty)).drewN n).alloc (.cells #[.int .i64 b.files[f].1, .int .i64 b.files[f].2] ty2)).heap.size
      (((w.alloc (.cells #[.int .i64 k, .int .i64 (u : Int), .int .i64 (f : Int), .int .i64 t] ty)).drewN n).alloc (.cells #[.int .i64 b.files[f].1, .int .i64 b.files[f].2] ty2)) W) :
    (W.cell? ⟨w.heap.size + 1, 0, none⟩ = some (.int .i64 b.files[f].1) ∧ W.cell? ⟨w.heap.size + 1, 1, none⟩ = some (.int .i64 b.files[f].2)) ∧
    W.cell? ⟨m.mb, 0, none⟩ = some (.slice (some ⟨gu, 0, none⟩) b.users.length cu) ∧ W.cell? ⟨w.heap.size, 1, none⟩ = some (.int .i64 (u : Int)) ∧
    (W.cell? ⟨gu, u * 2, none⟩ = some (.int .i64 b.users[u].1) ∧ W.cell? ⟨gu, u * 2 + 1, none⟩ = some (.int .i64 b.users[u].2)) ∧
    W.cell? ⟨m.mb, 3, none⟩ = some (.slice (some ⟨gw, 0, none⟩) b.users.length cw) ∧ W.cell? ⟨gw, u, none⟩ = some (.int .i64 ((b.writes.getD u 0 : Nat) : Int)) := by
  have hB : Below w.heap.size w W := bl_trans (bl_alloc (bl_drewN (bl_alloc (Below.refl _ _) _) _) _) hW
  refine ⟨⟨?_, ?_⟩, ?_, ?_, ⟨?_, ?_⟩, ?_, ?_⟩
  · exact (hW.cell (p := ⟨w.heap.size + 1, 0, none⟩) (by simp)).trans (World.cell?_alloc_at (w := (w.alloc _).drewN _) _ _ _ _ (by simp))
  · exact (hW.cell (p := ⟨w.heap.size + 1, 1, none⟩) (by simp)).trans (World.cell?_alloc_at (w := (w.alloc _).drewN _) _ _ _ _ (by simp))
  · exact (hB.cell (p := ⟨m.mb, 0, none⟩) h.lm).trans h.v0
  · exact (hW.cell (p := ⟨w.heap.size, 1, none⟩) (by simp; omega)).trans ((World.cell?_alloc_past (w := (w.alloc _).drewN _) _ _ _ (by simp)).trans (World.cell?_alloc_at (w := w) _ _ _ _ rfl))
  · exact (hB.cell (p := ⟨gu, u * 2, none⟩) (cell_lt (h.users u hu).1)).trans (h.users u hu).1
  · exact (hB.cell (p := ⟨gu, u * 2 + 1, none⟩) (cell_lt (h.users u hu).2)).trans (h.users u hu).2
  · exact (hB.cell (p := ⟨m.mb, 3, none⟩) h.lm).trans h.v3
  · exact (hB.cell (p := ⟨gw, u, none⟩) (cell_lt (h.writes u hu))).trans (h.writes u hu)

theorem labP_at {xs : List (Int × Int)} (h : xs.all labP = true) {i : Nat} (hi : i < xs.length) : labP xs[i] = true := List.all_eq_true.1 h _ (List.getElem_mem hi)

set_option maxRecDepth 100000 in
set_option maxHeartbeats 4000000 in
theorem ask_read (B : Nat) (m : MonV) (b : Bell) (u f : Nat) (t : Int) (w : World) (hM : MonAt w B m b) (hu : u < b.users.length) (hf : f < b.files.length)
    (hT : 3 < w.heap.size ∧ TabAt 3 Lib.deBruijn64tab w) :
    Calls Tryd.prog 20 #[.pointer (some ⟨m.mb, 0, none⟩), .agg #[.int .i64 0, .int .i64 (u : Int), .int .i64 (f : Int), .int .i64 t]] w fun e w' => e = .returned (errV (askBell b ⟨0, u, f, t⟩).2) ∧
      MonAt w' B m (askBell b ⟨0, u, f, t⟩).1 ∧ Kp m.foot w w' := by
  obtain ⟨gu, cu, gf, cf, gr, cr, gw, cw, gh, ch, _, ef, er, ew, eh, hR⟩ := hM.rd (by omega) (by omega)
  have h8 := hM.ok.users
  have f8 := hM.ok.files
  have lm := hR.lm
  have v0 := hR.v0
  have v1 := hR.v1
  have v2 := hR.v2
  have v3 := hR.v3
  obtain ⟨hf1, hf2⟩ := hR.files f hf
  have hru := hR.reads u hu
  have hwu := hR.writes u hu
  have lf := hR.lf
  have lr : gr < w.heap.size := cell_lt hru
  have lw : gw < w.heap.size := cell_lt hwu
  have hfr := hR.fr u
  have hfw := hR.fw u
  obtain ⟨rm1, rm2⟩ := hR.rm
  obtain ⟨wm1, wm2⟩ := hR.wm
  obtain ⟨rw1, rw2⟩ := hR.rw
  have hf256 : 2 ^ b.files.length ≤ 256 := Nat.pow_le_pow_right (n := 2) (by decide) (j := 8) f8
  have hrb : b.reads.getD u 0 < 256 := Nat.lt_of_lt_of_le (getD_lt hM.ok.reads u) hf256
  have hwb : b.writes.getD u 0 < 256 := Nat.lt_of_lt_of_le (getD_lt hM.ok.writes u) hf256
  have HA := Lib.hid (hR.allAt hM.ok.filesP hf hT)
  obtain ⟨p, hp, hpow, eor⟩ := pow_facts f (b.reads.getD u 0) (Nat.lt_of_lt_of_le hf f8) hrb
  have C := Lib.hid (fun W (hA : AllAt W m.mb gf cf b.files (w.heap.size + 1) b.files[f]) => all1_calls m.mb gf cf (w.heap.size + 1) b.files b.files[f] (b.writes.getD u 0) W hA f8 (getD_lt hM.ok.writes u))
  have D := Lib.hid (fun W => bellBelow_calls b.files[f].1 b.files[f].2 b.users[u].1 b.users[u].2 W (labP_at hM.ok.filesP hf) (labP_at hM.ok.usersP hu))
  have HS := Lib.hid (hR.cellsAt hu hf 0 t)
  have ho : askOut b ⟨0, u, f, t⟩ = false := by simp [askOut, inR]; omega
  have hgd : b.files.getD f (0, 0) = b.files[f] := by rw [List.getD_eq_getElem?_getD, List.getElem?_eq_getElem hf]; rfl
  have hgu : b.users.getD u (0, 0) = b.users[u] := by rw [List.getD_eq_getElem?_getD, List.getElem?_eq_getElem hu]; rfl
  have hask : askBell b ⟨0, u, f, t⟩ = if belowB b.files[f].1 b.files[f].2 b.users[u].1 b.users[u].2 && allBits (b.writes.getD u 0) b.files (labBelow b.files[f] ·) then ({ b with reads := b.reads.set u (b.reads.getD u 0 ||| p) }, 0) else (b, 7) := by
    unfold askBell
    rw [ho]
    simp only [Bool.false_eq_true, if_false, Int.toNat_natCast, hgd, hgu, hp]
    rfl
  have hok2 := askBell_ok hM.ok ⟨0, u, f, t⟩
  rw [hask] at hok2 ⊢
  generalize hrv : b.reads.getD u 0 = rv at *
  have HRV := Lib.hid hrv
  generalize b.writes.getD u 0 = wv at *
  generalize allBits wv b.files (labBelow b.files[f] ·) = r2 at *
  generalize belowB b.files[f].1 b.files[f].2 b.users[u].1 b.users[u].2 = r1 at *
  obtain ⟨r, hr⟩ : ∃ r, r = (r1 && r2) := ⟨_, rfl⟩
  rw [← hr] at hok2 ⊢
  have HRR := Lib.hid hr
  have HM := Lib.hid hM
  have HOK2 := Lib.hid hok2
  have HER := Lib.hid er
  have HR := Lib.hid hR
  have hfle : (f : Int) < 8 := by omega
  clear hr hrv hM hok2 hask eh er ew ef hR hgd hgu ho hp hT
  go_enter Tryd.func20, Tryd.ntmps20
  go_wp2_with fail
  go_quiet ((go_at_call 40; exact Calls.quiet_of_same (within_yes _ _ _ _ (by omega))))
  rename Nat => n1
  go_wp2_with fail
  go_quiet (fail)
  rename Nat => n2
  go_wp2_with fail
  go_region
  go_upto_region 9 with fail
  rw [hpow]
  go_cut [91] (fun s91 wx => s91 = .bool (!r) ∧ Below w.heap.size w wx ∧ wx.cell? ⟨w.heap.size, 1, none⟩ = some (.int .i64 (u : Int)) ∧ w.heap.size < wx.heap.size)
  case first =>
    have hs := HS.out (n1 + n2 + 1) 40 67 _ (Below.drew (Below.refl _ _))
    cases r1
    · obtain rfl : r = false := HRR.out
      refine wp_region_held_drew (S := (fun w' => (w'.cell? ⟨w.heap.size + 1, 0, none⟩ = some (.int .i64 b.files[f].1) ∧ w'.cell? ⟨w.heap.size + 1, 1, none⟩ = some (.int .i64 b.files[f].2)) ∧
    w'.cell? ⟨m.mb, 0, none⟩ = some (.slice (some ⟨gu, 0, none⟩) b.users.length cu) ∧ w'.cell? ⟨w.heap.size, 1, none⟩ = some (.int .i64 (u : Int)) ∧
    (w'.cell? ⟨gu, u * 2, none⟩ = some (.int .i64 b.users[u].1) ∧ w'.cell? ⟨gu, u * 2 + 1, none⟩ = some (.int .i64 b.users[u].2)) ∧
    w'.cell? ⟨m.mb, 3, none⟩ = some (.slice (some ⟨gw, 0, none⟩) b.users.length cw) ∧ w'.cell? ⟨gw, u, none⟩ = some (.int .i64 (wv : Int)))) (by kernel_rfl) hs (fun hHeld => ?_)
      refine wpAnyH_take (i := 0) (v := ?v0) rfl (by kernel_rfl) (by kernel_rfl) (by kernel_rfl) (fun _ _ _ h => h) (Or.inl ⟨by kernel_rfl, ?hy0⟩) (by assumption) ?rest0
      case hy0 => (intro w hSw; (try dsimp only at hSw); go_simp; (try with_reducible rfl))
      try simp only [List.getElem_toArray, List.getElem_cons_succ, List.getElem_cons_zero, Act.put, List.setIfInBounds_toArray, List.set_cons_zero, List.set_cons_succ]
      refine wpAnyH_take (i := 1) (v := ?v1) rfl (by kernel_rfl) (by kernel_rfl) (by kernel_rfl) (fun _ _ _ h => h) (Or.inl ⟨by kernel_rfl, ?hy1⟩) (by assumption) ?rest1
      case hy1 => (intro w hSw; (try dsimp only at hSw); go_simp; (try with_reducible rfl))
      try simp only [List.getElem_toArray, List.getElem_cons_succ, List.getElem_cons_zero, Act.put, List.setIfInBounds_toArray, List.set_cons_zero, List.set_cons_succ]
      refine wpAnyH_take (i := 2) (v := ?v2) rfl (by kernel_rfl) (by kernel_rfl) (by kernel_rfl) (fun _ _ _ h => h) (Or.inl ⟨by kernel_rfl, ?hy2⟩) (by assumption) ?rest2
      case hy2 => (intro w hSw; (try dsimp only at hSw); go_simp; (try with_reducible rfl))
      try simp only [List.getElem_toArray, List.getElem_cons_succ, List.getElem_cons_zero, Act.put, List.setIfInBounds_toArray, List.set_cons_zero, List.set_cons_succ]
      refine wpAnyH_take (i := 3) (v := ?v3) rfl (by kernel_rfl) (by kernel_rfl) (by kernel_rfl) (fun _ _ _ h => h) (Or.inl ⟨by kernel_rfl, ?hy3⟩) (by assumption) ?rest3
      case hy3 => (intro w hSw; (try dsimp only at hSw); go_simp; (try with_reducible rfl))
      try simp only [List.getElem_toArray, List.getElem_cons_succ, List.getElem_cons_zero, Act.put, List.setIfInBounds_toArray, List.set_cons_zero, List.set_cons_succ]
      refine wpAnyH_take (i := 4) (v := ?v4) rfl (by kernel_rfl) (by kernel_rfl) (by kernel_rfl) (fun _ _ _ h => h) (Or.inl ⟨by kernel_rfl, ?hy4⟩) (by assumption) ?rest4
      case hy4 => (intro w hSw; (try dsimp only at hSw); go_simp; (try with_reducible rfl))
      try simp only [List.getElem_toArray, List.getElem_cons_succ, List.getElem_cons_zero, Act.put, List.setIfInBounds_toArray, List.set_cons_zero, List.set_cons_succ]
      refine wpAnyH_take (i := 5) (v := ?v5) rfl (by kernel_rfl) (by kernel_rfl) (by kernel_rfl) (fun _ _ _ h => h) (Or.inl ⟨by kernel_rfl, ?hy5⟩) (by assumption) ?rest5
      case hy5 => (intro w hSw; (try dsimp only at hSw); go_simp; (try with_reducible rfl))
      try simp only [List.getElem_toArray, List.getElem_cons_succ, List.getElem_cons_zero, Act.put, List.setIfInBounds_toArray, List.set_cons_zero, List.set_cons_succ]
      refine wpAnyH_take (i := 6) (v := ?v6) rfl (by kernel_rfl) (by kernel_rfl) (by kernel_rfl) (fun _ _ _ h => h) (Or.inl ⟨by kernel_rfl, ?hy6⟩) (by assumption) ?rest6
      case hy6 => (intro w hSw; (try dsimp only at hSw); go_simp; (try with_reducible rfl))
      try simp only [List.getElem_toArray, List.getElem_cons_succ, List.getElem_cons_zero, Act.put, List.setIfInBounds_toArray, List.set_cons_zero, List.set_cons_succ]
      refine wpAnyH_take (i := 7) (v := ?v7) rfl (by kernel_rfl) (by kernel_rfl) (by kernel_rfl) (fun _ _ _ h => h) (Or.inl ⟨by kernel_rfl, ?hy7⟩) (by assumption) ?rest7
      case hy7 => (intro w hSw; (try dsimp only at hSw); go_simp; (try with_reducible rfl))
      try simp only [List.getElem_toArray, List.getElem_cons_succ, List.getElem_cons_zero, Act.put, List.setIfInBounds_toArray, List.set_cons_zero, List.set_cons_succ]
      refine wpAnyH_take (i := 8) (v := ?v8) rfl (by kernel_rfl) (by kernel_rfl) (by kernel_rfl) (fun _ _ _ h => h) (Or.inl ⟨by kernel_rfl, ?hy8⟩) (by assumption) ?rest8
      case hy8 => (intro w hSw; (try dsimp only at hSw); go_simp; (try with_reducible rfl))
      try simp only [List.getElem_toArray, List.getElem_cons_succ, List.getElem_cons_zero, Act.put, List.setIfInBounds_toArray, List.set_cons_zero, List.set_cons_succ]
      refine wpAnyH_ready (rs := [9]) (by kernel_rfl) (by simp) ?_
      refine AllReadyH.cons rfl (fun K hK => ?_) AllReadyH.nil
      go_simp
      refine (D.out _).mono ?_
      rintro e w1 ⟨rfl, hb1⟩
      go_wp2_with fail
      refine hK.out _ _ (HS.out _ _ _ _ (bl_trans (Below.drew (Below.refl _ _)) hb1)) (fun hHeld => ?_)
      clear hK K
      try simp only [List.getElem_toArray, List.getElem_cons_succ, List.getElem_cons_zero, Act.put, List.setIfInBounds_toArray, List.set_cons_zero, List.set_cons_succ]
      refine wpAnyH_take (i := 10) (v := ?v10) rfl (by kernel_rfl) (by kernel_rfl) (by kernel_rfl) (fun _ _ _ h => h) (Or.inl ⟨by kernel_rfl, ?hy10⟩) (by assumption) ?rest10
      case hy10 => (intro w hSw; (try dsimp only at hSw); go_simp; (try with_reducible rfl))
      try simp only [List.getElem_toArray, List.getElem_cons_succ, List.getElem_cons_zero, Act.put, List.setIfInBounds_toArray, List.set_cons_zero, List.set_cons_succ]
      refine wpAnyH_take (i := 11) (v := ?v11) rfl (by kernel_rfl) (by kernel_rfl) (by kernel_rfl) (fun _ _ _ h => h) (Or.inl ⟨by kernel_rfl, ?hy11⟩) (by assumption) ?rest11
      case hy11 => (intro w hSw; (try dsimp only at hSw); go_simp; (try with_reducible rfl))
      try simp only [List.getElem_toArray, List.getElem_cons_succ, List.getElem_cons_zero, Act.put, List.setIfInBounds_toArray, List.set_cons_zero, List.set_cons_succ]
      refine wpAnyH_take (i := 12) (v := undef) rfl (by kernel_rfl) (by kernel_rfl) (by kernel_rfl) (fun _ _ _ h => h) (Or.inr ⟨by kernel_rfl, rfl⟩) (by assumption) ?_
      try simp only [List.getElem_toArray, List.getElem_cons_succ, List.getElem_cons_zero, Act.put, List.setIfInBounds_toArray, List.set_cons_zero, List.set_cons_succ]
      refine wpAnyH_take (i := 13) (v := undef) rfl (by kernel_rfl) (by kernel_rfl) (by kernel_rfl) (fun _ _ _ h => h) (Or.inr ⟨by kernel_rfl, rfl⟩) (by assumption) ?_
      try simp only [List.getElem_toArray, List.getElem_cons_succ, List.getElem_cons_zero, Act.put, List.setIfInBounds_toArray, List.set_cons_zero, List.set_cons_succ]
      refine wpAnyH_take (i := 14) (v := undef) rfl (by kernel_rfl) (by kernel_rfl) (by kernel_rfl) (fun _ _ _ h => h) (Or.inr ⟨by kernel_rfl, rfl⟩) (by assumption) ?_
      try simp only [List.getElem_toArray, List.getElem_cons_succ, List.getElem_cons_zero, Act.put, List.setIfInBounds_toArray, List.set_cons_zero, List.set_cons_succ]
      refine wpAnyH_take (i := 15) (v := undef) rfl (by kernel_rfl) (by kernel_rfl) (by kernel_rfl) (fun _ _ _ h => h) (Or.inr ⟨by kernel_rfl, rfl⟩) (by assumption) ?_
      try simp only [List.getElem_toArray, List.getElem_cons_succ, List.getElem_cons_zero, Act.put, List.setIfInBounds_toArray, List.set_cons_zero, List.set_cons_succ]
      refine wpAnyH_take (i := 16) (v := undef) rfl (by kernel_rfl) (by kernel_rfl) (by kernel_rfl) (fun _ _ _ h => h) (Or.inr ⟨by kernel_rfl, rfl⟩) (by assumption) ?_
      try simp only [List.getElem_toArray, List.getElem_cons_succ, List.getElem_cons_zero, Act.put, List.setIfInBounds_toArray, List.set_cons_zero, List.set_cons_succ]
      refine wpAnyH_take (i := 17) (v := undef) rfl (by kernel_rfl) (by kernel_rfl) (by kernel_rfl) (fun _ _ _ h => h) (Or.inr ⟨by kernel_rfl, rfl⟩) (by assumption) ?_
      try simp only [List.getElem_toArray, List.getElem_cons_succ, List.getElem_cons_zero, Act.put, List.setIfInBounds_toArray, List.set_cons_zero, List.set_cons_succ]
      refine wpAnyH_take (i := 18) (v := undef) rfl (by kernel_rfl) (by kernel_rfl) (by kernel_rfl) (fun _ _ _ h => h) (Or.inr ⟨by kernel_rfl, rfl⟩) (by assumption) ?_
      try simp only [List.getElem_toArray, List.getElem_cons_succ, List.getElem_cons_zero, Act.put, List.setIfInBounds_toArray, List.set_cons_zero, List.set_cons_succ]
      refine wpAnyH_take (i := 19) (v := undef) rfl (by kernel_rfl) (by kernel_rfl) (by kernel_rfl) (fun _ _ _ h => h) (Or.inr ⟨by kernel_rfl, rfl⟩) (by assumption) ?_
      try simp only [List.getElem_toArray, List.getElem_cons_succ, List.getElem_cons_zero, Act.put, List.setIfInBounds_toArray, List.set_cons_zero, List.set_cons_succ]
      refine wpAnyH_take (i := 20) (v := undef) rfl (by kernel_rfl) (by kernel_rfl) (by kernel_rfl) (fun _ _ _ h => h) (Or.inr ⟨by kernel_rfl, rfl⟩) (by assumption) ?_
      try simp only [List.getElem_toArray, List.getElem_cons_succ, List.getElem_cons_zero, Act.put, List.setIfInBounds_toArray, List.set_cons_zero, List.set_cons_succ]
      refine wpAnyH_take (i := 21) (v := undef) rfl (by kernel_rfl) (by kernel_rfl) (by kernel_rfl) (fun _ _ _ h => h) (Or.inr ⟨by kernel_rfl, rfl⟩) (by assumption) ?_
      try simp only [List.getElem_toArray, List.getElem_cons_succ, List.getElem_cons_zero, Act.put, List.setIfInBounds_toArray, List.set_cons_zero, List.set_cons_succ]
      refine wpAnyH_take (i := 22) (v := undef) rfl (by kernel_rfl) (by kernel_rfl) (by kernel_rfl) (fun _ _ _ h => h) (Or.inr ⟨by kernel_rfl, rfl⟩) (by assumption) ?_
      try simp only [List.getElem_toArray, List.getElem_cons_succ, List.getElem_cons_zero, Act.put, List.setIfInBounds_toArray, List.set_cons_zero, List.set_cons_succ]
      refine wpAnyH_take (i := 23) (v := undef) rfl (by kernel_rfl) (by kernel_rfl) (by kernel_rfl) (fun _ _ _ h => h) (Or.inr ⟨by kernel_rfl, rfl⟩) (by assumption) ?_
      try simp only [List.getElem_toArray, List.getElem_cons_succ, List.getElem_cons_zero, Act.put, List.setIfInBounds_toArray, List.set_cons_zero, List.set_cons_succ]
      refine wpAnyH_take (i := 24) (v := ?v24) rfl (by kernel_rfl) (by kernel_rfl) (by kernel_rfl) (fun _ _ _ h => h) (Or.inl ⟨by kernel_rfl, ?hy24⟩) (by assumption) ?rest24
      case hy24 => (intro w hSw; (try dsimp only at hSw); go_simp; (try with_reducible rfl))
      try simp only [List.getElem_toArray, List.getElem_cons_succ, List.getElem_cons_zero, Act.put, List.setIfInBounds_toArray, List.set_cons_zero, List.set_cons_succ]
      refine wpAnyH_done (by kernel_rfl) ?_ _
      all_goals
        go_wp2_with fail
        go_meet
        refine ⟨rfl, ?_, ?_, ?_⟩
        · refine bl_trans ?_ hb1
          repeat (first | exact Below.refl _ _ | with_reducible refine Below.drew ?_ | with_reducible refine bl_drewN ?_ _ | with_reducible refine bl_alloc ?_ _)
        · refine (hb1.cell (p := ⟨w.heap.size, 1, none⟩) (by simp; omega)).trans ?_
          exact (World.cell?_alloc_past (w := (w.alloc _).drewN _) _ _ _ (by simp)).trans (World.cell?_alloc_at (w := w) _ _ _ _ rfl)
        · have := hb1.size; simp at this; omega
    · obtain rfl : r = r2 := by rw [HRR.out]; rfl
      go_region_held3 (fun w' => (w'.cell? ⟨w.heap.size + 1, 0, none⟩ = some (.int .i64 b.files[f].1) ∧ w'.cell? ⟨w.heap.size + 1, 1, none⟩ = some (.int .i64 b.files[f].2)) ∧
    w'.cell? ⟨m.mb, 0, none⟩ = some (.slice (some ⟨gu, 0, none⟩) b.users.length cu) ∧ w'.cell? ⟨w.heap.size, 1, none⟩ = some (.int .i64 (u : Int)) ∧
    (w'.cell? ⟨gu, u * 2, none⟩ = some (.int .i64 b.users[u].1) ∧ w'.cell? ⟨gu, u * 2 + 1, none⟩ = some (.int .i64 b.users[u].2)) ∧
    w'.cell? ⟨m.mb, 3, none⟩ = some (.slice (some ⟨gw, 0, none⟩) b.users.length cw) ∧ w'.cell? ⟨gw, u, none⟩ = some (.int .i64 (wv : Int)))
        ((first | exact HS.out _ _ _ _ (Below.drew (Below.refl _ _)) | exact HS.out _ _ _ _ (bl_trans (Below.drew (Below.refl _ _)) hb1) | exact HS.out _ _ _ _ (bl_trans (bl_trans (Below.drew (Below.refl _ _)) hb1) hb2)))
        (first
        | (go_at_call 41; refine (D.out _).mono ?_; rintro e w1 ⟨rfl, hb1⟩)
        | (go_at_call 42; refine (C.out _ ?_).mono ?_; (focus (refine AllAt.below ?_ hb1; refine AllAt.drew ?_; refine HA.out _ _ _ (by simp) ?_; repeat (first | exact Below.refl _ _ | with_reducible refine bl_drewN ?_ _ | with_reducible refine bl_alloc ?_ _))); rintro e w2 ⟨rfl, hb2⟩))
      all_goals
        go_wp2_with fail
        go_meet
        refine ⟨rfl, ?_, ?_, ?_⟩
        · refine bl_trans (bl_trans ?_ hb1) hb2
          repeat (first | exact Below.refl _ _ | with_reducible refine Below.drew ?_ | with_reducible refine bl_drewN ?_ _ | with_reducible refine bl_alloc ?_ _)
        · refine (hb2.cell (p := ⟨w.heap.size, 1, none⟩) (show w.heap.size < w1.heap.size by have := hb1.size; simp at this; omega)).trans ?_
          refine (hb1.cell (p := ⟨w.heap.size, 1, none⟩) (by simp; omega)).trans ?_
          exact (World.cell?_alloc_past (w := (w.alloc _).drewN _) _ _ _ (by simp)).trans (World.cell?_alloc_at (w := w) _ _ _ _ rfl)
        · have h1 := hb1.size; have h2 := hb2.size; simp at h1; omega
  case rest =>
    obtain ⟨rfl, hbw, hcu, hlt⟩ := hcut
    have hR2 := HR.out.below (by omega) (by omega) hbw
    have HM2 := Lib.hid (HM.out.below' hbw)
    have HK2 := Lib.hid (show Kp m.foot w wc from Kp.of_below hbw)
    have v2' := hR2.v2
    have hru' := hR2.reads u hu
    have hfr' := hR2.fr u
    have lm' := hR2.lm
    have lr' : gr < wc.heap.size := cell_lt hru'
    have hrm := hR2.rm
    have hrv := HRV.out
    rw [hrv] at hru'
    have HBW := Lib.hid hbw
    clear hbw hR2 hrv
    cases r
    · go_wp2
      go_ret
      exact ⟨rfl, HM2.out, HK2.out⟩
    · go_wp2_with fail
      go_region
      go_wp2
      go_ret
      refine ⟨rfl, ?_, ?_⟩
      · repeat (first | with_reducible refine MonAt.drew ?_ | with_reducible refine MonAt.drewN ?_ _ | with_reducible refine MonAt.alloc ?_ _)
        refine MonAt.setR (b := b) ?_ HER.out u (rv ||| p) HOK2.out
        repeat (first | with_reducible exact HM2.out | with_reducible refine MonAt.drew ?_ | with_reducible refine MonAt.drewN ?_ _ | with_reducible refine MonAt.alloc ?_ _)
      · repeat (first | with_reducible exact HK2.out | with_reducible refine Kp.drew ?_ | with_reducible refine Kp.drewN ?_ _ | with_reducible refine Kp.alloc ?_ _ | with_reducible refine Kp.setCell ?_ (.inl (footR HER.out)) _)
end Go.Proofs.YtpppfiagaiaggaaDoor
