/- bell.New. -/
import Derived.Test.YtpppfiagaiaggaaDoorQwMon
import Derived.Deep.RegionWith
import Derived.Deep.Cut
import Derived.Deep.RegionLaw
import Derived.Deep.DeepCutAuto
namespace Go.Proofs.YtpppfiagaiaggaaDoor
open Go.RowKit

theorem ownsRow_alloc {w : World} {B : Nat} {e : TypeId} {size n : Nat} {v : Value} {xs : List Value} (h : w.ownsRow B e size v n xs) (o : Obj) : (w.alloc o).ownsRow B e size v n xs :=
  ownsRow_below h ((Below.refl _ _).alloc (Nat.le_refl _) o)

theorem info_int : (Tryd.prog.info? 3).map (fun i => (i.zero, i.size, i.bytes)) = some (some (.int .i64 0), 1, 8) := by kernel_rfl

theorem bellNew_err (A A' : Option Addr) (n c n' c' : Nat) (us fs : List (Int × Int)) (w : World) (h : LabsAt w w.heap.size A n us) (h' : LabsAt w w.heap.size A' n' fs) (he : bellErr us fs ≠ 0) :
    Calls Tryd.prog 15 #[.slice A n c, .slice A' n' c'] w fun e w' => e = .returned (.tuple #[.pointer none, errV (bellErr us fs)]) ∧ Below w.heap.size w w' := by
  have C1 := Lib.hid (labels_calls A n c us 8 w h (by omega))
  have h2 := fun (w1 : World) (hb : Below w.heap.size w w1) => labels_calls A' n' c' fs 8 w1 ⟨h'.1, h'.2.1, (h'.2.2.below hb).more hb.size⟩ (by omega)
  have C2 := Lib.hid h2
  clear h h' h2
  unfold bellErr at *
  by_cases h0 : labsErr 8 us = 0
  · rw [if_pos h0] at he ⊢
    have H0 := Lib.hid h0
    have HE := Lib.hid he
    clear h0 he
    go_enter Tryd.func15, Tryd.ntmps15
    go_wp2_with fail
    refine C1.out.mono ?_
    rintro e w1 ⟨rfl, hb1⟩
    rw [H0.out, errV_zero]
    go_wp2_with fail
    refine (C2.out w1 hb1).mono ?_
    rintro e w2 ⟨rfl, hb2⟩
    rw [errV_pos HE.out]
    go_wp2
    go_ret2
    exact ⟨by rw [errV_pos HE.out]; rfl, hb1.trans (hb2.mono hb1.size)⟩
  · rw [if_neg h0]
    have H0 := Lib.hid h0
    clear h0 he
    go_enter Tryd.func15, Tryd.ntmps15
    go_wp2_with fail
    refine C1.out.mono ?_
    rintro e w1 ⟨rfl, hb1⟩
    rw [errV_pos H0.out]
    go_wp2
    go_ret2
    exact ⟨by rw [errV_pos H0.out]; rfl, hb1⟩

theorem bl_alloc {w x : World} (h : Below w.heap.size w x) (o : Obj) : Below w.heap.size w (x.alloc o) := h.alloc h.size o
theorem bl_trans {w x y : World} (h : Below w.heap.size w x) (k : Below x.heap.size x y) : Below w.heap.size w y := h.trans (k.mono h.size)

/-- The monitor behind its making, no file held yet. -/
def NewMid (w : World) (n : Nat) (us fs : List (Int × Int)) (s8 : Value) (wx : World) : Prop :=
  ∃ m : MonV, s8 = .pointer (some ⟨m.mb, 0, none⟩) ∧ w.heap.size ≤ m.mb ∧ Blk wx m.mb 71 #[m.vu, m.vf, m.vr, m.vw, m.vh] ∧ m.vh = .slice none 0 0 ∧
    wx.ownsRow w.heap.size 67 2 m.vu us.length (labCells us) ∧ wx.ownsRow w.heap.size 67 2 m.vf fs.length (labCells fs) ∧
    wx.ownsRow w.heap.size 3 1 m.vr us.length (intsV (List.replicate us.length 0)) ∧ wx.ownsRow w.heap.size 3 1 m.vw us.length (intsV (List.replicate us.length 0)) ∧
    (∀ k, m.vr.ownBlock = some k → m.vw.ownBlock ≠ some k) ∧ Below w.heap.size w wx

theorem ownsRow_drew {w : World} {B : Nat} {e : TypeId} {size n : Nat} {v : Value} {xs : List Value} (h : w.ownsRow B e size v n xs) : w.drew.ownsRow B e size v n xs := h
theorem intsV_zero (n : Nat) : intsV (List.replicate n 0) = List.replicate n (.int .i64 0) := by simp [intsV]
theorem ownsRow_made0 {B : Nat} (x : World) (n : Nat) {p : Nat} (hp : p = x.heap.size) (hB : B ≤ x.heap.size ∧ n ≤ maxLen) :
    (x.alloc (.cells (madeCells #[.int .i64 0] n) 3)).ownsRow B 3 1 (.slice (some ⟨p, 0, none⟩) n n) n (intsV (List.replicate n 0)) := by
  subst hp
  have h := World.ownsRow_lit x (e := 3) (size := 1) (madeCells #[.int .i64 0] n) n hB.1 hB.2 (by rw [size_madeCells]; omega)
  rw [toList_madeCells_one] at h
  rw [intsV_zero]
  exact h

theorem newMid_mk {w Y : World} {n n' : Nat} {us fs : List (Int × Int)} {vu vf vr vw : Value} {p : Nat} (hu : us.length = n) (hf : fs.length = n')
    (h1 : Y.ownsRow w.heap.size 67 2 vu n (labCells us)) (h2 : Y.ownsRow w.heap.size 67 2 vf n' (labCells fs))
    (h3 : Y.ownsRow w.heap.size 3 1 vr n (intsV (List.replicate n 0))) (h4 : Y.ownsRow w.heap.size 3 1 vw n (intsV (List.replicate n 0)))
    (h5 : ∀ k, vr.ownBlock = some k → vw.ownBlock ≠ some k) (h6 : Below w.heap.size w Y) (hp : p = Y.heap.size) :
    NewMid w n us fs (.pointer (some ⟨p, 0, none⟩)) (Y.alloc (.cells #[vu, vf, vr, vw, .slice none 0 0] 71)) := by
  subst hu hf hp
  exact ⟨⟨_, vu, vf, vr, vw, .slice none 0 0⟩, rfl, h6.size, Blk.new _ _ _, rfl, ownsRow_alloc h1 _, ownsRow_alloc h2 _, ownsRow_alloc h3 _, ownsRow_alloc h4 _, h5, bl_alloc h6 _⟩
theorem newMid_drew {w Y : World} {n : Nat} {us fs : List (Int × Int)} {s8 : Value} (h : NewMid w n us fs s8 Y) : NewMid w n us fs s8 Y.drew := by
  obtain ⟨m, a, b, c, d, e, f, g, h, i, j⟩ := h
  exact ⟨m, a, b, c, d, e, f, g, h, i, j.drew⟩

/-- The monitor in the making: k files are held. -/
def HoldsTo (w : World) (us fs : List (Int × Int)) (m : MonV) (k : Nat) (wx : World) : Prop :=
  ∃ A c, Blk wx m.mb 71 #[m.vu, m.vf, m.vr, m.vw, .slice A k c] ∧ wx.ownsRow w.heap.size 3 1 (.slice A k c) k (intsV ((List.range k).map fun i => 2 ^ i)) ∧
    (∀ j, m.vr.ownBlock = some j → (Value.slice A k c).ownBlock ≠ some j) ∧ (∀ j, m.vw.ownBlock = some j → (Value.slice A k c).ownBlock ≠ some j) ∧
    wx.ownsRow w.heap.size 67 2 m.vu us.length (labCells us) ∧ wx.ownsRow w.heap.size 67 2 m.vf fs.length (labCells fs) ∧
    wx.ownsRow w.heap.size 3 1 m.vr us.length (intsV (List.replicate us.length 0)) ∧ wx.ownsRow w.heap.size 3 1 m.vw us.length (intsV (List.replicate us.length 0)) ∧
    Below w.heap.size w wx

theorem wrap_pow : ∀ k : Nat, k < 8 → IntKind.i64.wrap ((2 : Int) ^ k) = ((2 ^ k : Nat) : Int) := by decide
theorem reads_new (w : World) (u : Value) (e : TypeId) : Reads (w.alloc (.cells #[u] e)).drew (w.heap.size + 1) 1 (some ⟨w.heap.size, 0, none⟩) 1 [u] := by
  refine ⟨rfl, fun _ => ⟨_, rfl, by simp, fun j v hj => ?_⟩⟩
  have hb := (Blk.new w e #[u]).drew
  cases j with
  | zero =>
    have := hb.cell 0
    simp at hj
    subst hj
    simp [Addr.add]
  | succ j => simp at hj

theorem ownsRow_grown {w w' : World} {B : Nat} {e : TypeId} {size n : Nat} {v : Value} {xs : List Value} {row : Option Nat} (h : w.ownsRow B e size v n xs) (hg : w.grownBy w' row) (hr : ∀ k, v.ownBlock = some k → some k ≠ row) : w'.ownsRow B e size v n xs :=
  ownsRow_same h fun k hk => hg.block k (ownsRow_block h hk).2 (hr k hk)

theorem ownsRow_ne {w : World} {B B' : Nat} {e e' : TypeId} {size n size' n' : Nat} {v v' : Value} {xs xs' : List Value} (h : w.ownsRow B e size v n xs) (h' : w.ownsRow B' e' size' v' n' xs') (hne : e ≠ e') {k : Nat} (hk : v.ownBlock = some k) : v'.ownBlock ≠ some k := by
  intro hk'
  rcases h.2 with ⟨rfl, _⟩ | ⟨g, cap, cur, rfl, _, hh, _⟩
  · simp [Value.ownBlock] at hk
  · rcases h'.2 with ⟨rfl, _⟩ | ⟨g', cap', cur', rfl, _, hh', _⟩
    · simp [Value.ownBlock] at hk'
    · simp [Value.ownBlock] at hk hk'
      subst hk
      subst hk'
      rw [hh] at hh'
      injection hh' with e1
      injection e1 with _ e2
      exact hne e2

theorem holds_step {w : World} {us fs : List (Int × Int)} {m : MonV} {k c : Nat} {A : Option Addr} {wr : World} (hb : Blk wr m.mb 71 #[m.vu, m.vf, m.vr, m.vw, .slice A k c])
    (ho : wr.ownsRow w.heap.size 3 1 (.slice A k c) k (intsV ((List.range k).map fun i => 2 ^ i)))
    (h1 : ∀ j, m.vr.ownBlock = some j → (Value.slice A k c).ownBlock ≠ some j) (h2 : ∀ j, m.vw.ownBlock = some j → (Value.slice A k c).ownBlock ≠ some j)
    (hu : wr.ownsRow w.heap.size 67 2 m.vu us.length (labCells us)) (hf : wr.ownsRow w.heap.size 67 2 m.vf fs.length (labCells fs))
    (hr : wr.ownsRow w.heap.size 3 1 m.vr us.length (intsV (List.replicate us.length 0))) (hw : wr.ownsRow w.heap.size 3 1 m.vw us.length (intsV (List.replicate us.length 0)))
    (hbw : Below w.heap.size w wr) (hmb : w.heap.size ≤ m.mb) (p : Nat) (hp : p = 2 ^ k) {wx w1 : World} (hwx : wr.alloc (.cells #[.int .i64 (p : Int)] 3) = wx) {v' : Value}
    (hown : w1.ownsRow w.heap.size 3 1 v' (k + 1) (intsV ((List.range k).map fun i => 2 ^ i) ++ [.int .i64 (p : Int)])) (hg : wx.drew.grownBy w1 (Value.slice A k c).ownBlock) (hat : v'.ownBlock = (Value.slice A k c).ownBlock ∨ v'.ownBlock = some wx.drew.heap.size) :
    w1.cell? ⟨m.mb, 4, none⟩ = some (.slice A k c) ∧ w1.frozen? ⟨m.mb, 4, none⟩ = false ∧ (HoldsTo w us fs m (k + 1) (w1.setCell ⟨m.mb, 4, none⟩ v')) := by
  subst hwx
  have hne : (Value.slice A k c).ownBlock ≠ some m.mb := own_blk_ne ho hb (by decide)
  have hb1 : Blk w1 m.mb 71 #[m.vu, m.vf, m.vr, m.vw, .slice A k c] := ((hb.alloc _).drew).grown hg fun e => hne e.symm
  have hlt := hb.lt
  have hz : wr.heap.size < (wr.alloc (.cells #[.int .i64 (p : Int)] 3)).heap.size := by simp
  have keep : ∀ {e : TypeId} {size n : Nat} {v : Value} {xs : List Value}, wr.ownsRow w.heap.size e size v n xs → (∀ j, v.ownBlock = some j → (Value.slice A k c).ownBlock ≠ some j) → v.ownBlock ≠ some m.mb → (w1.setCell ⟨m.mb, 4, none⟩ v').ownsRow w.heap.size e size v n xs := by
    intro e size n v xs h hd hm
    have g1 : w1.ownsRow w.heap.size e size v n xs := ownsRow_grown (ownsRow_drew (ownsRow_alloc h _)) hg fun j hj e => hd j hj e.symm
    exact ownsRow_setCell_other g1 hm _
  have hmb' : v'.ownBlock ≠ some m.mb := by
    rcases hat with e | e
    · rw [e]; exact hne
    · rw [e]; simp; intro h; have : m.mb < wr.heap.size := hlt; omega
  obtain ⟨A6, c6, rfl⟩ := ownsRow_slice hown
  refine ⟨hb1.cell 4, hb1.frozen 4, A6, c6, ?_, ?_, ?_, ?_, keep hu (fun j hj => ownsRow_ne hu ho (by decide) hj) (own_blk_ne hu hb (by decide)), keep hf (fun j hj => ownsRow_ne hf ho (by decide) hj) (own_blk_ne hf hb (by decide)),
    keep hr h1 (own_blk_ne hr hb (by decide)), keep hw h2 (own_blk_ne hw hb (by decide)), ?_⟩
  · exact hb1.set_ 4 _
  · rw [List.range_succ, List.map_append]
    simp only [intsV, List.map_append, List.map_cons, List.map_nil] at hown ⊢
    rw [← hp]
    exact ownsRow_setCell_other hown hmb' _
  · intro j hj
    rcases hat with e | e
    · rw [e]; exact h1 j hj
    · rw [e]; have := ownsRow_block hr hj; simp; have h3 := this.2; omega
  · intro j hj
    rcases hat with e | e
    · rw [e]; exact h2 j hj
    · rw [e]; have := ownsRow_block hw hj; simp; have h3 := this.2; omega
  · have hB : Below w.heap.size w (wr.alloc (.cells #[.int .i64 (p : Int)] 3)).drew := (bl_alloc hbw _).drew
    refine (hB.grown hg hB.size fun j hj => ?_).setCell ?_ _
    · exact (ownsRow_block ho hj).1
    · exact hmb

set_option maxHeartbeats 1000000 in
theorem bellNew_ok (A A' : Option Addr) (n c n' c' : Nat) (us fs : List (Int × Int)) (w : World) (h : LabsAt w w.heap.size A n us) (h' : LabsAt w w.heap.size A' n' fs) (he : bellErr us fs = 0) :
    Calls Tryd.prog 15 #[.slice A n c, .slice A' n' c'] w fun e w' => ∃ m : MonV, e = .returned (.tuple #[.pointer (some ⟨m.mb, 0, none⟩), .nilIface]) ∧ MonAt w' w.heap.size m (newBell us fs) ∧ Below w.heap.size w w' := by
  obtain ⟨e1, e2⟩ := bellErr_zero he
  obtain ⟨l1, p1⟩ := labsErr_zero e1
  obtain ⟨l2, p2⟩ := labsErr_zero e2
  have hn : n ≤ 8 := by have := h.1; omega
  have hn' : n' ≤ 8 := by have := h'.1; omega
  have C1 := Lib.hid (labels_calls A n c us 8 w h (by omega))
  have C2 := Lib.hid (fun (w1 : World) (hb : Below w.heap.size w w1) => labels_calls A' n' c' fs 8 w1 ⟨h'.1, h'.2.1, (h'.2.2.below hb).more hb.size⟩ (by omega))
  have D1 := Lib.hid (fun (w1 : World) (hb : Below w.heap.size w w1) => cloneLab_calls w.heap.size A n c (labCells us) w1 hb.size ((h.2.2.below hb).more hb.size) (labCells_one us) (by omega))
  have D2 := Lib.hid (fun (w1 : World) (hb : Below w.heap.size w w1) => cloneLab_calls w.heap.size A' n' c' (labCells fs) w1 hb.size ((h'.2.2.below hb).more hb.size) (labCells_one fs) (by omega))
  rw [e1] at C1
  rw [e2] at C2
  obtain ⟨i0, hi0, hz0, hz1, hz2⟩ := info_parts info_int
  have hmk : ∀ w, (Instr.makeSlice 24 (.int .i64 (n : Int)) (.int .i64 (n : Int))).run Tryd.prog w = .ok (.slice (some ⟨w.heap.size, 0, none⟩) n n) (w.alloc (.cells (madeCells #[.int .i64 0] n) 3)) := by
    intro w
    have := run_make (P := Tryd.prog) w 24 3 i0 _ Tryd.underlying24 hi0 hz0 .i64 .i64 n n (by omega) (Int.le_refl _) (by rw [hz2]; omega) (by omega)
    simpa [hz1, Value.cells] using this
  have LU := Lib.hid h.1
  have LF := Lib.hid h'.1
  have HE := Lib.hid he
  clear e1 e2 l1 l2 p1 p2 h h' he hi0 hz0 hz1 hz2
  go_enter Tryd.func15, Tryd.ntmps15
  go_wp2_with fail
  refine C1.out.mono ?_
  rintro e w1 ⟨rfl, hb1⟩
  rw [errV_zero]
  go_wp2_with fail
  refine (C2.out w1 hb1).mono ?_
  rintro e w2 ⟨rfl, hb2⟩
  rw [errV_zero]
  have hb : Below w.heap.size w w2 := hb1.trans (hb2.mono hb1.size)
  clear hb1 hb2
  go_upto_region 7 with fail
  go_cut [8] (fun s8 wx => NewMid w n us fs s8 wx)
  case first =>
    go_region_with (first
      | (go_at_call_of 32 A; refine (D1.out _ ?_).mono ?_; (repeat (first | with_reducible exact hb | with_reducible refine Below.drew ?_ | with_reducible refine bl_alloc ?_ _ | refine bl_trans ?_ (by assumption))); rintro e w3 ⟨A1, k1, rfl, ho1, hb1⟩)
      | (go_at_call_of 32 A'; refine (D2.out _ ?_).mono ?_; (repeat (first | with_reducible exact hb | with_reducible refine Below.drew ?_ | with_reducible refine bl_alloc ?_ _ | refine bl_trans ?_ (by assumption))); rintro e w4 ⟨A2, k2, rfl, ho2, hb2⟩))
    all_goals
      go_wp2_with fail
      go_meet
      have z1 := hb1.size
      have z2 := hb2.size
      try simp at z1
      try simp at z2
      first | refine newMid_mk LU.out LF.out ?_ ?_ ?_ ?_ ?_ ?_ ?_ | (refine newMid_drew ?_; refine newMid_mk LU.out LF.out ?_ ?_ ?_ ?_ ?_ ?_ ?_)
      · repeat (first | with_reducible exact ho1 | with_reducible refine ownsRow_drew ?_ | with_reducible refine ownsRow_alloc ?_ _ | with_reducible refine ownsRow_below ?_ hb2)
      · repeat (first | with_reducible exact ho2 | with_reducible refine ownsRow_drew ?_ | with_reducible refine ownsRow_alloc ?_ _ | with_reducible refine ownsRow_below ?_ hb1)
      · repeat (first | ((with_reducible refine ownsRow_made0 _ n ?_ ?_); (first | with_reducible rfl | (focus (simp; done))); ((try simp); have := hb.size; unfold maxLen; omega)) | with_reducible refine ownsRow_drew ?_ | with_reducible refine ownsRow_alloc ?_ _ | with_reducible refine ownsRow_below ?_ hb2 | with_reducible refine ownsRow_below ?_ hb1)
      · repeat (first | ((with_reducible refine ownsRow_made0 _ n ?_ ?_); (first | with_reducible rfl | (focus (simp; done))); ((try simp); have := hb.size; unfold maxLen; omega)) | with_reducible refine ownsRow_drew ?_ | with_reducible refine ownsRow_alloc ?_ _ | with_reducible refine ownsRow_below ?_ hb2 | with_reducible refine ownsRow_below ?_ hb1)
      · intro k hk hk'
        simp [Value.ownBlock] at hk hk'
        (try simp at hk); omega
      · (repeat (first | with_reducible exact hb | with_reducible refine Below.drew ?_ | with_reducible refine bl_alloc ?_ _ | with_reducible refine bl_trans ?_ hb1 | with_reducible refine bl_trans ?_ hb2))
      · first | rfl | simp
  case rest =>
    obtain ⟨m, rfl, hmb, hblk, hvh, hu, hf, hr, hw, hrw, hbw⟩ := hcut
    have HN := Lib.hid hn'
    have HST := Lib.hid (show HoldsTo w us fs m 0 wc from ⟨none, 0, by rw [← hvh]; exact hblk, ⟨by simp [intsV], .inl ⟨rfl, rfl⟩⟩, by simp [Value.ownBlock], by simp [Value.ownBlock], hu, hf, hr, hw, hbw⟩)
    have HRW := Lib.hid hrw
    clear hvh hblk hu hf hr hw hrw hbw
    go_wp2_with fail
    go_loopw [34] (fun i wr => ∃ k : Nat, k ≤ n' ∧ i = .int .i64 k ∧ HoldsTo w us fs m k wr) (fun i _ => n' - (intOf i).toNat)
    case atStart => exact ⟨0, Nat.zero_le _, rfl, HST.out⟩
    case round =>
      obtain ⟨k, hk, rfl, hH⟩ := hrel
      by_cases hkn : k < n'
      · obtain ⟨A5, c5, hb5, ho5, hd1, hd2, hu5, hf5, hr5, hw5, hbw5⟩ := hH
        have hc8 := hb5.cell 4
        have hfz := hb5.frozen 4
        have hml : m.mb < wr.heap.size := hb5.lt
        simp only [List.getElem?_toArray, List.getElem?_cons_succ, List.getElem?_cons_zero] at hc8
        obtain ⟨p, hp⟩ : ∃ p : Nat, p = 2 ^ k := ⟨_, rfl⟩
        have hpow : IntKind.i64.wrap (2 ^ k) = (p : Int) := by rw [hp]; exact wrap_pow k (by have := HN.out; omega)
        have HP := Lib.hid hp
        have HB5 := Lib.hid hb5
        have HO5 := Lib.hid ho5
        have HS := Lib.hid (holds_step (us := us) (fs := fs) hb5 ho5 hd1 hd2 hu5 hf5 hr5 hw5 hbw5 hmb)
        obtain ⟨i1, hi1, hy0, hy1, hy2⟩ := info_parts info_int
        have HI := Lib.hid hi1
        have HY0 := Lib.hid hy0
        have HY1 := Lib.hid hy1
        have HY2 := Lib.hid hy2
        have hbase := hbw5.size
        clear hi1 hy0 hy1 hy2 hp hb5 ho5 hd1 hd2 hu5 hf5 hr5 hw5
        go_upto_region 11 with fail
        go_region_law (first | (refine step_append_any _ rfl (.tmp 41) (.tmp 44) 24 rfl w.heap.size 3 i1 _ 1 8 Tryd.underlying24 HI.out HY0.out HY1.out HY2.out rfl (by decide) (.slice A5 k c5) k _ (by simp [Act.eval, Act.put]) (ownsRow_drew (ownsRow_alloc HO5.out _)) (wr.heap.size + 1) (some ⟨wr.heap.size, 0, none⟩) 1 1 [.int .i64 p] (by simp [Act.eval, Act.put]) (reads_new _ _ _) (by simp [Value.oneCell']) (by simp [maxLen]; omega) (by omega) (by simp; omega) ?_
                                intro v' w1 hown1 hgrow hat
                                obtain ⟨hc1, hf1, hfin⟩ := HS.out p HP.out (show wr.alloc (.cells #[.int .i64 p] 3) = _ from rfl) hown1 hgrow hat
                                obtain ⟨A6, c6, hv6⟩ := ownsRow_slice hown1
                                rw [hv6] at hfin ⊢
                                have HF := Lib.hid hfin
                                clear hfin hv6 hown1 hgrow hat))
        all_goals
          go_wp2_with fail
          go_roundw
          case rel => exact ⟨k + 1, by omega, by go_num, HF.out⟩
          case measure => simp [intOf]; omega
      · have hk' : k = n' := by omega
        subst hk'
        have HH := Lib.hid hH
        clear hH
        go_wp2
        go_ret2
        obtain ⟨A5, c5, hb5, ho5, hd1, hd2, hu5, hf5, hr5, hw5, hbw5⟩ := HH.out
        have hlf := LF.out
        exact ⟨⟨m.mb, m.vu, m.vf, m.vr, m.vw, .slice A5 k c5⟩, rfl, ⟨newBell_ok HE.out, hmb, hb5, hu5, hf5, hr5, hw5, by rw [← hlf] at ho5 ⊢; exact ho5, HRW.out, hd1, hd2⟩, hbw5⟩
end Go.Proofs.YtpppfiagaiaggaaDoor
