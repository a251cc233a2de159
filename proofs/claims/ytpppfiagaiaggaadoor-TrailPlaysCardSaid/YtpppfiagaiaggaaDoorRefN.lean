/- The references' monitor: NewBell. -/
import Derived.Test.YtpppfiagaiaggaaDoorRefC
namespace Go.Proofs.YtpppfiagaiaggaaDoor
open Go.RowKit

theorem Blk.five {w : World} {g t : Nat} {a b c d e : Value} (h : Blk w g t #[a, b, c, d, e]) : w.cell? ⟨g, 0, none⟩ = some a ∧ w.cell? ⟨g, 1, none⟩ = some b ∧ w.cell? ⟨g, 2, none⟩ = some c ∧ w.cell? ⟨g, 3, none⟩ = some d ∧ w.cell? ⟨g, 4, none⟩ = some e ∧
    w.frozen? ⟨g, 0, none⟩ = false ∧ w.frozen? ⟨g, 1, none⟩ = false ∧ w.frozen? ⟨g, 2, none⟩ = false ∧ w.frozen? ⟨g, 3, none⟩ = false ∧ w.frozen? ⟨g, 4, none⟩ = false :=
  ⟨h.cell 0, h.cell 1, h.cell 2, h.cell 3, h.cell 4, h.frozen 0, h.frozen 1, h.frozen 2, h.frozen 3, h.frozen 4⟩
theorem bl_setc {w x : World} (h : Below w.heap.size w x) (b o : Nat) (u : Value) (hb : w.heap.size ≤ b) : Below w.heap.size w (x.setCell ⟨b, o, none⟩ u) := h.setCell (p := ⟨b, o, none⟩) hb u
theorem kp_setc {F : Nat → Prop} {w x : World} (h : Kp F w x) (b o : Nat) (u : Value) (hb : F b) : Kp F w (x.setCell ⟨b, o, none⟩ u) := h.setCell (p := ⟨b, o, none⟩) (.inl hb) u
abbrev nil5 : Array Value := #[.slice none 0 0, .slice none 0 0, .slice none 0 0, .slice none 0 0, .slice none 0 0]
theorem refNewBell_err (A A' : Option Addr) (n c n' c' : Nat) (us fs : List (Int × Int)) (w : World) (h : LabsAt w w.heap.size A n us) (h' : LabsAt w w.heap.size A' n' fs) (he : bellErr us fs ≠ 0) :
    Calls Tryd.prog 4 #[.slice A n c, .slice A' n' c'] w fun e w' => e = .returned (.tuple #[.agg #[.slice none 0 0, .slice none 0 0, .slice none 0 0, .slice none 0 0, .slice none 0 0], .int .i64 (bellErr us fs)]) ∧ Below w.heap.size w w' := by
  have C1 := Lib.hid (fun (w1 : World) (hb : Below w.heap.size w w1) => refLabels_calls A n c us 8 w1 ⟨h.1, h.2.1, (h.2.2.below hb).more hb.size⟩ (by omega))
  have C2 := Lib.hid (fun (w1 : World) (hb : Below w.heap.size w w1) => refLabels_calls A' n' c' fs 8 w1 ⟨h'.1, h'.2.1, (h'.2.2.below hb).more hb.size⟩ (by omega))
  clear h h'
  unfold bellErr at *
  have hb0 := Lib.hid (bl_alloc (Below.refl _ w) (.cells #[.slice none 0 0, .slice none 0 0, .slice none 0 0, .slice none 0 0, .slice none 0 0] 26))
  by_cases h0 : labsErr 8 us = 0
  · rw [if_pos h0] at he ⊢
    have H0 := Lib.hid h0
    have hne : (labsErr 8 fs != 0) = true := by simp [he]
    clear h0 he
    go_enter Tryd.func4, Tryd.ntmps4
    go_wp2_with fail
    refine (C1.out _ hb0.out).mono ?_
    rintro e w1 ⟨rfl, hb1⟩
    rw [H0.out]
    go_wp2_with fail
    refine (C2.out w1 (bl_trans hb0.out hb1)).mono ?_
    rintro e w2 ⟨rfl, hb2⟩
    have hb := bl_trans (bl_trans hb0.out hb1) hb2
    have hk : Blk w2 w.heap.size 26 #[.slice none 0 0, .slice none 0 0, .slice none 0 0, .slice none 0 0, .slice none 0 0] :=
      ((Blk.new w _ _).below hb1 (by simp)).below hb2 (by have := hb1.size; simp at this; omega)
    have hs : w.heap.size < w2.heap.size := hk.lt
    obtain ⟨c0, c1, c2, c3, c4, f0, f1, f2, f3, f4⟩ := hk.five
    have HB := Lib.hid hb
    clear hb1 hb2 hb hk
    go_wp2
    refine bodyPost_ret (v := .tuple #[.agg #[.slice none 0 0, .slice none 0 0, .slice none 0 0, .slice none 0 0, .slice none 0 0], .int .i64 (labsErr 8 fs)]) (by simp [results, Tryd.results4, go_sem, c0, c1, c2, c3, c4]) rfl ⟨rfl, ?_⟩
    exact bl_setc (bl_setc (bl_setc (bl_setc (bl_setc HB.out _ _ _ (Nat.le_refl _)) _ _ _ (Nat.le_refl _)) _ _ _ (Nat.le_refl _)) _ _ _ (Nat.le_refl _)) _ _ _ (Nat.le_refl _)
  · rw [if_neg h0]
    have hne : (labsErr 8 us != 0) = true := by simp [h0]
    have heq : (labsErr 8 us == 0) = false := by simp [h0]
    clear h0 he
    go_enter Tryd.func4, Tryd.ntmps4
    go_wp2_with fail
    refine (C1.out _ hb0.out).mono ?_
    rintro e w1 ⟨rfl, hb1⟩
    have hb := bl_trans hb0.out hb1
    have hk : Blk w1 w.heap.size 26 #[.slice none 0 0, .slice none 0 0, .slice none 0 0, .slice none 0 0, .slice none 0 0] :=
      (Blk.new w _ _).below hb1 (by simp)
    have hs : w.heap.size < w1.heap.size := hk.lt
    obtain ⟨c0, c1, c2, c3, c4, f0, f1, f2, f3, f4⟩ := hk.five
    have HB := Lib.hid hb
    clear hb1 hb hk
    go_wp2
    refine bodyPost_ret (v := .tuple #[.agg #[.slice none 0 0, .slice none 0 0, .slice none 0 0, .slice none 0 0, .slice none 0 0], .int .i64 (labsErr 8 us)]) (by simp [results, Tryd.results4, go_sem, c0, c1, c2, c3, c4]) rfl ⟨rfl, ?_⟩
    exact bl_setc (bl_setc (bl_setc (bl_setc (bl_setc HB.out _ _ _ (Nat.le_refl _)) _ _ _ (Nat.le_refl _)) _ _ _ (Nat.le_refl _)) _ _ _ (Nat.le_refl _)) _ _ _ (Nat.le_refl _)

/-- The references' monitor as a value; it lies in no block of F. -/
structure RefBell (w : World) (F : Nat → Prop) (vu vf vr vw vh : Value) (b : Bell) : Prop where
  ok : BellOk b
  users : RdF w F 2 vu b.users.length (labCells b.users)
  files : RdF w F 2 vf b.files.length (labCells b.files)
  reads : RdF w F 1 vr b.users.length (intsV b.reads)
  writes : RdF w F 1 vw b.users.length (intsV b.writes)
  holds : RdF w F 1 vh b.files.length (intsV b.holds)
section
variable {w w' : World} {F G : Nat → Prop} {vu vf vr vw vh : Value} {b : Bell}
theorem RefBell.kp (h : RefBell w F vu vf vr vw vh b) (hk : Kp F w w') : RefBell w' F vu vf vr vw vh b := ⟨h.ok, h.users.kp hk, h.files.kp hk, h.reads.kp hk, h.writes.kp hk, h.holds.kp hk⟩
theorem RefBell.bl (h : RefBell w F vu vf vr vw vh b) (hk : Below w.heap.size w w') : RefBell w' F vu vf vr vw vh b := h.kp (Kp.of_below hk)
theorem RefBell.more (h : RefBell w F vu vf vr vw vh b) (hs : ∀ k, k < w.heap.size → G k → F k) : RefBell w G vu vf vr vw vh b := ⟨h.ok, h.users.more hs, h.files.more hs, h.reads.more hs, h.writes.more hs, h.holds.more hs⟩
end

/-- Behind an append onto a row whose slice a block's cell holds, and the store of what came. -/
theorem app_store {w wr W w1 : World} {B g i k T x : Nat} {cs : Array Value} {v v' : Value} {ys : List Value} (hb : Blk wr g T cs) (hT : 3 ≠ T) (hg : B ≤ g) (ho : wr.ownsRow B 3 1 v k ys) (hB : Below B w wr) (hBl : B ≤ w.heap.size)
    (hW : Below wr.heap.size wr W) (hown : w1.ownsRow B 3 1 v' (k + 1) (ys ++ [.int .i64 (x : Int)])) (hgrow : W.grownBy w1 v.ownBlock) (hat : v'.ownBlock = v.ownBlock ∨ v'.ownBlock = some W.heap.size) :
    Blk w1 g T cs ∧ Blk (w1.setCell ⟨g, i, none⟩ v') g T (cs.setIfInBounds i v') ∧ (w1.setCell ⟨g, i, none⟩ v').ownsRow B 3 1 v' (k + 1) (ys ++ [.int .i64 (x : Int)]) ∧ Below B w (w1.setCell ⟨g, i, none⟩ v') ∧
    (∀ u m zs, wr.ownsRow B 3 1 u m zs → (∀ j, v.ownBlock = some j → u.ownBlock ≠ some j) → (w1.setCell ⟨g, i, none⟩ v').ownsRow B 3 1 u m zs ∧ (∀ j, v'.ownBlock = some j → u.ownBlock ≠ some j)) := by
  have hbW : Blk W g T cs := hb.below hW hb.lt
  have hne : some g ≠ v.ownBlock := fun e => own_blk_ne ho hb hT e.symm
  have hb1 : Blk w1 g T cs := hbW.grown hgrow hne
  have hBs : B ≤ wr.heap.size := Nat.le_trans hBl hB.size
  have hBW : Below B w W := hB.trans (hW.mono hBs)
  have hB1 : Below B w w1 := hBW.grown hgrow (Nat.le_trans hBl hBW.size) (fun j hj => (ownsRow_block ho hj).1)
  refine ⟨hb1, hb1.set_ i v', ?_, hB1.setCell (p := ⟨g, i, none⟩) hg _, fun u m zs hu hd => ⟨?_, ?_⟩⟩
  · exact ownsRow_setCell_other hown (own_blk_ne hown hb1 hT) _
  · have h1 : w1.ownsRow B 3 1 u m zs := ownsRow_grown (ownsRow_below hu hW) hgrow (fun k hk e => hd k e.symm hk)
    exact ownsRow_setCell_other h1 (own_blk_ne h1 hb1 hT) _
  · intro j hj
    rcases hat with e | e
    · exact hd j (by rw [← e]; exact hj)
    · rw [e] at hj; injection hj with hj
      intro hu'
      have := (ownsRow_block hu hu').2
      have := hW.size
      omega

theorem zeros_snoc (k : Nat) : intsV (List.replicate (k + 1) 0) = intsV (List.replicate k 0) ++ [.int .i64 ((0 : Nat) : Int)] := by
  rw [List.replicate_succ']; simp [intsV]

theorem RdF.slice {w : World} {F : Nat → Prop} {size n : Nat} {v : Value} {xs : List Value} (h : RdF w F size v n xs) : ∃ A c, v = .slice A n c := by
  obtain ⟨A, c, e, _⟩ := h; exact ⟨A, c, e⟩
/-- While users are counted: the reads and writes so far. -/
def NewU (w : World) (B g n : Nat) (vu vf : Value) (k : Nat) (wr : World) : Prop :=
  ∃ vr vw, Blk wr g 26 #[vu, vf, vr, vw, .slice none 0 0] ∧ wr.ownsRow B 3 1 vr k (intsV (List.replicate k 0)) ∧ wr.ownsRow B 3 1 vw k (intsV (List.replicate k 0)) ∧
    (∀ j, vr.ownBlock = some j → vw.ownBlock ≠ some j) ∧ Below B w wr ∧ Hid (k ≤ n)

/-- While files are counted: what they hold so far. -/
def NewF (w : World) (B g n : Nat) (vu vf vr vw : Value) (k : Nat) (wr : World) : Prop :=
  ∃ vh, Blk wr g 26 #[vu, vf, vr, vw, vh] ∧ wr.ownsRow B 3 1 vh k (intsV ((List.range k).map fun i => 2 ^ i)) ∧ wr.ownsRow B 3 1 vr n (intsV (List.replicate n 0)) ∧ wr.ownsRow B 3 1 vw n (intsV (List.replicate n 0)) ∧
    (∀ j, vh.ownBlock = some j → vr.ownBlock ≠ some j) ∧ (∀ j, vh.ownBlock = some j → vw.ownBlock ≠ some j) ∧ Below B w wr
theorem pows_snoc (k : Nat) : intsV ((List.range (k + 1)).map fun i => 2 ^ i) = intsV ((List.range k).map fun i => 2 ^ i) ++ [.int .i64 ((p2 k : Nat) : Int)] := by
  rw [List.range_succ]; simp [intsV, p2]

set_option maxRecDepth 100000 in
set_option maxHeartbeats 1000000 in
theorem refNewBell_ok (F : Nat → Prop) (A A' : Option Addr) (n c n' c' : Nat) (us fs : List (Int × Int)) (w : World) (h : LabsAt w w.heap.size A n us) (h' : LabsAt w w.heap.size A' n' fs) (he : bellErr us fs = 0)
    (hF : ∀ k, F k → k < w.heap.size) (hu : RdF w F 2 (.slice A n c) n (labCells us)) (hf : RdF w F 2 (.slice A' n' c') n' (labCells fs)) :
    Calls Tryd.prog 4 #[.slice A n c, .slice A' n' c'] w fun e w' => ∃ vr vw vh, e = .returned (.tuple #[.agg #[.slice A n c, .slice A' n' c', vr, vw, vh], .int .i64 0]) ∧ RefBell w' F (.slice A n c) (.slice A' n' c') vr vw vh (newBell us fs) ∧ Below w.heap.size w w' := by
  have C1 := Lib.hid (fun (w1 : World) (hb : Below w.heap.size w w1) => refLabels_calls A n c us 8 w1 ⟨h.1, h.2.1, (h.2.2.below hb).more hb.size⟩ (by omega))
  have C2 := Lib.hid (fun (w1 : World) (hb : Below w.heap.size w w1) => refLabels_calls A' n' c' fs 8 w1 ⟨h'.1, h'.2.1, (h'.2.2.below hb).more hb.size⟩ (by omega))
  obtain ⟨e1, e2⟩ := bellErr_zero he
  obtain ⟨l1, _⟩ := labsErr_zero e1
  obtain ⟨l2, _⟩ := labsErr_zero e2
  have hn : n ≤ 8 := by have := h.1; omega
  have hn' : n' ≤ 8 := by have := h'.1; omega
  have LU := Lib.hid h.1
  have LF := Lib.hid h'.1
  have HE := Lib.hid he
  have HF := Lib.hid hF
  have HU := Lib.hid hu
  have HV := Lib.hid hf
  rw [e1] at C1
  rw [e2] at C2
  clear h h' he e1 e2 l1 l2 hF hu hf
  have hb0 := Lib.hid (bl_alloc (Below.refl _ w) (.cells #[.slice none 0 0, .slice none 0 0, .slice none 0 0, .slice none 0 0, .slice none 0 0] 26))
  obtain ⟨i0, hi0, hz0, hz1, hz2⟩ := info_parts info_int
  have HI := Lib.hid hi0
  have HZ := Lib.hid hz0
  clear hi0 hz0
  go_enter Tryd.func4, Tryd.ntmps4
  go_wp2_with fail
  refine (C1.out _ hb0.out).mono ?_
  rintro e w1 ⟨rfl, hb1⟩
  go_wp2_with fail
  refine (C2.out w1 (bl_trans hb0.out hb1)).mono ?_
  rintro e w2 ⟨rfl, hb2⟩
  have hb := bl_trans (bl_trans hb0.out hb1) hb2
  have HB := Lib.hid hb
  have hk : Blk w2 w.heap.size 26 #[.slice none 0 0, .slice none 0 0, .slice none 0 0, .slice none 0 0, .slice none 0 0] :=
      ((Blk.new w _ _).below hb1 (by simp)).below hb2 (by have := hb1.size; simp at this; omega)
  have HK := Lib.hid hk
  clear hb1 hb2 hb hk
  have hg : w.heap.size + 1 ≤ w2.heap.size := HK.out.lt
  go_wp2_with fail
  have hst : NewU w2 (w.heap.size + 1) w2.heap.size n (.slice A n c) (.slice A' n' c') 0 (w2.alloc (.cells #[.slice A n c, .slice A' n' c', .slice none 0 0, .slice none 0 0, .slice none 0 0] 26)) ∧ (w2.alloc (.cells #[.slice A n c, .slice A' n' c', .slice none 0 0, .slice none 0 0, .slice none 0 0] 26)).cell? ⟨0, 0, none⟩ = (w2.alloc (.cells #[.slice A n c, .slice A' n' c', .slice none 0 0, .slice none 0 0, .slice none 0 0] 26)).cell? ⟨0, 0, none⟩ :=
    ⟨⟨_, _, Blk.new _ _ _, ⟨by simp [intsV], .inl ⟨rfl, rfl⟩⟩, ⟨by simp [intsV], .inl ⟨rfl, rfl⟩⟩, fun j hj => by simp [Value.ownBlock] at hj, (Below.refl _ _).alloc hg _, Nat.zero_le _⟩, rfl⟩
  have HST := Lib.hid hst.1
  clear hst
  go_loopw [8] (fun i wr => ∃ k : Nat, i = .int .i64 k ∧ k ≤ n ∧ NewU w2 (w.heap.size + 1) w2.heap.size n (.slice A n c) (.slice A' n' c') k wr) (fun i _ => n - (intOf i).toNat)
  case atStart => exact ⟨0, rfl, Nat.zero_le _, HST.out⟩
  case round =>
    obtain ⟨k, rfl, hk, vr, vw, hb, hr, hw, hd, hB, _⟩ := hrel
    obtain ⟨c0, c1, c2, c3, c4, f0, f1, f2, f3, f4⟩ := hb.five
    have hlt := hb.lt
    by_cases hkn : k < n
    · obtain ⟨Ar, cr, rfl⟩ := ownsRow_slice hr
      obtain ⟨Aw, cw, rfl⟩ := ownsRow_slice hw
      have HBK := Lib.hid hb
      have HR := Lib.hid hr
      have HW := Lib.hid hw
      have HD := Lib.hid hd
      have HBB := Lib.hid hB
      have hsz : w.heap.size + 1 ≤ wr.heap.size := Nat.le_trans hg hB.size
      clear hb hr hw hd hB
      go_wp2_with (at_builtin; refine wpList_append_any _ rfl (.tmp 30) (.tmp 31) _ rfl (w.heap.size + 1) 3 i0 _ 1 8 Tryd.underlying24 HI.out HZ.out hz1 hz2 rfl (by omega) _ k _ rfl (ownsRow_alloc HR.out _) (wr.heap.size + 1) _ 1 1 [.int .i64 0] rfl (reads_new _ _ _) (by simp [Value.oneCell']) (by simp [maxLen]; omega) (by omega) (by simp; omega) ?_)
      intro v' w3 hown hgrow hat
      obtain ⟨A3, c3', rfl⟩ := ownsRow_slice hown
      obtain ⟨hb1, hb2, ho2, hB2, hoth⟩ := app_store (i := 2) (x := 0) HBK.out (by decide) hg HR.out HBB.out hg ((Below.refl _ _).alloc (Nat.le_refl _) _) hown hgrow (by simpa using hat)
      obtain ⟨ho3, hd3⟩ := hoth _ _ _ HW.out HD.out
      have hb3 : Blk (w3.setCell ⟨w2.heap.size, 2, none⟩ (.slice A3 (k + 1) c3')) w2.heap.size 26 #[.slice A n c, .slice A' n' c', .slice A3 (k + 1) c3', .slice Aw k cw, .slice none 0 0] := hb2
      obtain ⟨d0, d1, d2, d3, d4, g0, g1, g2, g3, g4⟩ := hb1.five
      go_upto_region 11 with fail
      generalize hW3 : w3.setCell ⟨w2.heap.size, 2, none⟩ (.slice A3 (k + 1) c3') = W3 at hb3 ho2 ho3 hB2 ⊢
      clear hW3 d0 d1 d2 d3 d4 g0 g1 g2 g3 g4
      have HB3 := Lib.hid hb3
      have HO2 := Lib.hid ho2
      have HO3 := Lib.hid ho3
      have HD3 := Lib.hid hd3
      have HBB2 := Lib.hid hB2
      have hsz2 : w.heap.size + 1 ≤ W3.heap.size := Nat.le_trans hg hB2.size
      obtain ⟨e0, e1, e2, e3, e4, k0, k1, k2, k3, k4⟩ := hb3.five
      have hlt3 := hb3.lt
      clear hb1 hb2 ho2 hB2 hoth ho3 hd3 hb3 hown hgrow hat c0 c1 c2 c3 c4 f0 f1 f2 f3 f4
      go_wp2_with (at_builtin; refine wpList_append_any _ rfl (.tmp 35) (.tmp 36) _ rfl (w.heap.size + 1) 3 i0 _ 1 8 Tryd.underlying24 HI.out HZ.out hz1 hz2 rfl (by omega) _ k _ rfl (ownsRow_alloc HO3.out _) (W3.heap.size + 1) _ 1 1 [.int .i64 0] rfl (reads_new _ _ _) (by simp [Value.oneCell']) (by simp [maxLen]; omega) (by omega) (by simp; omega) ?_)
      intro v' w4 hown hgrow hat
      obtain ⟨A4, c4', rfl⟩ := ownsRow_slice hown
      obtain ⟨hb1, hb2, ho2, hB2, hoth⟩ := app_store (i := 3) (x := 0) HB3.out (by decide) hg HO3.out HBB2.out hg ((Below.refl _ _).alloc (Nat.le_refl _) _) hown hgrow (by simpa using hat)
      obtain ⟨ho3, hd3⟩ := hoth _ _ _ HO2.out (fun j hj hj' => HD3.out j hj' hj)
      have hb4 : Blk (w4.setCell ⟨w2.heap.size, 3, none⟩ (.slice A4 (k + 1) c4')) w2.heap.size 26 #[.slice A n c, .slice A' n' c', .slice A3 (k + 1) c3', .slice A4 (k + 1) c4', .slice none 0 0] := hb2
      have hfin : NewU w2 (w.heap.size + 1) w2.heap.size n (.slice A n c) (.slice A' n' c') (k + 1) (w4.setCell ⟨w2.heap.size, 3, none⟩ (.slice A4 (k + 1) c4')) :=
        ⟨_, _, hb4, by rw [zeros_snoc]; exact ho3, by rw [zeros_snoc]; exact ho2, fun j hj hj' => hd3 j hj' hj, hB2, hkn⟩
      have HFIN := Lib.hid hfin
      obtain ⟨d0, d1, d2, d3, d4, g0, g1, g2, g3, g4⟩ := hb1.five
      clear hb1 hb2 ho2 hB2 hoth ho3 hd3 hb4 hown hgrow hat hfin
      go_wp2
      go_roundw
      case rel => exact ⟨k + 1, by go_num, by omega, HFIN.out⟩
      case measure => simp [intOf]; omega
    · obtain rfl : k = n := by omega
      have HBK := Lib.hid hb
      have HR := Lib.hid hr
      have HW := Lib.hid hw
      have HD := Lib.hid hd
      have HBB := Lib.hid hB
      have hsz : w.heap.size + 1 ≤ wr.heap.size := Nat.le_trans hg hB.size
      clear hb hr hw hd hB
      have hst : NewF w2 (w.heap.size + 1) w2.heap.size k (.slice A k c) (.slice A' n' c') vr vw 0 wr := ⟨_, HBK.out, ⟨by simp [intsV], .inl ⟨rfl, rfl⟩⟩, HR.out, HW.out, fun j hj => by simp [Value.ownBlock] at hj, fun j hj => by simp [Value.ownBlock] at hj, HBB.out⟩
      have HST := Lib.hid hst
      clear hst
      go_wp2_with fail
      clear c0 c1 c2 c3 c4 f0 f1 f2 f3 f4
      go_loopw [9] (fun i wx => ∃ q : Nat, i = .int .i64 q ∧ q ≤ n' ∧ NewF w2 (w.heap.size + 1) w2.heap.size k (.slice A k c) (.slice A' n' c') vr vw q wx) (fun i _ => n' - (intOf i).toNat)
      case atStart => exact ⟨0, rfl, Nat.zero_le _, HST.out⟩
      case round =>
        obtain ⟨q, rfl, hq, hH⟩ := hrel
        by_cases hqn : q < n'
        · obtain ⟨vh, hb5, ho5, hr5, hw5, hd1, hd2, hB5⟩ := hH
          obtain ⟨A5, c5, rfl⟩ := ownsRow_slice ho5
          have hc8 := hb5.cell 4
          have hfz := hb5.frozen 4
          have hml := hb5.lt
          simp only [List.getElem?_toArray, List.getElem?_cons_succ, List.getElem?_cons_zero] at hc8
          have CP := Lib.hid (fun w => pow2_calls q w (by omega))
          have HB5 := Lib.hid hb5
          have HO5 := Lib.hid ho5
          have HS := Lib.hid (fun (W w1 : World) (v' : Value) => app_store (i := 4) (x := p2 q) (W := W) (w1 := w1) (v' := v') hb5 (by decide) hg ho5 hB5 hg)
          have HR5 := Lib.hid hr5
          have HW5 := Lib.hid hw5
          have HD1 := Lib.hid hd1
          have HD2 := Lib.hid hd2
          have hbase : w.heap.size + 1 ≤ wr.heap.size := Nat.le_trans hg hB5.size
          clear hb5 ho5 hr5 hw5 hd1 hd2 hB5
          go_upto_region 15 with fail
          go_region_law (first | (refine step_append_any _ rfl (.tmp 46) (.tmp 49) 24 rfl (w.heap.size + 1) 3 i0 _ 1 8 Tryd.underlying24 HI.out HZ.out hz1 hz2 rfl (by decide) (.slice A5 q c5) q _ (by simp [Act.eval, Act.put]) (ownsRow_drew (ownsRow_alloc HO5.out _)) (wr.heap.size + 1) (some ⟨wr.heap.size, 0, none⟩) 1 1 [.int .i64 (p2 q : Int)] (by simp [Act.eval, Act.put]) (reads_new _ _ _) (by simp [Value.oneCell']) (by simp [maxLen]; omega) (by omega) (by simp; omega) ?_
                                  intro v' w4 hown1 hgrow hat
                                  obtain ⟨A6, c6, rfl⟩ := ownsRow_slice hown1
                                  obtain ⟨hb6, hb7, ho7, hB7, hoth⟩ := HS.out _ _ _ (((Below.refl _ _).alloc (Nat.le_refl _) _).drew) hown1 hgrow (by simpa using hat)
                                  have hc9 := hb6.cell 4
                                  have hf9 := hb6.frozen 4
                                  simp only [List.getElem?_toArray, List.getElem?_cons_succ, List.getElem?_cons_zero] at hc9
                                  have hfin : NewF w2 (w.heap.size + 1) w2.heap.size k (.slice A k c) (.slice A' n' c') vr vw (q + 1) (w4.setCell ⟨w2.heap.size, 4, none⟩ (.slice A6 (q + 1) c6)) :=
                                    ⟨_, hb7, by rw [pows_snoc]; exact ho7, (hoth _ _ _ HR5.out HD1.out).1, (hoth _ _ _ HW5.out HD2.out).1, (hoth _ _ _ HR5.out HD1.out).2, (hoth _ _ _ HW5.out HD2.out).2, hB7⟩
                                  have HFN := Lib.hid hfin
                                  clear hfin hb6 hb7 ho7 hB7 hoth hown1 hgrow hat) | (go_simp; go_at_call 14; refine (CP.out _).mono ?_; rintro e w6 ⟨rfl, rfl⟩))
          all_goals
            go_wp2_with fail
            go_roundw
            case rel => exact ⟨q + 1, by go_num, by omega, HFN.out⟩
            case measure => simp [intOf]; omega
        · obtain rfl : q = n' := by omega
          obtain ⟨vh, hb5, ho5, hr5, hw5, hd1, hd2, hB5⟩ := hH
          obtain ⟨A5, c5, rfl⟩ := ownsRow_slice ho5
          obtain ⟨A6, c6, rfl⟩ := ownsRow_slice hr5
          obtain ⟨A7, c7, rfl⟩ := ownsRow_slice hw5
          have hk2 : Blk wr w.heap.size 26 #[.slice none 0 0, .slice none 0 0, .slice none 0 0, .slice none 0 0, .slice none 0 0] := HK.out.below hB5 (Nat.lt_succ_self _)
          have hB6 : Below w.heap.size w wr := HB.out.trans (hB5.mono (Nat.le_succ _))
          obtain ⟨c0, c1, c2, c3, c4, f0, f1, f2, f3, f4⟩ := hb5.five
          obtain ⟨d0, d1, d2, d3, d4, g0, g1, g2, g3, g4⟩ := hk2.five
          have hfin : RefBell wr (fun j => F j ∨ j = w.heap.size) (.slice A k c) (.slice A' q c') (.slice A6 k c6) (.slice A7 k c7) (.slice A5 q c5) (newBell us fs) := by
            have l1 := LU.out
            have l2 := LF.out
            have hF := HF.out
            have hnF : ∀ j, w.heap.size + 1 ≤ j → ¬ (F j ∨ j = w.heap.size) := fun j hj hj' => by
              rcases hj' with hj' | hj'
              · have := hF j hj'; omega
              · omega
            refine ⟨newBell_ok HE.out, ?_, ?_, ?_, ?_, ?_⟩
            · show RdF wr _ 2 _ us.length (labCells us); rw [l1]; exact (HU.out.more fun j hj h => h.resolve_right (by omega)).bl hB6
            · show RdF wr _ 2 _ fs.length (labCells fs); rw [l2]; exact (HV.out.more fun j hj h => h.resolve_right (by omega)).bl hB6
            · show RdF wr _ 1 _ us.length (intsV (List.replicate us.length 0)); rw [l1]; exact RdF.of_own hr5 hnF (by unfold maxLen; omega)
            · show RdF wr _ 1 _ us.length (intsV (List.replicate us.length 0)); rw [l1]; exact RdF.of_own hw5 hnF (by unfold maxLen; omega)
            · show RdF wr _ 1 _ fs.length (intsV ((List.range fs.length).map fun i => 2 ^ i)); rw [l2]; exact RdF.of_own ho5 hnF (by unfold maxLen; omega)
          have HFN := Lib.hid hfin
          have HB5 := Lib.hid hB6
          have hlt0 := hk2.lt
          have hlt5 := hb5.lt
          clear hb5 ho5 hr5 hw5 hd1 hd2 hB5 hB6 hfin hk2
          go_wp2
          refine bodyPost_ret (v := .tuple #[.agg #[.slice A k c, .slice A' q c', .slice A6 k c6, .slice A7 k c7, .slice A5 q c5], .int .i64 0]) (by simp [results, Tryd.results4, go_sem, d0, d1, d2, d3, d4]) rfl ⟨_, _, _, rfl, ?_, ?_⟩
          · refine (HFN.out.kp ?_).more fun j _ h => .inl h
            exact kp_setc (kp_setc (kp_setc (kp_setc (kp_setc (Kp.refl _ _) _ _ _ (.inr rfl)) _ _ _ (.inr rfl)) _ _ _ (.inr rfl)) _ _ _ (.inr rfl)) _ _ _ (.inr rfl)
          · exact bl_setc (bl_setc (bl_setc (bl_setc (bl_setc HB5.out _ _ _ (Nat.le_refl _)) _ _ _ (Nat.le_refl _)) _ _ _ (Nat.le_refl _)) _ _ _ (Nat.le_refl _)) _ _ _ (Nat.le_refl _)
end Go.Proofs.YtpppfiagaiaggaaDoor
