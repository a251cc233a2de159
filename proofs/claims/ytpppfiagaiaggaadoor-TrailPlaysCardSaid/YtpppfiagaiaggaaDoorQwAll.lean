/- bell's all: of a set of files, against one. -/
import Derived.Test.YtpppfiagaiaggaaDoorQwBits
namespace Go.Proofs.YtpppfiagaiaggaaDoor
open Go.RowKit Go.Shelf
attribute [local go_sem] Oper.semAt_some

theorem ask1_calls (fb : Nat) (l s l' s' : Int) (w : World) (h : labOk l s = true) (h' : labOk l' s' = true) (c0 : w.cell? ⟨fb, 0, none⟩ = some (.int .i64 l)) (c1 : w.cell? ⟨fb, 1, none⟩ = some (.int .i64 s)) (hfb : fb < w.heap.size) :
    Calls Tryd.prog 43 #[.agg #[.int .i64 l', .int .i64 s'], .pointer (some ⟨fb, 0, none⟩)] w fun e w' => e = .returned (.bool (belowB l s l' s')) ∧ Below w.heap.size w w' := by
  have C1 := Lib.hid (fun w => bellBelow_calls l s l' s' w h h')
  clear h h'
  generalize belowB l s l' s' = r at *
  go_enter Tryd.func43, Tryd.ntmps43
  go_wp2_with fail
  refine (C1.out _).mono ?_
  rintro e w1 ⟨rfl, hb1⟩
  go_wp2
  go_ret
  exact ⟨rfl, bl_trans (bl_alloc (Below.refl _ _) _) hb1⟩

theorem ask2_calls (fb : Nat) (l s l' s' : Int) (w : World) (h : labOk l s = true) (h' : labOk l' s' = true) (c0 : w.cell? ⟨fb, 0, none⟩ = some (.int .i64 l)) (c1 : w.cell? ⟨fb, 1, none⟩ = some (.int .i64 s)) (hfb : fb < w.heap.size) :
    Calls Tryd.prog 44 #[.agg #[.int .i64 l', .int .i64 s'], .pointer (some ⟨fb, 0, none⟩)] w fun e w' => e = .returned (.bool (belowB l' s' l s)) ∧ Below w.heap.size w w' := by
  have C1 := Lib.hid (fun w => bellBelow_calls l' s' l s w h' h)
  clear h h'
  generalize belowB l' s' l s = r at *
  go_enter Tryd.func44, Tryd.ntmps44
  go_wp2_with fail
  refine (C1.out _).mono ?_
  rintro e w1 ⟨rfl, hb1⟩
  go_wp2
  go_ret
  exact ⟨rfl, bl_trans (bl_alloc (Below.refl _ _) _) hb1⟩

/-- What 'all' reads: the monitor's files, and the label that the closure holds. -/
structure AllAt (w : World) (mb gf : Nat) (cf : Nat) (files : List (Int × Int)) (fb : Nat) (f : Int × Int) : Prop where
  lm : mb < w.heap.size
  lf : fb < w.heap.size
  lg : gf < w.heap.size
  filesV : w.cell? ⟨mb, 1, none⟩ = some (.slice (some ⟨gf, 0, none⟩) files.length cf)
  cells : ∀ i, (h : i < files.length) → w.cell? ⟨gf, i * 2, none⟩ = some (.int .i64 files[i].1) ∧ w.cell? ⟨gf, i * 2 + 1, none⟩ = some (.int .i64 files[i].2)
  f0 : w.cell? ⟨fb, 0, none⟩ = some (.int .i64 f.1)
  f1 : w.cell? ⟨fb, 1, none⟩ = some (.int .i64 f.2)
  filesP : files.all labP = true
  fP : labP f = true
  tab : 3 < w.heap.size ∧ TabAt 3 Lib.deBruijn64tab w

theorem AllAt.below {w w' : World} {mb gf cf fb : Nat} {files : List (Int × Int)} {f : Int × Int} (h : AllAt w mb gf cf files fb f) (hb : Below w.heap.size w w') : AllAt w' mb gf cf files fb f := by
  have hs := hb.size
  refine ⟨Nat.lt_of_lt_of_le h.lm hs, Nat.lt_of_lt_of_le h.lf hs, Nat.lt_of_lt_of_le h.lg hs, (hb.cell (p := ⟨mb, 1, none⟩) h.lm).trans h.filesV, fun i hi => ⟨(hb.cell (p := ⟨gf, i * 2, none⟩) h.lg).trans (h.cells i hi).1, (hb.cell (p := ⟨gf, i * 2 + 1, none⟩) h.lg).trans (h.cells i hi).2⟩,
    (hb.cell (p := ⟨fb, 0, none⟩) h.lf).trans h.f0, (hb.cell (p := ⟨fb, 1, none⟩) h.lf).trans h.f1, h.filesP, h.fP, Nat.lt_of_lt_of_le h.tab.1 hs, fun j hj => (hb.cell (p := ⟨3, j, none⟩) h.tab.1).trans (h.tab.2 j hj)⟩

theorem cell_lt {w : World} {p : Addr} {v : Value} (h : w.cell? p = some v) : p.block < w.heap.size := by
  rcases Nat.lt_or_ge p.block w.heap.size with hl | hl
  · exact hl
  · simp [World.cell?, Array.getElem?_eq_none hl] at h

theorem keepsFrom_below {W W' : World} {B : Nat} (h : Below W.heap.size W W') : KeepsFrom B W W' :=
  ⟨h.size, fun k o _ hk _ => (h.block k (Array.getElem?_eq_some_iff.1 hk).1).trans hk⟩

theorem bitsL_lt {s k : Nat} (hs : s < 2 ^ k) {i : Nat} (h : i ∈ bitsL s) : i < k ∧ s.testBit i = true := by
  simp only [bitsL, List.mem_filter] at h
  refine ⟨?_, h.2⟩
  rcases Nat.lt_or_ge i k with hl | hl
  · exact hl
  · have : s.testBit i = false := Nat.testBit_lt_two_pow (Nat.lt_of_lt_of_le hs (Nat.pow_le_pow_right (by decide) hl))
    rw [this] at h; simp at h

theorem allBits_true {s : Nat} {files : List (Int × Int)} {p : Int × Int → Bool} (hn : files.length ≤ 8) (h : ∀ y ∈ bitsL s, p (files.getD y (0, 0)) = true) : allBits s files p = true := by
  unfold allBits
  rw [List.all_eq_true]
  intro i hi
  rw [List.mem_range] at hi
  cases hb : s.testBit i
  · rfl
  · rw [h i (List.mem_filter.2 ⟨List.mem_range.2 (by omega), hb⟩)]; rfl
theorem allBits_false {s : Nat} {files : List (Int × Int)} {p : Int × Int → Bool} (hs : s < 2 ^ files.length) {y : Nat} (hy : y ∈ bitsL s) (h : p (files.getD y (0, 0)) = false) : allBits s files p = false := by
  unfold allBits
  rw [List.all_eq_false]
  obtain ⟨h1, h2⟩ := bitsL_lt hs hy
  exact ⟨y, List.mem_range.2 h1, by rw [h2, h]; simp⟩

set_option maxRecDepth 100000 in
set_option maxHeartbeats 2000000 in
theorem all_calls (clo : Nat) (p : Int × Int → Bool) (hent : ∀ args w, (callFunc clo args).run Tryd.prog w = .ok (.enter clo args) w) (mb gf cf fb : Nat) (files : List (Int × Int)) (f : Int × Int) (s : Nat) (w : World) (hA : AllAt w mb gf cf files fb f)
    (hclo : ∀ (x : Int × Int) (W : World), labP x = true → W.cell? ⟨fb, 0, none⟩ = some (.int .i64 f.1) → W.cell? ⟨fb, 1, none⟩ = some (.int .i64 f.2) → fb < W.heap.size →
      Calls Tryd.prog clo #[.agg #[.int .i64 x.1, .int .i64 x.2], .pointer (some ⟨fb, 0, none⟩)] W fun e W' => e = .returned (.bool (p x)) ∧ Below W.heap.size W W') (hn : files.length ≤ 8) (hs : s < 2 ^ files.length) :
    Calls Tryd.prog 42 #[.pointer (some ⟨mb, 0, none⟩), .int .i64 (s : Int), .func (.func clo) #[] #[.pointer (some ⟨fb, 0, none⟩)]] w fun e w' => e = .returned (.bool (allBits s files p)) ∧ Below w.heap.size w w' := by
  refine (callsIn_wide (n := 6)).1 ?_
  have hs8 : s < 256 := Nat.lt_of_lt_of_le hs (Nat.pow_le_pow_right (n := 2) (by decide) (j := 8) hn)
  refine callsIn_of_wp_marks Tryd.func42 rfl trivial ?_ rfl
  simp only [Tryd.ntmps42, List.size_toArray, List.length_cons, List.length_nil, Nat.reduceAdd, Nat.reduceSub, Array.replicate_succ, Array.replicate_zero, List.push_toArray, List.append_toArray, List.nil_append, List.cons_append]
  gi_wp2_with (refine ⟨trivial, ?_⟩; gi_at_call 59; refine (bits_calls Fence.wide _ trivial rfl _ _).mono ?_; rintro e w' ⟨rfl, rfl⟩)
  have HFP := hA.filesP
  have c0 := cell_new_l w (.pointer (some ⟨mb, 0, none⟩)) 46
  have c1 := cell_new_l (w.alloc (.cells #[.pointer (some ⟨mb, 0, none⟩)] 46)) (.func (.func clo) #[] #[.pointer (some ⟨fb, 0, none⟩)]) 80
  have c2 := cell_new_l ((w.alloc (.cells #[.pointer (some ⟨mb, 0, none⟩)] 46)).alloc (.cells #[.func (.func clo) #[] #[.pointer (some ⟨fb, 0, none⟩)]] 80)) (.bool false) 4
  have c3 := cell_new_l (((w.alloc (.cells #[.pointer (some ⟨mb, 0, none⟩)] 46)).alloc (.cells #[.func (.func clo) #[] #[.pointer (some ⟨fb, 0, none⟩)]] 80)).alloc (.cells #[.bool false] 4)) (.int .i64 (s : Int)) 3
  simp only [World.size_alloc] at c1 c2 c3
  have hB0 : Below w.heap.size w ((((w.alloc (.cells #[.pointer (some ⟨mb, 0, none⟩)] 46)).alloc (.cells #[.func (.func clo) #[] #[.pointer (some ⟨fb, 0, none⟩)]] 80)).alloc (.cells #[.bool false] 4)).alloc (.cells #[.int .i64 (s : Int)] 3)) :=
    bl_alloc (bl_alloc (bl_alloc (bl_alloc (Below.refl _ _) _) _) _) _
  refine wpIn_rangeFunc_ownG rfl (by omega) (gf := 66) (lb := #[.pointer (some ⟨w.heap.size + 1 + 1 + 1, 0, none⟩)]) rfl trivial (enters_of Tryd.func66 (by kernel_rfl) rfl)
    (bits_stops 5 (by omega) (w.heap.size + 1 + 1 + 1) w.heap.size hA.tab.1 s hs8 (fun x => x < files.length) (fun x hx => (bitsL_lt hs hx).1) _ (by simp) (by simp; omega) c3.1 ((hA.below hB0).tab.2)) belowK_t (belowK_b (by simp; omega)) (Below.refl _ _) (fun _ => rfl)
    (fun pre W => ((∀ y ∈ pre, p (files.getD y.1 (0, 0)) = true) ∧ W.cell? ⟨w.heap.size, 0, none⟩ = some (.pointer (some ⟨mb, 0, none⟩)) ∧ W.cell? ⟨w.heap.size + 1, 0, none⟩ = some (.func (.func clo) #[] #[.pointer (some ⟨fb, 0, none⟩)]) ∧
      W.cell? ⟨w.heap.size + 1 + 1, 0, none⟩ = some (.bool false) ∧ W.frozen? ⟨w.heap.size + 1 + 1, 0, none⟩ = false) ∧ Below w.heap.size w W)
    (fun c pre W => (c = .ret ∧ (∃ y ∈ pre, p (files.getD y.1 (0, 0)) = false) ∧ W.cell? ⟨w.heap.size + 1 + 1, 0, none⟩ = some (.bool false)) ∧ Below w.heap.size w W)
    (OwnFrom.and (Own.from (fun s A B row hs hg hr => ⟨hs.1, cell_kept hs.2.1 hg hr, cell_kept hs.2.2.1 hg hr, cell_kept hs.2.2.2.1 hg hr, (frozen_kept hs.2.2.2.1 hg hr).trans hs.2.2.2.2⟩) _) (ownFrom_below (Nat.le_refl _) (by simp; omega)))
    (fun c => OwnFrom.and (Own.from (fun s A B row hs hg hr => ⟨hs.1, hs.2.1, cell_kept hs.2.2 hg hr⟩) _) (ownFrom_below (Nat.le_refl _) (by simp; omega)))
    ⟨⟨by simp, cell_alloc_l _ (cell_alloc_l _ (cell_alloc_l _ c0.1)), cell_alloc_l _ (cell_alloc_l _ c1.1), cell_alloc_l _ c2.1, frozen_alloc_l _ c2.1 c2.2⟩, hB0⟩
    (fun x => { tmps := #[.pointer (some ⟨mb, 0, none⟩), .int .i64 (s : Int), .func (.func clo) #[] #[.pointer (some ⟨fb, 0, none⟩)], .pointer (some ⟨w.heap.size, 0, none⟩), undef, .pointer (some ⟨w.heap.size + 1, 0, none⟩), .pointer (some ⟨w.heap.size + 1 + 1, 0, none⟩), .int .i64 ((x.1 : Nat) : Int), .int .i64 (s : Int),
        .func (.func 66) #[] #[.pointer (some ⟨w.heap.size + 1 + 1 + 1, 0, none⟩)], .int .i64 ((x.1 : Nat) : Int), undef, undef, undef, undef, undef, undef, undef, undef, undef, undef], defers := [] }) ?assign ?body ?done ?stop
  case assign =>
    intro l x W K hK
    gi_wp2
    exact hK
  case body =>
    rintro l pre x W ⟨⟨hp, hc0, hc1, hc2, hf2⟩, hB⟩ _
    have hW := hA.below hB
    have hfv := hW.filesV
    obtain ⟨hx1, hx2⟩ := hW.cells x.1 x.2
    have hxl := x.2
    have hok : labP files[x.1] = true := by
      have := List.all_eq_true.1 hW.filesP _ (List.getElem_mem x.2)
      exact this
    have HC := Lib.hid (fun (W1 : World) (h0 : W1.cell? ⟨fb, 0, none⟩ = some (.int .i64 f.1)) (h1 : W1.cell? ⟨fb, 1, none⟩ = some (.int .i64 f.2)) (hl : fb < W1.heap.size) => hclo files[x.1] W1 hok h0 h1 hl)
    have hgd : p (files.getD x.1 (0, 0)) = p files[x.1] := by
      rw [List.getD_eq_getElem?_getD, List.getElem?_eq_getElem x.2]; rfl
    have HG := Lib.hid hgd
    have HW := Lib.hid hW
    have HP := Lib.hid hp
    have HA := Lib.hid hA
    have hsz := hB.size
    have hn8 : x.1 < 8 := by omega
    clear c0 c1 c2 c3 hB0 hA hW hp hgd hok HFP hclo
    obtain ⟨xv, hxv⟩ := x
    simp only [] at *
    gi_wp2_with fail
    gi_region_with (refine ⟨trivial, ?_⟩; refine (CallsIn.inRound l (callsIn_wide.2 (HC.out W.drew HW.out.f0 HW.out.f1 HW.out.lf))).mono ?_; rintro e w1 ⟨rfl, hb1⟩)
    all_goals
      have hbW : Below W.heap.size W w1 := ((Below.refl W.heap.size W).drew).trans hb1
      clear hb1
      have hB1 : Below w.heap.size w w1 := bl_trans hB hbW
      have hc2' : w1.cell? ⟨w.heap.size + 1 + 1, 0, none⟩ = some (.bool false) := (hbW.cell (p := ⟨w.heap.size + 1 + 1, 0, none⟩) (cell_lt hc2)).trans hc2
      have hf2' : w1.frozen? ⟨w.heap.size + 1 + 1, 0, none⟩ = false := (hbW.frozen (p := ⟨w.heap.size + 1 + 1, 0, none⟩) (cell_lt hc2)).trans hf2
      have hc0' : w1.cell? ⟨w.heap.size, 0, none⟩ = _ := (hbW.cell (p := ⟨w.heap.size, 0, none⟩) (cell_lt hc0)).trans hc0
      have hc1' : w1.cell? ⟨w.heap.size + 1, 0, none⟩ = _ := (hbW.cell (p := ⟨w.heap.size + 1, 0, none⟩) (cell_lt hc1)).trans hc1
      have HB1 := Lib.hid hbW
      clear hbW hc0 hc1 hc2 hf2
      cases hr : p files[xv]
      · rw [hr] at HG
        have HR := Lib.hid hr
        clear hr
        gi_wp2
        refine ⟨?_, ⟨rfl, ⟨⟨xv, hxv⟩, List.mem_append.2 (.inr (by simp)), HG.out⟩, ?_⟩, ?_⟩
        · exact (keepsFrom_below HB1.out).trans ((KeepsOthers.setCell _ _ _).from _)
        · exact World.cell?_setCell_same' _ _ _ (by rw [hc2']; rfl)
        · exact hB1.setCell (p := ⟨w.heap.size + 1 + 1, 0, none⟩) (by simp; omega) _
      · rw [hr] at HG
        have HR := Lib.hid hr
        clear hr
        gi_wp2
        refine ⟨?_, ?_, ⟨?_, hc0', hc1', hc2', hf2'⟩, hB1⟩
        · exact keepsFrom_below HB1.out
        · exact HB1.out.mono hsz
        · intro y hy
          exact (List.mem_append.1 hy).elim (HP.out y) (fun e => by simp at e; subst e; exact HG.out)
  case done =>
    rintro D ys W hD hys ⟨⟨hall, _, _, hcr, hfr⟩, hB⟩ hK
    have hAB : allBits s files p = true := allBits_true hn fun y hy => by
      rw [← hys] at hy
      obtain ⟨y', hy', rfl⟩ := List.mem_map.1 hy
      exact hall y' hy'
    gi_wp2
    have hK' := (KeepsOthers.setCell W ⟨w.heap.size + 1 + 1, 0, none⟩ (.bool true)).same D _ hK rfl
    refine ⟨by simp, .inl ⟨_, _, rfl, run_takeDeferred hK', ?_⟩⟩
    have hc5 := cell_kept (World.cell?_setCell_same' W ⟨w.heap.size + 1 + 1, 0, none⟩ (.bool true) (by rw [hcr]; rfl)) (grownBy_putObj' _ D (.deferred none)) (fun r e => by cases e; exact ⟨_, hK', rfl⟩)
    refine ⟨.bool true, ?_, by rw [hAB], (hB.setCell (p := ⟨w.heap.size + 1 + 1, 0, none⟩) (by simp; omega) _).trans (belowK_b (w := w) (Nat.le_refl _) _ D _ _ (by simp at hD; omega) hK' rfl rfl)⟩
    simp [results, Tryd.f42, go_sem, hc5]
  case stop =>
    rintro D c pre W hD hpre ⟨⟨rfl, ⟨y, hy, hyb⟩, hcr⟩, hB⟩ hK
    gi_wp2
    refine ⟨by simp, .inl ⟨_, _, rfl, run_takeDeferred hK, ?_⟩⟩
    have hc5 := cell_kept hcr (grownBy_putObj' _ D (.deferred none)) (fun r e => by cases e; exact ⟨_, hK, rfl⟩)
    refine ⟨.bool false, ?_, by rw [allBits_false hs (hpre.subset (List.mem_map.2 ⟨y, hy, rfl⟩)) hyb], hB.trans (belowK_b (w := w) (Nat.le_refl _) W D _ _ (by simp at hD; omega) hK rfl rfl)⟩
    simp [results, Tryd.f42, go_sem, hc5]

theorem all1_calls (mb gf cf fb : Nat) (files : List (Int × Int)) (f : Int × Int) (s : Nat) (w : World) (hA : AllAt w mb gf cf files fb f) (hn : files.length ≤ 8) (hs : s < 2 ^ files.length) :
    Calls Tryd.prog 42 #[.pointer (some ⟨mb, 0, none⟩), .int .i64 (s : Int), .func (.func 43) #[] #[.pointer (some ⟨fb, 0, none⟩)]] w fun e w' => e = .returned (.bool (allBits s files (labBelow f ·))) ∧ Below w.heap.size w w' :=
  all_calls _ (labBelow f ·) (enters_of Tryd.func43 (by kernel_rfl) rfl) mb gf cf fb files f s w hA (fun x W hx h0 h1 hl => ask1_calls fb f.1 f.2 x.1 x.2 W hA.fP hx h0 h1 hl) hn hs

theorem all2_calls (mb gf cf fb : Nat) (files : List (Int × Int)) (f : Int × Int) (s : Nat) (w : World) (hA : AllAt w mb gf cf files fb f) (hn : files.length ≤ 8) (hs : s < 2 ^ files.length) :
    Calls Tryd.prog 42 #[.pointer (some ⟨mb, 0, none⟩), .int .i64 (s : Int), .func (.func 44) #[] #[.pointer (some ⟨fb, 0, none⟩)]] w fun e w' => e = .returned (.bool (allBits s files (labBelow · f))) ∧ Below w.heap.size w w' :=
  all_calls _ (labBelow · f) (enters_of Tryd.func44 (by kernel_rfl) rfl) mb gf cf fb files f s w hA (fun x W hx h0 h1 hl => ask2_calls fb f.1 f.2 x.1 x.2 W hA.fP hx h0 h1 hl) hn hs
end Go.Proofs.YtpppfiagaiaggaaDoor
