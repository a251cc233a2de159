/- The references' monitor: AskBell. -/
import Derived.Test.YtpppfiagaiaggaaDoorRefN
import Derived.Test.YtpppfiagaiaggaaDoorQwAskA
import Derived.Deep.RegionHeld3
import Derived.Deep.QuietTactic
import Derived.BigQuiet
import Derived.BigRegion
namespace Go.Proofs.YtpppfiagaiaggaaDoor
open Go.RowKit

/-- What AskBell reads, behind its three blocks. -/
structure AR (w : World) (k u f t : Int) (b : Bell) (au af ar aw ah : Addr) (cu cf cr cw ch : Nat) (W : World) : Prop where
  bx : Blk W w.heap.size 26 #[.slice (some au) b.users.length cu, .slice (some af) b.files.length cf, .slice (some ar) b.users.length cr, .slice (some aw) b.users.length cw, .slice (some ah) b.files.length ch]
  ax : Blk W (w.heap.size + 1) 40 #[.int .i64 k, .int .i64 u, .int .i64 f, .int .i64 t]
  rx : Blk W (w.heap.size + 1 + 1) 26 #[.slice none 0 0, .slice none 0 0, .slice none 0 0, .slice none 0 0, .slice none 0 0]
  users : ∀ i, (h : i < b.users.length) → W.cell? (au.add (i * 2)) = some (.int .i64 b.users[i].1) ∧ W.cell? ⟨(au.add (i * 2)).block, (au.add (i * 2)).off + 1, none⟩ = some (.int .i64 b.users[i].2)
  files : ∀ i, (h : i < b.files.length) → W.cell? (af.add (i * 2)) = some (.int .i64 b.files[i].1) ∧ W.cell? ⟨(af.add (i * 2)).block, (af.add (i * 2)).off + 1, none⟩ = some (.int .i64 b.files[i].2)
  reads : ∀ i, i < b.users.length → W.cell? (ar.add i) = some (.int .i64 ((b.reads.getD i 0 : Nat) : Int))
  writes : ∀ i, i < b.users.length → W.cell? (aw.add i) = some (.int .i64 ((b.writes.getD i 0 : Nat) : Int))
  holds : ∀ i, i < b.files.length → W.cell? (ah.add i) = some (.int .i64 ((b.holds.getD i 0 : Nat) : Int))

theorem AR.bl {w : World} {k u f t : Int} {b : Bell} {au af ar aw ah : Addr} {cu cf cr cw ch : Nat} {W W' : World} (h : AR w k u f t b au af ar aw ah cu cf cr cw ch W) (hb : Below W.heap.size W W') : AR w k u f t b au af ar aw ah cu cf cr cw ch W' := by
  have kc : ∀ {p : Addr} {v : Value}, W.cell? p = some v → W'.cell? p = some v := fun hc => (hb.cell (cell_lt hc)).trans hc
  exact ⟨h.bx.below hb h.bx.lt, h.ax.below hb h.ax.lt, h.rx.below hb h.rx.lt, fun i hi => ⟨kc (h.users i hi).1, kc (h.users i hi).2⟩, fun i hi => ⟨kc (h.files i hi).1, kc (h.files i hi).2⟩,
    fun i hi => kc (h.reads i hi), fun i hi => kc (h.writes i hi), fun i hi => kc (h.holds i hi)⟩

theorem rd_labs {w : World} {F : Nat → Prop} {v : Value} {xs : List (Int × Int)} (h : RdF w F 2 v xs.length (labCells xs)) (hn : 0 < xs.length) : ∃ ad c, v = .slice (some ad) xs.length c ∧ ad.block < w.heap.size ∧
    ∀ i, (h : i < xs.length) → w.cell? (ad.add (i * 2)) = some (.int .i64 xs[i].1) ∧ w.cell? ⟨(ad.add (i * 2)).block, (ad.add (i * 2)).off + 1, none⟩ = some (.int .i64 xs[i].2) := by
  obtain ⟨A, c, rfl, hm, hl, h⟩ := h
  obtain ⟨ad, rfl, hb, hf, hc⟩ := h hn
  refine ⟨ad, c, rfl, hb, fun i hi => ?_⟩
  obtain ⟨h1, h2⟩ := labCells_at xs i hi
  refine ⟨hc _ _ h1, ?_⟩
  have := hc _ _ h2
  rw [← add_of_add] at this
  exact this
theorem rd_ints {w : World} {F : Nat → Prop} {v : Value} {l : List Nat} {n : Nat} (h : RdF w F 1 v n (intsV l)) (hl' : l.length = n) (hn : 0 < n) : ∃ ad c, v = .slice (some ad) n c ∧ ad.block < w.heap.size ∧
    ∀ i, i < n → w.cell? (ad.add i) = some (.int .i64 ((l.getD i 0 : Nat) : Int)) := by
  obtain ⟨A, c, rfl, hm, hl, h⟩ := h
  obtain ⟨ad, rfl, hb, hf, hc⟩ := h hn
  exact ⟨ad, c, rfl, hb, fun i hi => hc _ _ (intsV_at l hl' hi)⟩

theorem AR.start {w : World} {F : Nat → Prop} {vu vf vr vw vh : Value} {b : Bell} (h : RefBell w F vu vf vr vw vh b) (hu : 0 < b.users.length) (hf : 0 < b.files.length) (k u f t : Int) :
    ∃ au af ar aw ah cu cf cr cw ch, vu = .slice (some au) b.users.length cu ∧ vf = .slice (some af) b.files.length cf ∧ vr = .slice (some ar) b.users.length cr ∧ vw = .slice (some aw) b.users.length cw ∧ vh = .slice (some ah) b.files.length ch ∧
      AR w k u f t b au af ar aw ah cu cf cr cw ch (((w.alloc (.cells #[.slice (some au) b.users.length cu, .slice (some af) b.files.length cf, .slice (some ar) b.users.length cr, .slice (some aw) b.users.length cw, .slice (some ah) b.files.length ch] 26)).alloc
        (.cells #[.int .i64 k, .int .i64 u, .int .i64 f, .int .i64 t] 40)).alloc (.cells #[.slice none 0 0, .slice none 0 0, .slice none 0 0, .slice none 0 0, .slice none 0 0] 26)) := by
  obtain ⟨au, cu, rfl, bu, hcu⟩ := rd_labs h.users hu
  obtain ⟨af, cf, rfl, bf, hcf⟩ := rd_labs h.files hf
  obtain ⟨ar, cr, rfl, br, hcr⟩ := rd_ints h.reads h.ok.readsL hu
  obtain ⟨aw, cw, rfl, bw, hcw⟩ := rd_ints h.writes h.ok.writesL hu
  obtain ⟨ah, ch, rfl, bh, hch⟩ := rd_ints h.holds h.ok.holdsL hf
  refine ⟨au, af, ar, aw, ah, cu, cf, cr, cw, ch, rfl, rfl, rfl, rfl, rfl, ?_⟩
  have b1 := Blk.new w 26 #[.slice (some au) b.users.length cu, .slice (some af) b.files.length cf, .slice (some ar) b.users.length cr, .slice (some aw) b.users.length cw, .slice (some ah) b.files.length ch]
  have b2 := Blk.new (w.alloc (.cells #[.slice (some au) b.users.length cu, .slice (some af) b.files.length cf, .slice (some ar) b.users.length cr, .slice (some aw) b.users.length cw, .slice (some ah) b.files.length ch] 26)) 40 #[.int .i64 k, .int .i64 u, .int .i64 f, .int .i64 t]
  have b3 := Blk.new ((w.alloc (.cells #[.slice (some au) b.users.length cu, .slice (some af) b.files.length cf, .slice (some ar) b.users.length cr, .slice (some aw) b.users.length cw, .slice (some ah) b.files.length ch] 26)).alloc (.cells #[.int .i64 k, .int .i64 u, .int .i64 f, .int .i64 t] 40)) 26 #[.slice none 0 0, .slice none 0 0, .slice none 0 0, .slice none 0 0, .slice none 0 0]
  simp only [World.size_alloc] at b2 b3
  have hB : Below w.heap.size w _ := bl_alloc (bl_alloc (bl_alloc (Below.refl _ w) (.cells #[.slice (some au) b.users.length cu, .slice (some af) b.files.length cf, .slice (some ar) b.users.length cr, .slice (some aw) b.users.length cw, .slice (some ah) b.files.length ch] 26)) (.cells #[.int .i64 k, .int .i64 u, .int .i64 f, .int .i64 t] 40)) (.cells #[.slice none 0 0, .slice none 0 0, .slice none 0 0, .slice none 0 0, .slice none 0 0] 26)
  have kc : ∀ {p : Addr} {v : Value}, w.cell? p = some v → _ := fun {p v} hc => (hB.cell (p := p) (cell_lt hc)).trans hc
  exact ⟨(b1.alloc _).alloc _, b2.alloc _, b3, fun i hi => ⟨kc (hcu i hi).1, kc (hcu i hi).2⟩, fun i hi => ⟨kc (hcf i hi).1, kc (hcf i hi).2⟩, fun i hi => kc (hcr i hi), fun i hi => kc (hcw i hi), fun i hi => kc (hch i hi)⟩

set_option maxRecDepth 100000 in
set_option maxHeartbeats 1000000 in
/-- What is out of range. -/
theorem refAsk_out (F : Nat → Prop) (vu vf vr vw vh : Value) (b : Bell) (k u f t : Int) (w : World) (h : RefBell w F vu vf vr vw vh b) (ho : askOut b ⟨k, u, f, t⟩ = true) (hF : ∀ j, F j → j < w.heap.size) :
    Calls Tryd.prog 17 #[.agg #[vu, vf, vr, vw, vh], .agg #[.int .i64 k, .int .i64 u, .int .i64 f, .int .i64 t]] w fun e w' => e = .returned (.tuple #[.agg #[vu, vf, vr, vw, vh], .int .i64 1]) ∧ Below w.heap.size w w' := by
  obtain ⟨Au, cu, rfl, hmu, _⟩ := h.users
  obtain ⟨Af, cf, rfl, hmf, _⟩ := h.files
  have hnu := h.ok.users
  have hnf := h.ok.files
  obtain ⟨Ar, cr, rfl, _, _⟩ := h.reads
  obtain ⟨Aw, cw, rfl, _, _⟩ := h.writes
  obtain ⟨Ah, ch, rfl, _, _⟩ := h.holds
  generalize hN : b.users.length = n at *
  generalize hM : b.files.length = m at *
  have ho' : (inR k 0 3 = false) ∨ (inR k 0 3 = true ∧ inR u 0 ((n : Int) - 1) = false) ∨ (inR k 0 3 = true ∧ inR u 0 ((n : Int) - 1) = true ∧ inR f 0 ((m : Int) - 1) = false) ∨ (inR k 0 3 = true ∧ inR u 0 ((n : Int) - 1) = true ∧ inR f 0 ((m : Int) - 1) = true ∧ k = 3 ∧ inR t 0 ((m : Int) - 1) = false) := by
    unfold askOut at ho
    simp only [hN, hM] at ho
    cases h1 : inR k 0 3 <;> cases h2 : inR u 0 ((n : Int) - 1) <;> cases h3 : inR f 0 ((m : Int) - 1) <;> simp [h1, h2, h3] at ho ⊢
    exact ho
  clear h ho hF hN hM hmu hmf
  rcases ho' with h1 | ⟨h1, h2⟩ | ⟨h1, h2, h3⟩ | ⟨h1, h2, h3, rfl, h4⟩
  all_goals
    go_enter Tryd.func17, Tryd.ntmps17
    go_wp2_with (go_at_call 34; refine (refIn_calls _ _ _ _).mono ?_; rintro e w' ⟨rfl, rfl⟩; first | rw [h1] | rw [h2] | rw [h3] | rw [h4])
    refine bodyPost_ret (v := .tuple #[.agg #[.slice Au n cu, .slice Af m cf, .slice Ar n cr, .slice Aw n cw, .slice Ah m ch], .int .i64 1]) (by simp [results, Tryd.results17, go_sem]) rfl ⟨rfl, ?_⟩
    exact bl_alloc (bl_alloc (bl_alloc (Below.refl _ w) _) _) _
section
variable {w : World} {k u f t : Int} {b : Bell} {au af ar aw ah : Addr} {cu cf cr cw ch : Nat} {W : World}
/-- The cells of the first test of a reading. -/
theorem AR.t7 (h : AR w k u f t b au af ar aw ah cu cf cr cw ch W) {i j : Nat} (hi : i < b.users.length) (hj : j < b.files.length) :
    W.cell? ⟨w.heap.size + 1, 0, none⟩ = some (.int .i64 k) ∧ (W.cell? ⟨w.heap.size, 0, none⟩ = some (.slice (some au) b.users.length cu) ∧ W.cell? ⟨w.heap.size, 1, none⟩ = some (.slice (some af) b.files.length cf)) ∧
    (W.cell? (af.add (j * 2)) = some (.int .i64 b.files[j].1) ∧ W.cell? ⟨(af.add (j * 2)).block, (af.add (j * 2)).off + 1, none⟩ = some (.int .i64 b.files[j].2)) ∧
    (W.cell? (au.add (i * 2)) = some (.int .i64 b.users[i].1) ∧ W.cell? ⟨(au.add (i * 2)).block, (au.add (i * 2)).off + 1, none⟩ = some (.int .i64 b.users[i].2)) :=
  ⟨h.ax.cell 0, ⟨h.bx.cell 0, h.bx.cell 1⟩, h.files j hj, h.users i hi⟩
theorem AR.t14 (h : AR w k u f t b au af ar aw ah cu cf cr cw ch W) {q i j : Nat} (hq : q < b.users.length) (hi : i < b.files.length) (hj : j < b.files.length) :
    (W.cell? ⟨w.heap.size + 1, 0, none⟩ = some (.int .i64 k) ∧ W.cell? ⟨w.heap.size, 2, none⟩ = some (.slice (some ar) b.users.length cr)) ∧ (W.cell? (ar.add q) = some (.int .i64 ((b.reads.getD q 0 : Nat) : Int)) ∧ W.cell? ⟨w.heap.size, 1, none⟩ = some (.slice (some af) b.files.length cf)) ∧
    (W.cell? (af.add (i * 2)) = some (.int .i64 b.files[i].1) ∧ W.cell? ⟨(af.add (i * 2)).block, (af.add (i * 2)).off + 1, none⟩ = some (.int .i64 b.files[i].2)) ∧
    (W.cell? (af.add (j * 2)) = some (.int .i64 b.files[j].1) ∧ W.cell? ⟨(af.add (j * 2)).block, (af.add (j * 2)).off + 1, none⟩ = some (.int .i64 b.files[j].2)) :=
  ⟨⟨h.ax.cell 0, h.bx.cell 2⟩, ⟨h.reads q hq, h.bx.cell 1⟩, h.files i hi, h.files j hj⟩
theorem AR.t12 (h : AR w k u f t b au af ar aw ah cu cf cr cw ch W) {q i j : Nat} (hq : q < b.users.length) (hi : i < b.files.length) (hj : j < b.files.length) :
    (W.cell? ⟨w.heap.size + 1, 0, none⟩ = some (.int .i64 k) ∧ W.cell? ⟨w.heap.size, 3, none⟩ = some (.slice (some aw) b.users.length cw)) ∧ (W.cell? (aw.add q) = some (.int .i64 ((b.writes.getD q 0 : Nat) : Int)) ∧ W.cell? ⟨w.heap.size, 1, none⟩ = some (.slice (some af) b.files.length cf)) ∧
    (W.cell? (af.add (i * 2)) = some (.int .i64 b.files[i].1) ∧ W.cell? ⟨(af.add (i * 2)).block, (af.add (i * 2)).off + 1, none⟩ = some (.int .i64 b.files[i].2)) ∧
    (W.cell? (af.add (j * 2)) = some (.int .i64 b.files[j].1) ∧ W.cell? ⟨(af.add (j * 2)).block, (af.add (j * 2)).off + 1, none⟩ = some (.int .i64 b.files[j].2)) :=
  ⟨⟨h.ax.cell 0, h.bx.cell 3⟩, ⟨h.writes q hq, h.bx.cell 1⟩, h.files i hi, h.files j hj⟩
end

/-- A block's five cells stored anew. -/
def set5 (W : World) (g : Nat) (a b c d e : Value) : World := ((((W.setCell ⟨g, 0, none⟩ a).setCell ⟨g, 1, none⟩ b).setCell ⟨g, 2, none⟩ c).setCell ⟨g, 3, none⟩ d).setCell ⟨g, 4, none⟩ e
theorem bl_set5 {w W : World} (h : Below w.heap.size w W) {g : Nat} (hg : w.heap.size ≤ g) (a b c d e : Value) : Below w.heap.size w (set5 W g a b c d e) :=
  bl_setc (bl_setc (bl_setc (bl_setc (bl_setc h _ _ _ hg) _ _ _ hg) _ _ _ hg) _ _ _ hg) _ _ _ hg
theorem kp_set5 {F : Nat → Prop} {w W : World} (h : Kp F w W) {g : Nat} (hg : F g) (a b c d e : Value) : Kp F w (set5 W g a b c d e) :=
  kp_setc (kp_setc (kp_setc (kp_setc (kp_setc h _ _ _ hg) _ _ _ hg) _ _ _ hg) _ _ _ hg) _ _ _ hg

/-- Behind the setting of a list: what the three blocks hold, and that the new list reads. -/
theorem refStep {w wr w2 : World} {F : Nat → Prop} {cs qs rs : Array Value} {An : Option Addr} {n cn B i : Nat} {ys : List Value} (hbx : Blk wr w.heap.size 26 cs) (hax : Blk wr (w.heap.size + 1) 40 qs) (hrx : Blk wr (w.heap.size + 1 + 1) 26 rs)
    (hBw : Below w.heap.size w wr) (hb : Below wr.heap.size wr w2) (hB : wr.heap.size ≤ B) (ho : w2.ownsRow B 3 1 (.slice An n cn) n ys) (hm : n ≤ maxLen) (hF : ∀ j, F j → j < w.heap.size) :
    Blk (w2.setCell ⟨w.heap.size, i, none⟩ (.slice An n cn)) w.heap.size 26 (cs.setIfInBounds i (.slice An n cn)) ∧ Blk (w2.setCell ⟨w.heap.size, i, none⟩ (.slice An n cn)) (w.heap.size + 1) 40 qs ∧
    Blk (w2.setCell ⟨w.heap.size, i, none⟩ (.slice An n cn)) (w.heap.size + 1 + 1) 26 rs ∧ Below w.heap.size w (w2.setCell ⟨w.heap.size, i, none⟩ (.slice An n cn)) ∧
    RdF (w2.setCell ⟨w.heap.size, i, none⟩ (.slice An n cn)) (fun j => F j ∨ j = w.heap.size ∨ j = w.heap.size + 1 + 1) 1 (.slice An n cn) n ys := by
  have l1 := hbx.lt
  have l2 := hrx.lt
  refine ⟨(hbx.below hb hbx.lt).set_ i _, (hax.below hb hax.lt).far (by simp) _, (hrx.below hb hrx.lt).far (by simp; omega) _, bl_setc (bl_trans hBw hb) _ _ _ (Nat.le_refl _), ?_⟩
  refine RdF.of_own (ownsRow_setCell_other ho (own_blk_ne ho (hbx.below hb hbx.lt) (by decide)) _) (fun k hk hf => ?_) hm
  rcases hf with h | h | h
  · have := hF k h; omega
  · omega
  · omega

/-- The monitor with one list set anew, behind the result's storing. -/
theorem RefBell.fin {w W : World} {F : Nat → Prop} {vu vf vr vw vh : Value} {b : Bell} (h : RefBell w F vu vf vr vw vh b) (hB : Below w.heap.size w W) (hF : ∀ j, F j → j < w.heap.size) (a b' c d e : Value) (g : Nat) (hg : w.heap.size ≤ g) : RefBell (set5 W g a b' c d e) F vu vf vr vw vh b :=
  h.bl (bl_set5 hB hg _ _ _ _ _)
theorem RdF.fin {w W : World} {F : Nat → Prop} {v : Value} {n : Nat} {ys : List Value} (h : RdF W (fun j => F j ∨ j = w.heap.size ∨ j = w.heap.size + 1 + 1) 1 v n ys) (a b' c d e : Value) : RdF (set5 W (w.heap.size + 1 + 1) a b' c d e) F 1 v n ys :=
  (h.kp (kp_set5 (Kp.refl _ _) (.inr (.inr rfl)) _ _ _ _ _)).more fun k _ hk => .inl hk


/-! ### What is asked, kind by kind -/
section
variable {b : Bell} {u f : Nat} {t : Int}
theorem askIn (hu : u < b.users.length) (hf : f < b.files.length) (k : Int) (hk : 0 ≤ k ∧ k ≤ 3) (ht : k = 3 → 0 ≤ t ∧ t < b.files.length) : askOut b ⟨k, u, f, t⟩ = false := by
  unfold askOut inR
  by_cases h3 : k = 3
  · have := ht h3
    simp [h3]; omega
  · simp [h3]; omega
theorem getLab {xs : List (Int × Int)} {i : Nat} (h : i < xs.length) : xs.getD i (0, 0) = xs[i] := by rw [List.getD_eq_getElem?_getD, List.getElem?_eq_getElem h]; rfl
theorem allBits_of {s : Nat} {xs : List (Int × Int)} {p : Int × Int → Bool} (h : ∀ j, j < xs.length → s.testBit j = true → p (xs.getD j (0, 0)) = true) : allBits s xs p = true := by
  unfold allBits
  rw [List.all_eq_true]
  intro i hi
  rw [List.mem_range] at hi
  cases hb : s.testBit i
  · rfl
  · rw [h i hi hb]; rfl
theorem allBits_not {s : Nat} {xs : List (Int × Int)} {p : Int × Int → Bool} {j : Nat} (hj : j < xs.length) (hb : s.testBit j = true) (h : p (xs.getD j (0, 0)) = false) : allBits s xs p = false := by
  unfold allBits
  rw [List.all_eq_false]
  exact ⟨j, List.mem_range.2 hj, by rw [hb, h]; simp⟩
theorem ask0_no (hu : u < b.users.length) (hf : f < b.files.length) (h : (belowB b.files[f].1 b.files[f].2 b.users[u].1 b.users[u].2 && allBits (b.writes.getD u 0) b.files (labBelow b.files[f] ·)) = false) : askBell b ⟨0, u, f, t⟩ = (b, 7) := by
  unfold askBell
  rw [askIn hu hf 0 (by omega) (fun h => by omega)]
  simp only [Bool.false_eq_true, if_false, Int.toNat_natCast, getLab hu, getLab hf, if_true]
  rw [if_neg]
  rw [show labBelow b.files[f] b.users[u] = belowB b.files[f].1 b.files[f].2 b.users[u].1 b.users[u].2 from rfl, h]; simp
theorem ask0_yes (hu : u < b.users.length) (hf : f < b.files.length) (h : (belowB b.files[f].1 b.files[f].2 b.users[u].1 b.users[u].2 && allBits (b.writes.getD u 0) b.files (labBelow b.files[f] ·)) = true) : askBell b ⟨0, u, f, t⟩ = ({ b with reads := b.reads.set u (Qw.setBit (b.reads.getD u 0) f) }, 0) := by
  unfold askBell
  rw [askIn hu hf 0 (by omega) (fun h => by omega)]
  simp only [Bool.false_eq_true, if_false, Int.toNat_natCast, getLab hu, getLab hf, if_true]
  rw [if_pos]
  rw [show labBelow b.files[f] b.users[u] = belowB b.files[f].1 b.files[f].2 b.users[u].1 b.users[u].2 from rfl, h]
theorem ask1_no (hu : u < b.users.length) (hf : f < b.files.length) (h : allBits (b.reads.getD u 0) b.files (labBelow · b.files[f]) = false) : askBell b ⟨1, u, f, t⟩ = (b, 7) := by
  unfold askBell
  rw [askIn hu hf 1 (by omega) (fun h => by omega)]
  simp only [Bool.false_eq_true, if_false, Int.toNat_natCast, getLab hf, h, if_true]
  simp
theorem ask1_yes (hu : u < b.users.length) (hf : f < b.files.length) (h : allBits (b.reads.getD u 0) b.files (labBelow · b.files[f]) = true) : askBell b ⟨1, u, f, t⟩ = ({ b with writes := b.writes.set u (Qw.setBit (b.writes.getD u 0) f) }, 0) := by
  unfold askBell
  rw [askIn hu hf 1 (by omega) (fun h => by omega)]
  simp only [Bool.false_eq_true, if_false, Int.toNat_natCast, getLab hf, h, if_true]
  simp
theorem ask2_eq (hu : u < b.users.length) (hf : f < b.files.length) : askBell b ⟨2, u, f, t⟩ = ({ b with reads := b.reads.set u (Qw.clrBit (b.reads.getD u 0) f), writes := b.writes.set u (Qw.clrBit (b.writes.getD u 0) f) }, 0) := by
  unfold askBell
  rw [askIn hu hf 2 (by omega) (fun h => by omega)]
  simp
theorem ask3_no {g : Nat} (hu : u < b.users.length) (hf : f < b.files.length) (hg : g < b.files.length) (h : ((b.reads.getD u 0).testBit f && (b.writes.getD u 0).testBit g) = false) : askBell b ⟨3, u, f, g⟩ = (b, 8) := by
  unfold askBell
  rw [askIn hu hf 3 (by omega) (fun h => by omega)]
  simp only [Bool.false_eq_true, if_false, Int.toNat_natCast]
  rw [h]; simp
theorem ask3_yes {g : Nat} (hu : u < b.users.length) (hf : f < b.files.length) (hg : g < b.files.length) (h : ((b.reads.getD u 0).testBit f && (b.writes.getD u 0).testBit g) = true) : askBell b ⟨3, u, f, g⟩ = ({ b with holds := b.holds.set g (b.holds.getD g 0 ||| b.holds.getD f 0) }, 0) := by
  unfold askBell
  rw [askIn hu hf 3 (by omega) (fun h => by omega)]
  simp only [Bool.false_eq_true, if_false, Int.toNat_natCast]
  rw [h]; simp
end
end Go.Proofs.YtpppfiagaiaggaaDoor
