/- The references' trail is asked. -/
import Derived.Test.YtpppfiagaiaggaaDoorRefAskAll
import Derived.StillTailTactics
namespace Go.Proofs.YtpppfiagaiaggaaDoor
open Go.RowKit

theorem askOut_to (b : Bell) (a : Ask) : askOut b (askTo a) = askOut b a := by
  unfold askTo
  by_cases h : a.kind = 3
  · rw [if_pos h]
  · rw [if_neg h]
    unfold askOut
    rw [show ((a.kind : Int) == 3) = false by simp [h]]
    simp
theorem askBell_to (b : Bell) (a : Ask) : askBell b (askTo a) = askBell b a := by
  by_cases h : a.kind = 3
  · unfold askTo; rw [if_pos h]
  · cases ho : askOut b a
    · obtain ⟨k0, k3, _⟩ := askOut_false ho
      unfold askBell
      rw [askOut_to, ho]
      unfold askTo
      rw [if_neg h]
      have hk : a.kind = 0 ∨ a.kind = 1 ∨ a.kind = 2 := by omega
      rcases hk with hk | hk | hk <;> simp [hk]
    · rw [askBell_out ho, askBell_out (by rw [askOut_to]; exact ho)]

/-- A block's eight cells. -/
theorem Blk.eight {w : World} {g t : Nat} {a b c d e f h i : Value} (hb : Blk w g t #[a, b, c, d, e, f, h, i]) : (w.cell? ⟨g, 0, none⟩ = some a ∧ w.cell? ⟨g, 1, none⟩ = some b ∧ w.cell? ⟨g, 2, none⟩ = some c ∧ w.cell? ⟨g, 3, none⟩ = some d ∧ w.cell? ⟨g, 4, none⟩ = some e ∧ w.cell? ⟨g, 5, none⟩ = some f ∧ w.cell? ⟨g, 6, none⟩ = some h ∧ w.cell? ⟨g, 7, none⟩ = some i) ∧
    (w.frozen? ⟨g, 0, none⟩ = false ∧ w.frozen? ⟨g, 1, none⟩ = false ∧ w.frozen? ⟨g, 2, none⟩ = false ∧ w.frozen? ⟨g, 3, none⟩ = false ∧ w.frozen? ⟨g, 4, none⟩ = false ∧ w.frozen? ⟨g, 5, none⟩ = false ∧ w.frozen? ⟨g, 6, none⟩ = false ∧ w.frozen? ⟨g, 7, none⟩ = false) :=
  ⟨⟨hb.cell 0, hb.cell 1, hb.cell 2, hb.cell 3, hb.cell 4, hb.cell 5, hb.cell 6, hb.cell 7⟩, ⟨hb.frozen 0, hb.frozen 1, hb.frozen 2, hb.frozen 3, hb.frozen 4, hb.frozen 5, hb.frozen 6, hb.frozen 7⟩⟩

/-- A block's eight cells stored anew. -/
def set8 (W : World) (g : Nat) (a b c d e f h i : Value) : World := (((((((W.setCell ⟨g, 0, none⟩ a).setCell ⟨g, 1, none⟩ b).setCell ⟨g, 2, none⟩ c).setCell ⟨g, 3, none⟩ d).setCell ⟨g, 4, none⟩ e).setCell ⟨g, 5, none⟩ f).setCell ⟨g, 6, none⟩ h).setCell ⟨g, 7, none⟩ i
theorem bl_set8 {w W : World} (hb : Below w.heap.size w W) {g : Nat} (hg : w.heap.size ≤ g) (a b c d e f h i : Value) : Below w.heap.size w (set8 W g a b c d e f h i) :=
  bl_setc (bl_setc (bl_setc (bl_setc (bl_setc (bl_setc (bl_setc (bl_setc hb _ _ _ hg) _ _ _ hg) _ _ _ hg) _ _ _ hg) _ _ _ hg) _ _ _ hg) _ _ _ hg) _ _ _ hg
theorem kp_set8 {F : Nat → Prop} {w W : World} (hb : Kp F w W) {g : Nat} (hg : F g) (a b c d e f h i : Value) : Kp F w (set8 W g a b c d e f h i) :=
  kp_setc (kp_setc (kp_setc (kp_setc (kp_setc (kp_setc (kp_setc (kp_setc hb _ _ _ hg) _ _ _ hg) _ _ _ hg) _ _ _ hg) _ _ _ hg) _ _ _ hg) _ _ _ hg) _ _ _ hg

/-- What the asking of the references' trail reads, behind its three blocks. -/
structure TR (w : World) (cs qs : Array Value) (W : World) : Prop where
  tb : Blk W w.heap.size 36 cs
  ab : Blk W (w.heap.size + 1) 40 qs
  rb : Blk W (w.heap.size + 1 + 1) 36 #[.slice none 0 0, .slice none 0 0, .slice none 0 0, .slice none 0 0, .slice none 0 0, .string ⟨#[]⟩, .int .i64 0, .int .i64 0]
  bl : Below w.heap.size w W
theorem TR.start (w : World) (cs qs : Array Value) : TR w cs qs (((w.alloc (.cells cs 36)).alloc (.cells qs 40)).alloc (.cells #[.slice none 0 0, .slice none 0 0, .slice none 0 0, .slice none 0 0, .slice none 0 0, .string ⟨#[]⟩, .int .i64 0, .int .i64 0] 36)) := by
  have b1 := Blk.new w 36 cs
  have b2 := Blk.new (w.alloc (.cells cs 36)) 40 qs
  have b3 := Blk.new ((w.alloc (.cells cs 36)).alloc (.cells qs 40)) 36 #[.slice none 0 0, .slice none 0 0, .slice none 0 0, .slice none 0 0, .slice none 0 0, .string ⟨#[]⟩, .int .i64 0, .int .i64 0]
  simp only [World.size_alloc] at b2 b3
  exact ⟨(b1.alloc _).alloc _, b2.alloc _, b3, bl_alloc (bl_alloc (bl_alloc (Below.refl _ w) _) _) _⟩
theorem TR.below {w : World} {cs qs : Array Value} {W W' : World} (h : TR w cs qs W) (hb : Below W.heap.size W W') : TR w cs qs W' := ⟨h.tb.below hb h.tb.lt, h.ab.below hb h.ab.lt, h.rb.below hb h.rb.lt, bl_trans h.bl hb⟩

theorem TR.set_ {w : World} {cs qs : Array Value} {W : World} (h : TR w cs qs W) (i : Nat) (v : Value) : TR w (cs.setIfInBounds i v) qs (W.setCell ⟨w.heap.size, i, none⟩ v) :=
  ⟨h.tb.set_ i v, h.ab.far (by simp) _, h.rb.far (by simp; omega) _, bl_setc h.bl _ _ _ (Nat.le_refl _)⟩

/-- The references' trail as a value. -/
def refTrV (vu vf vr vw vh : Value) (t : TrSt) : Value := .agg #[vu, vf, vr, vw, vh, .string ⟨t.text.toArray⟩, .int .i64 (t.many : Int), .int .i64 t.chain]

set_option maxRecDepth 100000 in
set_option maxHeartbeats 1000000 in
theorem refTrAsk_full (F : Nat → Prop) (vu vf vr vw vh : Value) (t : TrSt) (a : Ask) (w : World) (h : RefBell w F vu vf vr vw vh t.bell) (hm : t.many = 100) :
    Calls Tryd.prog 7 #[.agg #[vu, vf, vr, vw, vh, .string ⟨t.text.toArray⟩, .int .i64 (t.many : Int), .int .i64 t.chain], .agg #[.int .i64 a.kind, .int .i64 a.user, .int .i64 a.file, .int .i64 a.to]] w fun e w' =>
      e = .returned (.tuple #[.agg #[vu, vf, vr, vw, vh, .string ⟨t.text.toArray⟩, .int .i64 (t.many : Int), .int .i64 t.chain], .int .i64 4]) ∧ Below w.heap.size w w' := by
  obtain ⟨Au, cu, rfl⟩ := h.users.slice
  obtain ⟨Af, cf, rfl⟩ := h.files.slice
  obtain ⟨Ar, cr, rfl⟩ := h.reads.slice
  obtain ⟨Aw, cw, rfl⟩ := h.writes.slice
  obtain ⟨Ah, ch, rfl⟩ := h.holds.slice
  rw [hm]
  clear h hm
  generalize t.bell.users.length = n at *
  generalize t.bell.files.length = m at *
  go_enter Tryd.func7, Tryd.ntmps7
  go_wp2
  refine bodyPost_ret (v := .tuple #[.agg #[.slice Au n cu, .slice Af m cf, .slice Ar n cr, .slice Aw n cw, .slice Ah m ch, .string ⟨t.text.toArray⟩, .int .i64 100, .int .i64 t.chain], .int .i64 4]) (by simp [results, Tryd.results7, go_sem]) rfl ⟨rfl, ?_⟩
  exact bl_alloc (bl_alloc (bl_alloc (Below.refl _ w) _) _) _

set_option maxRecDepth 100000 in
set_option maxHeartbeats 1000000 in
theorem refTrAsk_range (F : Nat → Prop) (vu vf vr vw vh : Value) (t : TrSt) (a : Ask) (w : World) (h : RefBell w F vu vf vr vw vh t.bell) (hF : ∀ j, F j → j < w.heap.size) (hm : t.many < 100) (he : (askBell t.bell a).2 = 1) :
    Calls Tryd.prog 7 #[.agg #[vu, vf, vr, vw, vh, .string ⟨t.text.toArray⟩, .int .i64 (t.many : Int), .int .i64 t.chain], .agg #[.int .i64 a.kind, .int .i64 a.user, .int .i64 a.file, .int .i64 a.to]] w fun e w' =>
      e = .returned (.tuple #[.agg #[vu, vf, vr, vw, vh, .string ⟨t.text.toArray⟩, .int .i64 (t.many : Int), .int .i64 t.chain], .int .i64 1]) ∧ Below w.heap.size w w' := by
  have C := Lib.hid (fun (W : World) (hb : Below w.heap.size w W) => refAskBell_calls F vu vf vr vw vh t.bell a W (h.bl hb) (fun j hj => Nat.lt_of_lt_of_le (hF j hj) hb.size))
  rw [he] at C
  obtain ⟨Au, cu, rfl⟩ := h.users.slice
  obtain ⟨Af, cf, rfl⟩ := h.files.slice
  obtain ⟨Ar, cr, rfl⟩ := h.reads.slice
  obtain ⟨Aw, cw, rfl⟩ := h.writes.slice
  obtain ⟨Ah, ch, rfl⟩ := h.holds.slice
  have hT0 := Lib.hid (TR.start w #[.slice Au t.bell.users.length cu, .slice Af t.bell.files.length cf, .slice Ar t.bell.users.length cr, .slice Aw t.bell.users.length cw, .slice Ah t.bell.files.length ch, .string ⟨t.text.toArray⟩, .int .i64 (t.many : Int), .int .i64 t.chain] #[.int .i64 a.kind, .int .i64 a.user, .int .i64 a.file, .int .i64 a.to])
  clear h he
  go_enter Tryd.func7, Tryd.ntmps7
  go_wp2_with fail
  refine (C.out _ hT0.out.bl).mono ?_
  rintro e w1 ⟨vr', vw', vh', rfl, hr, hb⟩
  have hT1 := hT0.out.below hb
  obtain ⟨A1, k1, rfl⟩ := hr.reads.slice
  obtain ⟨A2, k2, rfl⟩ := hr.writes.slice
  obtain ⟨A3, k3, rfl⟩ := hr.holds.slice
  have HT1 := Lib.hid hT1
  clear hT1 hr hb
  generalize (askBell t.bell a).1.users.length = n1
  generalize (askBell t.bell a).1.files.length = n2
  go_upto_region 5 with fail
  generalize hW2 : w1.alloc (.cells #[.slice Au t.bell.users.length cu, .slice Af t.bell.files.length cf, .slice A1 n1 k1, .slice A2 n1 k2, .slice A3 n2 k3] 26) = W2
  have hT2 : TR w #[.slice Au t.bell.users.length cu, .slice Af t.bell.files.length cf, .slice Ar t.bell.users.length cr, .slice Aw t.bell.users.length cw, .slice Ah t.bell.files.length ch, .string ⟨t.text.toArray⟩, .int .i64 (t.many : Int), .int .i64 t.chain] #[.int .i64 a.kind, .int .i64 a.user, .int .i64 a.file, .int .i64 a.to] W2 := by
    rw [← hW2]; exact HT1.out.below ((Below.refl _ _).alloc (Nat.le_refl _) _)
  have HT2 := Lib.hid hT2
  obtain ⟨⟨c0, c1, c2, c3, c4, c5, c6, c7⟩, _⟩ := hT2.tb.eight
  obtain ⟨⟨d0, d1, d2, d3, d4, d5, d6, d7⟩, g0, g1, g2, g3, g4, g5, g6, g7⟩ := hT2.rb.eight
  have l0 := hT2.rb.lt
  have l1 := hT2.tb.lt
  clear hT2 hW2
  go_wp2
  refine bodyPost_ret (v := .tuple #[.agg #[.slice Au t.bell.users.length cu, .slice Af t.bell.files.length cf, .slice Ar t.bell.users.length cr, .slice Aw t.bell.users.length cw, .slice Ah t.bell.files.length ch, .string ⟨t.text.toArray⟩, .int .i64 (t.many : Int), .int .i64 t.chain], .int .i64 1]) (by simp [results, Tryd.results7, go_sem, d0, d1, d2, d3, d4, d5, d6, d7]) rfl ⟨rfl, ?_⟩
  exact bl_set8 HT2.out.bl (by omega) _ _ _ _ _ _ _ _
end Go.Proofs.YtpppfiagaiaggaaDoor
