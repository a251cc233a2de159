/- TrailPlays: the law's walk where there is a trail. -/
import Derived.Test.YtpppfiagaiaggaaDoorLawPlays
import Derived.Deep.RegionHeld3
import Derived.Deep.Cut
import Derived.Deep.DeepCutAuto
import Derived.BigRegion
import Derived.Deep.RegionLaw
namespace Go.Proofs.YtpppfiagaiaggaaDoor
open Go.RowKit Go.Shelf

/-- The footprint that the references' lists keep off. -/
def PF (x : TrV) (g : Nat) (j : Nat) : Prop := x.foot j ∨ j = g

/-- What holds while the asks are played. -/
structure PlayI (w : World) (us fs : List (Int × Int)) (xs : List Ask) (A2 : Option Addr) (n2 B tb g : Nat) (t : TrSt) (wr : World) (x : TrV) (vu vf vr vw vh : Value) : Prop where
  tb_ : x.tb = tb
  at_ : TrailAt wr B x t
  ref : RefBell wr (PF x g) vu vf vr vw vh t.bell
  box : Blk wr g 36 #[vu, vf, vr, vw, vh, .string ⟨t.text.toArray⟩, .int .i64 (t.many : Int), .int .i64 t.chain]
  gx : ¬ x.foot g
  bl : Below w.heap.size w wr
  env : Env wr
  asks : AsksAt wr w.heap.size A2 n2 xs
  chain : 0 ≤ t.chain ∧ t.chain < 9973
  users : t.bell.users = us ∧ t.bell.files = fs
  hB : w.heap.size ≤ B ∧ 4 ≤ B
  hg : w.heap.size ≤ g
  env0 : 4 ≤ w.heap.size

theorem tellReads {b : Bell} {u : Nat} {w : World} {f : FuncId} {args : Array Value} (hu : u < b.users.length) (h : Calls Tryd.prog f args w fun e w' => e = .returned (.int .i64 (readsB b u)) ∧ w' = w) :
    Calls Tryd.prog f args w fun e w' => e = .returned (.int .i64 ((b.reads.getD u 0 : Nat) : Int)) ∧ w' = w := by
  have e : readsB b u = ((b.reads.getD u 0 : Nat) : Int) := by unfold readsB; rw [if_pos (by omega)]; rfl
  rw [e] at h; exact h
theorem tellWrites {b : Bell} {u : Nat} {w : World} {f : FuncId} {args : Array Value} (hu : u < b.users.length) (h : Calls Tryd.prog f args w fun e w' => e = .returned (.int .i64 (writesB b u)) ∧ w' = w) :
    Calls Tryd.prog f args w fun e w' => e = .returned (.int .i64 ((b.writes.getD u 0 : Nat) : Int)) ∧ w' = w := by
  have e : writesB b u = ((b.writes.getD u 0 : Nat) : Int) := by unfold writesB; rw [if_pos (by omega)]; rfl
  rw [e] at h; exact h
theorem tellHolds {b : Bell} {u : Nat} {w : World} {f : FuncId} {args : Array Value} (hu : u < b.files.length) (h : Calls Tryd.prog f args w fun e w' => e = .returned (.int .i64 (holdsB b u)) ∧ w' = w) :
    Calls Tryd.prog f args w fun e w' => e = .returned (.int .i64 ((b.holds.getD u 0 : Nat) : Int)) ∧ w' = w := by
  have e : holdsB b u = ((b.holds.getD u 0 : Nat) : Int) := by unfold holdsB; rw [if_pos (by omega)]; rfl
  rw [e] at h; exact h
/-- Behind the references' asking. -/
def PlayM (wr : World) (y : TrV) (g : Nat) (vu vf : Value) (t : TrSt) (a : Ask) (s13 s14 : Value) (wx : World) : Prop :=
  ∃ q vr vw vh, s13 = .pointer (some ⟨q, 0, none⟩) ∧ s14 = .int .i64 (askTrail t a).2 ∧ Below wr.heap.size wr wx ∧ wr.heap.size ≤ q ∧ RefBell wx (PF y g) vu vf vr vw vh (askTrail t a).1.bell ∧
    Blk wx q 36 #[vu, vf, vr, vw, vh, .string ⟨(askTrail t a).1.text.toArray⟩, .int .i64 ((askTrail t a).1.many : Int), .int .i64 (askTrail t a).1.chain]

theorem nil8_new {wr w2 : World} {cs : Array Value} (hb : Below (wr.alloc (.cells cs 36)).drew.heap.size (wr.alloc (.cells cs 36)).drew w2) : Blk w2 wr.heap.size 36 cs :=
  ((Blk.new wr 36 cs).drew).below hb (by simp)
theorem playM_a {wr w2 : World} {y : TrV} {g : Nat} {vu vf vr vw vh : Value} {t : TrSt} {a : Ask} (hr : RefBell w2 (PF y g) vu vf vr vw vh (askTrail t a).1.bell) (hb : Below wr.drew.heap.size wr.drew w2) :
    PlayM wr y g vu vf t a (.pointer (some ⟨w2.heap.size, 0, none⟩)) (.int .i64 (askTrail t a).2) (w2.alloc (.cells #[vu, vf, vr, vw, vh, .string ⟨(askTrail t a).1.text.toArray⟩, .int .i64 ((askTrail t a).1.many : Int), .int .i64 (askTrail t a).1.chain] 36)) :=
  ⟨_, _, _, _, rfl, rfl, bl_alloc ((Below.refl wr.heap.size wr).drew.trans hb) _, hb.size, hr.bl ((Below.refl _ _).alloc (Nat.le_refl _) _), Blk.new _ _ _⟩
theorem playM_b {wr w2 : World} {y : TrV} {g : Nat} {vu vf vr vw vh : Value} {t : TrSt} {a : Ask} (hr : RefBell w2 (fun j => PF y g j ∨ j = wr.heap.size) vu vf vr vw vh (askTrail t a).1.bell)
    (hb : Below (wr.alloc (.cells #[.slice none 0 0, .slice none 0 0, .slice none 0 0, .slice none 0 0, .slice none 0 0, .string ⟨#[]⟩, .int .i64 0, .int .i64 0] 36)).drew.heap.size (wr.alloc (.cells #[.slice none 0 0, .slice none 0 0, .slice none 0 0, .slice none 0 0, .slice none 0 0, .string ⟨#[]⟩, .int .i64 0, .int .i64 0] 36)).drew w2) :
    PlayM wr y g vu vf t a (.pointer (some ⟨wr.heap.size, 0, none⟩)) (.int .i64 (askTrail t a).2) (set8 w2 wr.heap.size vu vf vr vw vh (.string ⟨(askTrail t a).1.text.toArray⟩) (.int .i64 ((askTrail t a).1.many : Int)) (.int .i64 (askTrail t a).1.chain)) := by
  have hq := nil8_new hb
  have hB : Below wr.heap.size wr w2 := (bl_alloc (Below.refl _ _) _).drew.trans (hb.mono (by simp))
  have e := (((((((hq.set_ 0 vu).set_ 1 vf).set_ 2 vr).set_ 3 vw).set_ 4 vh).set_ 5 (.string ⟨(askTrail t a).1.text.toArray⟩)).set_ 6 (.int .i64 ((askTrail t a).1.many : Int))).set_ 7 (.int .i64 (askTrail t a).1.chain)
  have hR : RefBell (set8 w2 wr.heap.size vu vf vr vw vh (.string ⟨(askTrail t a).1.text.toArray⟩) (.int .i64 ((askTrail t a).1.many : Int)) (.int .i64 (askTrail t a).1.chain)) (PF y g) vu vf vr vw vh (askTrail t a).1.bell := (hr.kp (kp_set8 (Kp.refl _ _) (.inr rfl) _ _ _ _ _ _ _ _)).more fun j _ hj => .inl hj
  have hS : Below wr.heap.size wr (set8 w2 wr.heap.size vu vf vr vw vh (.string ⟨(askTrail t a).1.text.toArray⟩) (.int .i64 ((askTrail t a).1.many : Int)) (.int .i64 (askTrail t a).1.chain)) := bl_set8 hB (Nat.le_refl _) _ _ _ _ _ _ _ _
  refine ⟨wr.heap.size, vr, vw, vh, rfl, rfl, hS, Nat.le_refl _, hR, ?_⟩
  unfold set8
  simpa using e
/-- Between the references' asking and the trail's own. -/
structure PlayN (w : World) (us fs : List (Int × Int)) (xs : List Ask) (A2 : Option Addr) (n2 B tb g k : Nat) (t : TrSt) (a : Ask) (wr : World) (y : TrV) (vu vf vr vw vh : Value) (W : World) : Prop where
  tb_ : y.tb = tb
  at_ : TrailAt W B y t
  ref : RefBell W (PF y g) vu vf vr vw vh (askTrail t a).1.bell
  box : Blk W g 36 #[vu, vf, vr, vw, vh, .string ⟨(askTrail t a).1.text.toArray⟩, .int .i64 ((askTrail t a).1.many : Int), .int .i64 (askTrail t a).1.chain]
  bl : Below w.heap.size w W
  env : Env W
  asks : AsksAt W w.heap.size A2 n2 xs

theorem bl_set8n {N : Nat} {w W : World} (hb : Below N w W) {g : Nat} (hg : N ≤ g) (a b c d e f h i : Value) : Below N w (set8 W g a b c d e f h i) :=
  (((((((hb.setCell (p := ⟨g, 0, none⟩) hg a).setCell (p := ⟨g, 1, none⟩) hg b).setCell (p := ⟨g, 2, none⟩) hg c).setCell (p := ⟨g, 3, none⟩) hg d).setCell (p := ⟨g, 4, none⟩) hg e).setCell (p := ⟨g, 5, none⟩) hg f).setCell (p := ⟨g, 6, none⟩) hg h).setCell (p := ⟨g, 7, none⟩) hg i

theorem playN_mk {w : World} {us fs : List (Int × Int)} {xs : List Ask} {A2 : Option Addr} {n2 B tb g k : Nat} {t : TrSt} {a : Ask} {wr wc : World} {y : TrV} {vu vf vr vw vh ur uw uh : Value} (h : PlayI w us fs xs A2 n2 B tb g t wr y vu vf vr vw vh)
    (hB : Below wr.heap.size wr wc) (hR : RefBell wc (PF y g) vu vf ur uw uh (askTrail t a).1.bell) :
    PlayN w us fs xs A2 n2 B tb g k t a wr y vu vf ur uw uh (set8 wc g vu vf ur uw uh (.string ⟨(askTrail t a).1.text.toArray⟩) (.int .i64 ((askTrail t a).1.many : Int)) (.int .i64 (askTrail t a).1.chain)) := by
  have e := ((((((((h.box.below hB h.box.lt).set_ 0 vu).set_ 1 vf).set_ 2 ur).set_ 3 uw).set_ 4 uh).set_ 5 (.string ⟨(askTrail t a).1.text.toArray⟩)).set_ 6 (.int .i64 ((askTrail t a).1.many : Int))).set_ 7 (.int .i64 (askTrail t a).1.chain)
  have hbl : Below w.heap.size w (set8 wc g vu vf ur uw uh (.string ⟨(askTrail t a).1.text.toArray⟩) (.int .i64 ((askTrail t a).1.many : Int)) (.int .i64 (askTrail t a).1.chain)) := bl_set8 (bl_trans h.bl hB) h.hg _ _ _ _ _ _ _ _
  refine ⟨h.tb_, ?_, ?_, ?_, hbl, ?_, ?_⟩
  · exact (h.at_.below hB).kp (kp_set8 (Kp.refl (fun j => j = g) _) rfl _ _ _ _ _ _ _ _) (fun j hj he => h.gx (he ▸ hj))
  · exact hR.kp (kp_set8 (Kp.refl _ _) (.inr rfl) _ _ _ _ _ _ _ _)
  · unfold set8
    simpa using e
  · refine (h.env.bl hB).below ?_
    have hng : 4 ≤ g := Nat.le_trans h.env0 h.hg
    exact (bl_set8n (Below.refl _ _) hng _ _ _ _ _ _ _ _)
  · refine (h.asks.bl (hB.mono h.bl.size)).bl ?_
    exact (bl_set8n (Below.refl _ _) h.hg _ _ _ _ _ _ _ _)

section
variable {w : World} {us fs : List (Int × Int)} {xs : List Ask} {A2 : Option Addr} {n2 B tb g k : Nat} {t : TrSt} {a : Ask} {wr W W' : World} {y : TrV} {vu vf vr vw vh ur uw uh : Value}
theorem Kp.fromDrew {F : Nat → Prop} {w w' : World} (h : Kp F w.drew w') : Kp F w w' := ⟨h.os, h.tape, h.output, h.size, h.block⟩
/-- Behind the trail's own asking all holds of what is asked next. -/
theorem PlayN.next {y' : TrV} (h : PlayN w us fs xs A2 n2 B tb g k t a wr y vu vf ur uw uh W) (h0 : PlayI w us fs xs A2 n2 B tb g t wr y vu vf vr vw vh) (ha : AskIn a) (hy : y'.tb = tb) (ht : TrailAt W' B y' (askTrail t a).1) (hk : Kp y.foot W W') (hf : ∀ j, y'.foot j → y.foot j ∨ W.heap.size ≤ j) :
    PlayI w us fs xs A2 n2 B tb g (askTrail t a).1 W' y' vu vf ur uw uh := by
  have hfB : ∀ j, y.foot j → B ≤ j := fun j hj => (h.at_.foot hj).1
  have hBw := h0.hB.1
  have hgl := h.box.lt
  refine ⟨hy, ht, ?_, ?_, ?_, ?_, ?_, ?_, ?_, ?_, h0.hB, h0.hg, h0.env0⟩
  · refine ((h.ref.more (G := fun j => PF y g j ∨ PF y' g j) fun j hj hp => ?_).kp (hk.mono fun j _ hj => .inl (.inl hj))).more fun j _ hj => .inr hj
    rcases hp with hp | hp | hp
    · exact hp
    · exact .inl ((hf j hp).resolve_right (by omega))
    · exact .inr hp
  · exact (hk.block g hgl h0.gx).trans h.box
  · intro hg
    rcases hf g hg with h1 | h1
    · exact h0.gx h1
    · omega
  · exact h.bl.trans (hk.below h.bl.size (fun n hn hF => Nat.le_trans hBw (hfB n hF)))
  · exact h.env.kp hk (fun n hn hF => Nat.le_trans h0.hB.2 (hfB n hF))
  · exact h.asks.kp hk h.bl.size (fun j hj hF => by have := hfB j hF; omega)
  · exact askTrail_chain h0.chain ha
  · exact ⟨(askTrail_users t a).1.trans h0.users.1, (askTrail_users t a).2.trans h0.users.2⟩
theorem PlayI.below (h0 : PlayI w us fs xs A2 n2 B tb g t W y vu vf vr vw vh) (hb : Below W.heap.size W W') : PlayI w us fs xs A2 n2 B tb g t W' y vu vf vr vw vh :=
  ⟨h0.tb_, h0.at_.below hb, h0.ref.bl hb, h0.box.below hb h0.box.lt, h0.gx, bl_trans h0.bl hb, h0.env.bl hb, h0.asks.bl (hb.mono h0.bl.size), h0.chain, h0.users, h0.hB, h0.hg, h0.env0⟩
theorem PlayI.text (h0 : PlayI w us fs xs A2 n2 B tb g t W y vu vf vr vw vh) (ht : TrailAt W' B y t) (hk : Kp (bfoot y.tb y.bv) W W') : PlayI w us fs xs A2 n2 B tb g t W' y vu vf vr vw vh := by
  have hk' : Kp y.foot W W' := hk.mono fun j _ hj => .inr hj
  have hfB : ∀ j, y.foot j → B ≤ j := fun j hj => (h0.at_.foot hj).1
  have hBw := h0.hB.1
  exact ⟨h0.tb_, ht, h0.ref.kp (hk'.mono fun j _ hj => .inl hj), (hk'.block g h0.box.lt h0.gx).trans h0.box, h0.gx, h0.bl.trans (hk'.below h0.bl.size (fun n hn hF => Nat.le_trans hBw (hfB n hF))), h0.env.kp hk' (fun n hn hF => Nat.le_trans h0.hB.2 (hfB n hF)),
    h0.asks.kp hk' h0.bl.size (fun j hj hF => by have := hfB j hF; omega), h0.chain, h0.users, h0.hB, h0.hg, h0.env0⟩
theorem PlayI.s11 {ad : Addr} (h : PlayI w us fs xs (some ad) n2 B tb g t W y vu vf vr vw vh) (hk : k < xs.length) :
    (W.cell? ⟨g, 5, none⟩ = some (.string ⟨t.text.toArray⟩)) ∧ (W.cell? (ad.add (k * 4)) = some (.int .i64 xs[k].kind) ∧ W.cell? ⟨(ad.add (k * 4)).block, (ad.add (k * 4)).off + 1, none⟩ = some (.int .i64 xs[k].user) ∧ W.cell? ⟨(ad.add (k * 4)).block, (ad.add (k * 4)).off + 2, none⟩ = some (.int .i64 xs[k].file) ∧ W.cell? ⟨(ad.add (k * 4)).block, (ad.add (k * 4)).off + 3, none⟩ = some (.int .i64 xs[k].to)) := by
  obtain ⟨ad', e, _, hc⟩ := h.asks.cells (by have := h.asks.len; omega)
  injection e with e; subst e
  exact ⟨h.box.cell 5, hc k hk⟩
theorem PlayN.s11 {ad : Addr} (h : PlayN w us fs xs (some ad) n2 B tb g k t a wr y vu vf vr vw vh W) {i : Nat} (hk : i < xs.length) :
    (W.cell? ⟨g, 5, none⟩ = some (.string ⟨(askTrail t a).1.text.toArray⟩)) ∧ (W.cell? (ad.add (i * 4)) = some (.int .i64 xs[i].kind) ∧ W.cell? ⟨(ad.add (i * 4)).block, (ad.add (i * 4)).off + 1, none⟩ = some (.int .i64 xs[i].user) ∧ W.cell? ⟨(ad.add (i * 4)).block, (ad.add (i * 4)).off + 2, none⟩ = some (.int .i64 xs[i].file) ∧ W.cell? ⟨(ad.add (i * 4)).block, (ad.add (i * 4)).off + 3, none⟩ = some (.int .i64 xs[i].to)) := by
  obtain ⟨ad', e, _, hc⟩ := h.asks.cells (by have := h.asks.len; omega)
  injection e with e; subst e
  exact ⟨h.box.cell 5, hc i hk⟩
end

theorem Blk.eight_ {w : World} {g t : Nat} {a b c d e f h i : Value} (hb : Blk w g t #[a, b, c, d, e, f, h, i]) : w.cell? ⟨g, 0, none⟩ = some a ∧ w.cell? ⟨g, 1, none⟩ = some b ∧ w.cell? ⟨g, 2, none⟩ = some c ∧ w.cell? ⟨g, 3, none⟩ = some d ∧ w.cell? ⟨g, 4, none⟩ = some e ∧ w.cell? ⟨g, 5, none⟩ = some f ∧ w.cell? ⟨g, 6, none⟩ = some h ∧ w.cell? ⟨g, 7, none⟩ = some i := hb.eight.1

set_option maxRecDepth 100000 in
set_option maxHeartbeats 2000000 in
theorem plays_ok (A A' A2 : Option Addr) (n c n' c' n2 c2 : Nat) (us fs : List (Int × Int)) (xs : List Ask) (w : World) (h : LabsAt w w.heap.size A n us) (h' : LabsAt w w.heap.size A' n' fs) (hx : AsksAt w w.heap.size A2 n2 xs) (hE : Env w) (he : bellErr us fs = 0) :
    Calls Tryd.prog 3 #[.slice A n c, .slice A' n' c', .slice A2 n2 c2] w fun e w' => e = .returned (.bool true) ∧ Below w.heap.size w w' := by
  have rdl : ∀ {B : Option Addr} {m k : Nat} {ls : List (Int × Int)}, LabsAt w w.heap.size B m ls → RdF w (fun _ => False) 2 (.slice B m k) m (labCells ls) := fun {B m k ls} hl => ⟨B, k, rfl, hl.2.1, hl.2.2.1, fun hm => by
    obtain ⟨ad, e, hb, hc⟩ := hl.2.2.2 hm
    exact ⟨ad, e, hb, id, hc⟩⟩
  have C1 := Lib.hid (refNewBell_ok (fun _ => False) A A' n c n' c' us fs w h h' he (fun k hk => hk.elim) (rdl h) (rdl h'))
  have C2 := Lib.hid (fun (W : World) (hb : Below w.heap.size w W) => trailNew_ok A A' n c n' c' us fs W ⟨h.1, h.2.1, (h.2.2.below hb).more hb.size⟩ ⟨h'.1, h'.2.1, (h'.2.2.below hb).more hb.size⟩ he)
  have LN := Lib.hid h.1
  have LN' := Lib.hid h'.1
  have HX := Lib.hid hx
  have HE := Lib.hid hE
  clear h h' he hE hx rdl
  go_enter Tryd.func3, Tryd.ntmps3
  go_wp2_with fail
  refine C1.out.mono ?_
  rintro e w1 ⟨vr, vw, vh, rfl, hr, hb1⟩
  obtain ⟨Ar, cr, rfl⟩ := hr.reads.slice
  obtain ⟨Aw, cw, rfl⟩ := hr.writes.slice
  obtain ⟨Ah, ch, rfl⟩ := hr.holds.slice
  have HR := Lib.hid hr
  have HB1 := Lib.hid hb1
  clear hr hb1
  go_wp2_with fail
  refine (C2.out _ (bl_alloc HB1.out _)).mono ?_
  rintro e w2 ⟨x, rfl, ht, hb2⟩
  have hBell := Blk.new w1 26 #[.slice A n c, .slice A' n' c', .slice Ar (newBell us fs).users.length cr, .slice Aw (newBell us fs).users.length cw, .slice Ah (newBell us fs).files.length ch]
  have hBell2 := hBell.below hb2 (by simp)
  obtain ⟨c0, c1, c2, c3, c4, _, _, _, _, _⟩ := hBell2.five
  have l1 := hBell2.lt
  have HB2 := Lib.hid hb2
  have HT := Lib.hid ht
  clear hBell hBell2 hb2 ht
  go_wp2_with fail
  have hB12 := bl_alloc HB1.out (.cells #[.slice A n c, .slice A' n' c', .slice Ar (newBell us fs).users.length cr, .slice Aw (newBell us fs).users.length cw, .slice Ah (newBell us fs).files.length ch] 26)
  have hst : PlayI w us fs xs A2 n2 (w1.alloc (.cells #[.slice A n c, .slice A' n' c', .slice Ar (newBell us fs).users.length cr, .slice Aw (newBell us fs).users.length cw, .slice Ah (newBell us fs).files.length ch] 26)).heap.size x.tb w2.heap.size (newTrail us fs)
      (w2.alloc (.cells #[.slice A n c, .slice A' n' c', .slice Ar (newBell us fs).users.length cr, .slice Aw (newBell us fs).users.length cw, .slice Ah (newBell us fs).files.length ch, .string ⟨#[]⟩, .int .i64 0, .int .i64 0] 36)) x (.slice A n c) (.slice A' n' c') (.slice Ar (newBell us fs).users.length cr) (.slice Aw (newBell us fs).users.length cw) (.slice Ah (newBell us fs).files.length ch) := by
    have hB2 := bl_trans hB12 HB2.out
    have hf := fun j (hj : x.foot j) => HT.out.foot hj
    refine ⟨rfl, HT.out.below ((Below.refl _ _).alloc (Nat.le_refl _) _), ?_, Blk.new _ _ _, fun hg => by have := (hf _ hg).2; omega, bl_alloc hB2 _, HE.out.bl (bl_alloc hB2 _), HX.out.bl (bl_alloc hB2 _), ⟨Int.le_refl 0, by show (0 : Int) < 9973; decide⟩, ⟨rfl, rfl⟩, ⟨hB12.size, Nat.le_trans HE.out.ng hB12.size⟩, hB2.size, HE.out.ng⟩
    refine (((HR.out.more (G := PF x w2.heap.size) fun j hj hp => ?_).bl ((Below.refl _ _).alloc (Nat.le_refl _) _)).bl HB2.out).bl ((Below.refl _ _).alloc (Nat.le_refl _) _)
    have h1 := HB2.out.size
    rcases hp with hp | hp
    · have := (hf _ hp).1; simp at this; omega
    · simp at h1; omega
  have HST := Lib.hid hst
  have hxl := HX.out.len
  clear hst hB12 c0 c1 c2 c3 c4
  generalize (w1.alloc (.cells #[.slice A n c, .slice A' n' c', .slice Ar (newBell us fs).users.length cr, .slice Aw (newBell us fs).users.length cw, .slice Ah (newBell us fs).files.length ch] 26)).heap.size = B at HST
  generalize hg2 : w2.heap.size = g at *
  clear hg2
  have hn2 := HX.out.max
  unfold maxLen at hn2
  go_loopw [12] (fun i wr => ∃ (k : Nat) (t : TrSt) (y : TrV) (vr vw vh : Value), i = .int .i64 k ∧ k ≤ n2 ∧ k ≤ 110 ∧ Hid (t = askAll (newTrail us fs) (xs.take k)) ∧ PlayI w us fs xs A2 n2 B x.tb g t wr y (.slice A n c) (.slice A' n' c') vr vw vh) (fun i _ => n2 - (intOf i).toNat)
  case atStart => exact ⟨0, _, _, _, _, _, rfl, Nat.zero_le _, by omega, rfl, HST.out⟩
  case round =>
    obtain ⟨k, t, y, vr', vw', vh', rfl, hk, hk110, HTT, hP⟩ := hrel
    by_cases hlt : k < n2 ∧ k < 110
    · obtain ⟨hk2, hk3⟩ := hlt
      have hkx : k < xs.length := by rw [hxl]; exact hk2
      obtain ⟨ad, rfl, had, hcell⟩ := hP.asks.cells (by omega)
      have ha := hcell k hkx
      have hAin := hP.asks.ins _ (List.getElem_mem hkx)
      have HSN := Lib.hid (askAll_snoc (newTrail us fs) xs k hkx)
      rw [← HTT.out] at HSN
      generalize hxa : xs[k] = a at *
      have HXA := Lib.hid hxa
      clear hxa
      obtain ⟨Br, kr, rfl⟩ := hP.ref.reads.slice
      obtain ⟨Bw, kw, rfl⟩ := hP.ref.writes.slice
      obtain ⟨Bh, kh, rfl⟩ := hP.ref.holds.slice
      have HP := Lib.hid hP
      have HA := Lib.hid hAin
      have hb8 := hP.box.eight_
      have S9 := Lib.hid (fun (W : World) (hb : Below wr.heap.size wr W) => (show
        (W.cell? ⟨g, 0, none⟩ = some (.slice A n c) ∧ W.cell? ⟨g, 1, none⟩ = some (.slice A' n' c') ∧ W.cell? ⟨g, 2, none⟩ = some (.slice Br t.bell.users.length kr) ∧ W.cell? ⟨g, 3, none⟩ = some (.slice Bw t.bell.users.length kw) ∧ W.cell? ⟨g, 4, none⟩ = some (.slice Bh t.bell.files.length kh) ∧ W.cell? ⟨g, 5, none⟩ = some (.string ⟨t.text.toArray⟩) ∧ W.cell? ⟨g, 6, none⟩ = some (.int .i64 (t.many : Int)) ∧ W.cell? ⟨g, 7, none⟩ = some (.int .i64 t.chain)) ∧
        (W.cell? (ad.add (k * 4)) = some (.int .i64 a.kind) ∧ W.cell? ⟨(ad.add (k * 4)).block, (ad.add (k * 4)).off + 1, none⟩ = some (.int .i64 a.user) ∧ W.cell? ⟨(ad.add (k * 4)).block, (ad.add (k * 4)).off + 2, none⟩ = some (.int .i64 a.file) ∧ W.cell? ⟨(ad.add (k * 4)).block, (ad.add (k * 4)).off + 3, none⟩ = some (.int .i64 a.to)) from
        ⟨(hP.box.below hb hP.box.lt).eight_, (hb.cell (p := ad.add (k * 4)) (cell_lt ha.1)).trans ha.1, (hb.cell (p := ⟨(ad.add (k * 4)).block, _, none⟩) (cell_lt ha.2.1)).trans ha.2.1, (hb.cell (p := ⟨(ad.add (k * 4)).block, _, none⟩) (cell_lt ha.2.2.1)).trans ha.2.2.1, (hb.cell (p := ⟨(ad.add (k * 4)).block, _, none⟩) (cell_lt ha.2.2.2)).trans ha.2.2.2⟩))
      have CR := Lib.hid (fun (W : World) (hb : Below wr.heap.size wr W) => refTrAsk_calls (PF y g) (.slice A n c) (.slice A' n' c') (.slice Br t.bell.users.length kr) (.slice Bw t.bell.users.length kw) (.slice Bh t.bell.files.length kh) t a W (hP.ref.bl hb) (fun j hj => by
        have h1 := hb.size
        have h2 := hP.box.lt
        rcases hj with hj | hj
        · have := (hP.at_.foot hj).2; omega
        · omega) hP.at_.ok hP.chain)
      have CB := Lib.hid (fun (W : World) (hb : Below (wr.alloc (.cells #[.slice none 0 0, .slice none 0 0, .slice none 0 0, .slice none 0 0, .slice none 0 0, .string ⟨#[]⟩, .int .i64 0, .int .i64 0] 36)).heap.size (wr.alloc (.cells #[.slice none 0 0, .slice none 0 0, .slice none 0 0, .slice none 0 0, .slice none 0 0, .string ⟨#[]⟩, .int .i64 0, .int .i64 0] 36)) W) =>
        refTrAsk_calls (fun j => PF y g j ∨ j = wr.heap.size) (.slice A n c) (.slice A' n' c') (.slice Br t.bell.users.length kr) (.slice Bw t.bell.users.length kw) (.slice Bh t.bell.files.length kh) t a W ((hP.ref.more (fun j hj hp => hp.resolve_right (by omega))).bl (bl_trans ((Below.refl _ _).alloc (Nat.le_refl _) _) hb)) (fun j hj => by
        have h1 := hb.size
        have h2 := hP.box.lt
        simp at h1
        rcases hj with (hj | hj) | hj
        · have := (hP.at_.foot hj).2; omega
        · omega
        · omega) hP.at_.ok hP.chain)
      clear hP hcell ha hAin hb8
      go_upto_region 9 with fail
      obtain ⟨⟨b0, b1, b2, b3, b4, b5, b6, b7⟩, a0, a1, a2, a3⟩ := S9.out _ (Below.refl _ _)
      have lg := HP.out.box.lt
      have la := cell_lt a0
      go_cut [13, 14] (fun s13 s14 wx => PlayM wr y g (.slice A n c) (.slice A' n' c') t a s13 s14 wx)
      case first =>
        go_region_law (first | (go_simp; go_at_call 7; refine (CB.out _ ?_).mono ?_; (focus (with_reducible exact (Below.refl _ _).drew)); rintro e w2 ⟨ur, uw, uh, rfl, hr2, hb2⟩; obtain ⟨Cr, jr, rfl⟩ := hr2.reads.slice; obtain ⟨Cw, jw, rfl⟩ := hr2.writes.slice; obtain ⟨Ch, jh, rfl⟩ := hr2.holds.slice; unfold refTrV; have hq := nil8_new hb2; have HF := Lib.hid (playM_b hr2 hb2); obtain ⟨⟨v0, v1, v2, v3, v4, v5, v6, v7⟩, r0, r1, r2, r3, r4, r5, r6, r7⟩ := hq.eight; have hql := hq.lt; clear hq hr2 hb2) | (go_simp; go_at_call 7; refine (CR.out _ ?_).mono ?_; (focus (with_reducible exact (Below.refl _ _).drew)); rintro e w2 ⟨ur, uw, uh, rfl, hr2, hb2⟩; obtain ⟨Cr, jr, rfl⟩ := hr2.reads.slice; obtain ⟨Cw, jw, rfl⟩ := hr2.writes.slice; obtain ⟨Ch, jh, rfl⟩ := hr2.holds.slice; unfold refTrV; have HF := Lib.hid (playM_a hr2 hb2); clear hr2 hb2))
        all_goals
          go_wp2_with fail
          go_meet
          exact HF.out
      case rest =>
        obtain ⟨q, ur, uw, uh, rfl, rfl, hBc, hq, hRc, hbq⟩ := hcut
        obtain ⟨Cr, jr, rfl⟩ := hRc.reads.slice
        obtain ⟨Cw, jw, rfl⟩ := hRc.writes.slice
        obtain ⟨Ch, jh, rfl⟩ := hRc.holds.slice
        obtain ⟨e0, e1, e2, e3, e4, e5, e6, e7⟩ := hbq.eight_
        have hbg := HP.out.box.below hBc HP.out.box.lt
        obtain ⟨⟨x0, x1, x2, x3, x4, x5, x6, x7⟩, r0, r1, r2, r3, r4, r5, r6, r7⟩ := hbg.eight
        have lg2 := hbg.lt
        have lq := hbq.lt
        clear b0 b1 b2 b3 b4 b5 b6 b7 a0 a1 a2 a3 lg la
        have hN : PlayN w us fs xs (some ad) n2 B x.tb g k t a wr y (.slice A n c) (.slice A' n' c') (.slice Cr (askTrail t a).1.bell.users.length jr) (.slice Cw (askTrail t a).1.bell.users.length jw) (.slice Ch (askTrail t a).1.bell.files.length jh)
            (set8 wc g (.slice A n c) (.slice A' n' c') (.slice Cr (askTrail t a).1.bell.users.length jr) (.slice Cw (askTrail t a).1.bell.users.length jw) (.slice Ch (askTrail t a).1.bell.files.length jh) (.string ⟨(askTrail t a).1.text.toArray⟩) (.int .i64 ((askTrail t a).1.many : Int)) (.int .i64 (askTrail t a).1.chain)) := playN_mk HP.out hBc hRc
        have HN := Lib.hid hN
        clear hN hBc hRc hbq hbg
        go_upto_region 11 with fail
        change Code.wp _ _ _ _ (set8 wc g (.slice A n c) (.slice A' n' c') (.slice Cr (askTrail t a).1.bell.users.length jr) (.slice Cw (askTrail t a).1.bell.users.length jw) (.slice Ch (askTrail t a).1.bell.files.length jh) (.string ⟨(askTrail t a).1.text.toArray⟩) (.int .i64 ((askTrail t a).1.many : Int)) (.int .i64 (askTrail t a).1.chain))
        generalize (set8 wc g (.slice A n c) (.slice A' n' c') (.slice Cr (askTrail t a).1.bell.users.length jr) (.slice Cw (askTrail t a).1.bell.users.length jw) (.slice Ch (askTrail t a).1.bell.files.length jh) (.string ⟨(askTrail t a).1.text.toArray⟩) (.int .i64 ((askTrail t a).1.many : Int)) (.int .i64 (askTrail t a).1.chain)) = W5 at HN ⊢
        clear e0 e1 e2 e3 e4 e5 e6 e7 x0 x1 x2 x3 x4 x5 x6 x7 r0 r1 r2 r3 r4 r5 r6 r7 lg2 lq
        have CA := Lib.hid (trailAsk_calls B y t a W5.drew (HN.out.at_.below (Below.refl _ _).drew) (HN.out.env.bl (Below.refl _ _).drew) HP.out.hB.2 HA.out)
        rw [HN.out.tb_] at CA
        have hs5 := HN.out.s11 hkx
        rw [HXA.out] at hs5
        have NX := Lib.hid (fun (y' : TrV) (W' : World) (hy : y'.tb = x.tb) (ht : TrailAt W' B y' (askTrail t a).1) (hk : Kp y.foot W5.drew W') (hf : ∀ j, y'.foot j → y.foot j ∨ W5.heap.size ≤ j) => HN.out.next HP.out HA.out hy ht hk.fromDrew hf)
        have CE := Lib.hid (fun (W : World) (hg : ErrTyped W) => sameError_calls (askTrail t a).2 (askTrail t a).2 W hg)
        simp only [beq_self_eq_true] at CE
        have CT := Lib.hid (fun (y' : TrV) (W : World) (hy : y'.tb = x.tb) (ht : TrailAt W B y' (askTrail t a).1) => hy ▸ trailText_calls B y' (askTrail t a).1 W ht)
        go_region_held3 (fun W => (W.cell? ⟨g, 5, none⟩ = some (.string ⟨(askTrail t a).1.text.toArray⟩)) ∧ (W.cell? (ad.add (k * 4)) = some (.int .i64 a.kind) ∧ W.cell? ⟨(ad.add (k * 4)).block, (ad.add (k * 4)).off + 1, none⟩ = some (.int .i64 a.user) ∧ W.cell? ⟨(ad.add (k * 4)).block, (ad.add (k * 4)).off + 2, none⟩ = some (.int .i64 a.file) ∧ W.cell? ⟨(ad.add (k * 4)).block, (ad.add (k * 4)).off + 3, none⟩ = some (.int .i64 a.to)))
          (first | exact hs5 | exact hs3 | exact hs4 | exact hs6)
          (first | (go_at_call 8; refine CA.out.mono ?_; rintro e w3 ⟨y', hy', rfl, ht3, hk3, hf3⟩; have HP3 := Lib.hid (NX.out y' w3 hy' ht3 hk3 hf3); have hs3 := HP3.out.s11 hkx; rw [HXA.out] at hs3; clear ht3 hk3 hf3) | (go_at_call 6; refine (CE.out _ HP3.out.env.typed).mono ?_; rintro e w4 ⟨rfl, hb4⟩; have HP4 := Lib.hid (HP3.out.below hb4); have hs4 := HP4.out.s11 hkx; rw [HXA.out] at hs4; clear hb4) | (go_at_call 9; refine (CT.out y' _ HP4.out.tb_ HP4.out.at_).mono ?_; rintro e w6 ⟨rfl, ht6, hk6⟩; have HP6 := Lib.hid (HP4.out.text ht6 (by rw [HP4.out.tb_]; exact hk6)); have hs6 := HP6.out.s11 hkx; rw [HXA.out] at hs6; clear ht6 hk6))
        have HKX := Lib.hid (show (askTrail t a).1 = askAll (newTrail us fs) (xs.take (k + 1)) from HSN.out.symm)
        go_wp2
        go_roundw
        case rel => exact ⟨k + 1, _, y', _, _, _, by go_num, by omega, by omega, HKX.out, HP6.out⟩
        case measure => simp [intOf]; omega
    · have hP0 := hP
      have hnu : t.bell.users.length = n := by rw [hP.users.1]; exact LN.out
      have hnf : t.bell.files.length = n' := by rw [hP.users.2]; exact LN'.out
      have hu8 := hP.at_.ok.bell.users
      have hf8 := hP.at_.ok.bell.files
      rw [hnu] at hu8
      rw [hnf] at hf8
      have HNU := Lib.hid hnu
      have HNF := Lib.hid hnf
      have HP := Lib.hid hP
      clear hP hP0 hnu hnf
      have hcase : (k < n2 ∧ ¬ k < 110) ∨ ¬ k < n2 := by omega
      clear hlt
      rcases hcase with ⟨hkn, hk1⟩ | hkn
      all_goals
        go_wp2_with fail
        go_loopw [15] (fun i wx => ∃ u : Nat, i = .int .i64 u ∧ u ≤ n ∧ PlayI w us fs xs A2 n2 B x.tb g t wx y (.slice A n c) (.slice A' n' c') vr' vw' vh') (fun i _ => n - (intOf i).toNat)
        case atStart => exact ⟨0, rfl, Nat.zero_le _, HP.out⟩
        case round =>
          obtain ⟨u, rfl, hu, hQ⟩ := hrel
          by_cases hun : u < n
          · obtain ⟨ar, cr, rfl, har, hcr⟩ := rd_ints hQ.ref.reads hQ.at_.ok.bell.readsL (by rw [HNU.out]; omega)
            obtain ⟨aw, cw, rfl, haw, hcw⟩ := rd_ints hQ.ref.writes hQ.at_.ok.bell.writesL (by rw [HNU.out]; omega)
            have c2 := hQ.box.cell 2
            have c3 := hQ.box.cell 3
            simp only [List.getElem?_toArray, List.getElem?_cons_zero, List.getElem?_cons_succ] at c2 c3
            rw [HNU.out] at c2 c3 hcr hcw
            have hr := hcr u hun
            have hw := hcw u hun
            have CR := Lib.hid (fun (W : World) (hb : Below wr.heap.size wr W) => tellReads (by rw [HNU.out]; exact hun) (trailReads_calls B y t u W (hQ.at_.below hb)))
            have CW := Lib.hid (fun (W : World) (hb : Below wr.heap.size wr W) => tellWrites (by rw [HNU.out]; exact hun) (trailWrites_calls B y t u W (hQ.at_.below hb)))
            rw [hQ.tb_] at CR CW
            have HQ := Lib.hid hQ
            clear hQ hcr hcw
            go_upto_region 16 with fail
            go_quiet ((first | (go_at_call 10; exact Calls.quiet_of_same (CR.out _ (bl_drewN (Below.refl _ _) _))) | (go_at_call 11; exact Calls.quiet_of_same (CW.out _ (bl_drewN (Below.refl _ _) _)))))
            have HQ2 := Lib.hid (HQ.out.below (bl_drewN (Below.refl _ _) nq))
            go_wp2
            go_roundw
            case rel => exact ⟨u + 1, by go_num, by omega, HQ2.out⟩
            case measure => simp [intOf]; omega
          · have HQ := Lib.hid hQ
            clear hQ
            go_wp2_with fail
            go_loopw [16] (fun i wx => ∃ f : Nat, i = .int .i64 f ∧ f ≤ n' ∧ PlayI w us fs xs A2 n2 B x.tb g t wx y (.slice A n c) (.slice A' n' c') vr' vw' vh') (fun i _ => n' - (intOf i).toNat)
            case atStart => exact ⟨0, rfl, Nat.zero_le _, HQ.out⟩
            case round =>
              obtain ⟨f, rfl, hf, hQ⟩ := hrel
              by_cases hfn : f < n'
              · obtain ⟨ah, ch, rfl, hah, hch⟩ := rd_ints hQ.ref.holds hQ.at_.ok.bell.holdsL (by rw [HNF.out]; omega)
                have c4 := hQ.box.cell 4
                simp only [List.getElem?_toArray, List.getElem?_cons_zero, List.getElem?_cons_succ] at c4
                rw [HNF.out] at c4 hch
                have hh := hch f hfn
                have CH := Lib.hid (fun (W : World) (hb : Below wr.heap.size wr W) => tellHolds (by rw [HNF.out]; exact hfn) (trailHolds_calls B y t f W (hQ.at_.below hb)))
                rw [hQ.tb_] at CH
                have HQ3 := Lib.hid hQ
                clear hQ hch
                go_upto_region 21 with fail
                go_quiet ((go_at_call 12; exact Calls.quiet_of_same (CH.out _ (bl_drewN (Below.refl _ _) _))))
                have HQ4 := Lib.hid (HQ3.out.below (bl_drewN (Below.refl _ _) nq))
                go_wp2
                go_roundw
                case rel => exact ⟨f + 1, by go_num, by omega, HQ4.out⟩
                case measure => simp [intOf]; omega
              · have CH := Lib.hid (trailHolds_calls B y t (-1) wr hQ.at_)
                rw [hQ.tb_, show holdsB t.bell (-1) = 0 from by unfold holdsB; rw [if_neg (by omega)]] at CH
                have HQ3 := Lib.hid hQ.bl
                clear hQ
                go_wp2_with (go_at_call 12; refine CH.out.mono ?_; rintro e w9 ⟨rfl, rfl⟩)
                go_ret
                exact ⟨rfl, HQ3.out⟩
end Go.Proofs.YtpppfiagaiaggaaDoor
