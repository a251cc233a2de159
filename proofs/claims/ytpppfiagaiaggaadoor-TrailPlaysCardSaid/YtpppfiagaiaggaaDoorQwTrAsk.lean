/- trail.Ask. -/
import Derived.Test.YtpppfiagaiaggaaDoorQwTrNew
import Derived.Deep.RegionHeld3
namespace Go.Proofs.YtpppfiagaiaggaaDoor
open Go.RowKit Go.Shelf

set_option maxRecDepth 100000 in
theorem trailAsk_full (B : Nat) (x : TrV) (t : TrSt) (a : Ask) (w : World) (h : TrailAt w B x t) (hm : t.many = 100) :
    Calls Tryd.prog 8 #[.pointer (some ⟨x.tb, 0, none⟩), .agg #[.int .i64 a.kind, .int .i64 a.user, .int .i64 a.file, .int .i64 a.to]] w fun e w' => e = .returned (errV 4) ∧ Below w.heap.size w w' := by
  have hlt := h.bld.blk.lt
  have hc := h.bld.blk.cell 3
  rw [hm] at hc
  simp only [List.getElem?_toArray, List.getElem?_cons_succ, List.getElem?_cons_zero] at hc
  clear h hm
  go_enter Tryd.func8, Tryd.ntmps8
  go_wp2
  go_ret
  exact ⟨rfl, bl_alloc (Below.refl _ _) _⟩

/-- What a trail's asking reads, behind the call's own variable. -/
structure TrRd (w : World) (x : TrV) (t : TrSt) (k u f t1 : Int) (W : World) : Prop where
  c0 : W.cell? ⟨x.tb, 0, none⟩ = some (.pointer (some ⟨x.m.mb, 0, none⟩))
  c3 : W.cell? ⟨x.tb, 3, none⟩ = some (.int .i64 (t.many : Int))
  c4 : W.cell? ⟨x.tb, 4, none⟩ = some (.int .i64 t.chain)
  a0 : W.cell? ⟨w.heap.size, 0, none⟩ = some (.int .i64 k)
  a1 : W.cell? ⟨w.heap.size, 1, none⟩ = some (.int .i64 u)
  a2 : W.cell? ⟨w.heap.size, 2, none⟩ = some (.int .i64 f)
  a3 : W.cell? ⟨w.heap.size, 3, none⟩ = some (.int .i64 t1)
  lt : w.heap.size < W.heap.size

theorem trRd_start {w : World} {B : Nat} {x : TrV} {t : TrSt} (h : TrailAt w B x t) (k u f t1 : Int) : TrRd w x t k u f t1 (w.alloc (.cells #[.int .i64 k, .int .i64 u, .int .i64 f, .int .i64 t1] 40)).drew := by
  have hlt := h.bld.blk.lt
  have hb : Below w.heap.size w (w.alloc (.cells #[.int .i64 k, .int .i64 u, .int .i64 f, .int .i64 t1] 40)).drew := (bl_alloc (Below.refl _ _) _).drew
  refine ⟨(hb.cell (p := ⟨x.tb, 0, none⟩) hlt).trans (h.bld.blk.cell 0), (hb.cell (p := ⟨x.tb, 3, none⟩) hlt).trans (h.bld.blk.cell 3), (hb.cell (p := ⟨x.tb, 4, none⟩) hlt).trans (h.bld.blk.cell 4), ?_, ?_, ?_, ?_, by simp⟩
  all_goals exact World.cell?_alloc_at (w := w) _ _ _ _ rfl

theorem TrRd.kp {F : Nat → Prop} {w : World} {x : TrV} {t : TrSt} {k u f t1 : Int} {W W' : World} (h : TrRd w x t k u f t1 W) (hk : Kp F W W') (h1 : ¬ F x.tb) (h2 : ¬ F w.heap.size) : TrRd w x t k u f t1 W' := by
  have l0 : x.tb < W.heap.size := cell_lt h.c0
  have l1 := h.lt
  exact ⟨(hk.cell (p := ⟨x.tb, 0, none⟩) l0 h1).trans h.c0, (hk.cell (p := ⟨x.tb, 3, none⟩) l0 h1).trans h.c3, (hk.cell (p := ⟨x.tb, 4, none⟩) l0 h1).trans h.c4,
    (hk.cell (p := ⟨w.heap.size, 0, none⟩) l1 h2).trans h.a0, (hk.cell (p := ⟨w.heap.size, 1, none⟩) l1 h2).trans h.a1, (hk.cell (p := ⟨w.heap.size, 2, none⟩) l1 h2).trans h.a2, (hk.cell (p := ⟨w.heap.size, 3, none⟩) l1 h2).trans h.a3, Nat.lt_of_lt_of_le h.lt hk.size⟩

theorem below_grow' {B : Nat} (w : World) (hB : B ≤ w.heap.size) (k : Nat) (os : Array Obj) : Below B w (Go.Sort.grow (w.drewN k) os) :=
  ⟨rfl, rfl, rfl, by simp [Go.Sort.grow], fun j hj => by
    show (w.heap ++ os)[j]? = w.heap[j]?
    rw [Array.getElem?_append_left (by omega)]⟩

theorem BAt.set_ {w : World} {B b o t : Nat} {cs : Array Value} {p v : Value} {l : List UInt8} (h : BAt w B b o t cs p v l) (i : Nat) (u : Value) (hi : i ≠ o) (hi' : i ≠ o + 1) : BAt (w.setCell ⟨b, i, none⟩ u) B b o t (cs.setIfInBounds i u) p v l :=
  ⟨h.base, h.blk.set_ i u, h.ne, by rw [Array.getElem?_setIfInBounds_ne hi]; exact h.p_, by rw [Array.getElem?_setIfInBounds_ne hi']; exact h.v_, h.pv,
    ownsRowF_same h.own fun k hk => Below.heap_setCell w ⟨b, i, none⟩ u k (by rintro rfl; exact ownF_blk_ne h.own h.blk h.ne hk), h.nil_⟩

theorem TrRd.five {w : World} {x : TrV} {t : TrSt} {k u f t1 : Int} {W : World} (h : TrRd w x t k u f t1 W) :
    W.cell? ⟨x.tb, 0, none⟩ = some (.pointer (some ⟨x.m.mb, 0, none⟩)) ∧ (W.cell? ⟨w.heap.size, 0, none⟩ = some (.int .i64 k) ∧ W.cell? ⟨w.heap.size, 1, none⟩ = some (.int .i64 u) ∧ W.cell? ⟨w.heap.size, 2, none⟩ = some (.int .i64 f) ∧ W.cell? ⟨w.heap.size, 3, none⟩ = some (.int .i64 t1)) := ⟨h.c0, h.a0, h.a1, h.a2, h.a3⟩

theorem bld_kept {w W w1 : World} {B : Nat} {x : TrV} {t : TrSt} (h : TrailAt w B x t) (hb : Below w.heap.size w W) (hk : Kp x.m.foot W w1) :
    BAt w1 B x.tb 1 54 #[.pointer (some ⟨x.m.mb, 0, none⟩), x.pv, x.bv, .int .i64 (t.many : Int), .int .i64 t.chain] x.pv x.bv t.text :=
  h.bld.same fun k hf => (hk.block k (Nat.lt_of_lt_of_le (h.bld.foot_ge hf).2 hb.size) (h.dj k hf)).trans (hb.block k (h.bld.foot_ge hf).2)
theorem kp_mid {w W w1 : World} {x : TrV} (hb : Below w.heap.size w W) (hk : Kp x.m.foot W w1) : Kp x.foot w w1 :=
  Kp.trans (F := x.foot) (Kp.of_below hb) hk (fun _ _ h => .inl h)

theorem trail_fin {w W w1 wr w5 w6 w7 : World} {B : Nat} {x : TrV} {t : TrSt} {b' : Bell} {e ch : Int} {a : Ask} {lh : List UInt8} {v' : Value} (hT : TrailAt w B x t) (hM : MonAt w1 B x.m b') (hb : Below w.heap.size w W) (hk1 : Kp x.m.foot W w1) (hbw : Below w1.heap.size w1 wr)
    (hk5 : Kp (fun k => k = x.tb) wr w5) (hb6 : Below w5.heap.size w5 w6) (hk7 : Kp (bfoot x.tb x.bv) w6 w7)
    (hb7 : BAt w7 B x.tb 1 54 ((#[.pointer (some ⟨x.m.mb, 0, none⟩), x.pv, x.bv, .int .i64 (t.many : Int), .int .i64 ch].setIfInBounds 1 (.pointer (some ⟨x.tb, 1, none⟩))).setIfInBounds (1 + 1) v') (.pointer (some ⟨x.tb, 1, none⟩)) v'
      (t.text ++ ((⟨lh.toArray⟩ : ByteArray) ++ (⟨(Lib.itoa ch).toArray⟩ : ByteArray) ++ (⟨#[10]⟩ : ByteArray)).data.toList))
    (hv7 : ∀ k, v'.ownBlock = some k → x.bv.ownBlock = some k ∨ w6.heap.size ≤ k) (hm : t.many ≠ 100) (ha : AskIn a) (he : in64 e) (hlh : lineHead a e = lh) (hch : ch = link t.chain lh) :
    TrailAt (w7.setCell ⟨x.tb, 3, none⟩ (.int .i64 ((t.many : Int) + 1))) B ⟨x.tb, x.m, .pointer (some ⟨x.tb, 1, none⟩), v'⟩ ⟨b', t.text ++ lineOf t.chain (lineHead a e), t.many + 1, link t.chain (lineHead a e)⟩ ∧
    Kp x.foot w (w7.setCell ⟨x.tb, 3, none⟩ (.int .i64 ((t.many : Int) + 1))) ∧ (∀ k, TrV.foot ⟨x.tb, x.m, .pointer (some ⟨x.tb, 1, none⟩), v'⟩ k → x.foot k ∨ w.heap.size ≤ k) := by
  have z1 := hb.size; have z2 := hk1.size; have z3 := hbw.size; have z4 := hk5.size; have z5 := hb6.size; have z6 := hk7.size
  have hnb : ∀ k, x.m.foot k → ¬ bfoot x.tb x.bv k := fun k hk hf => hT.dj k hf hk
  refine ⟨⟨?_, ?_, ?_, ?_⟩, ?_, ?_⟩
  · refine hM.same fun k hk => ?_
    have l1 := (hM.foot hk).2
    have ne : k ≠ x.tb := fun h => hnb k hk (.inl h)
    exact (Below.heap_setCell w7 ⟨x.tb, 3, none⟩ _ k ne).trans ((hk7.block k (by omega) (hnb k hk)).trans ((hb6.block k (by omega)).trans ((hk5.block k (by omega) ne).trans (hbw.block k l1))))
  · have h := hb7.set_ 3 (.int .i64 ((t.many : Int) + 1)) (by decide) (by decide)
    have e1 : t.text ++ ((⟨lh.toArray⟩ : ByteArray) ++ (⟨(Lib.itoa ch).toArray⟩ : ByteArray) ++ (⟨#[10]⟩ : ByteArray)).data.toList = t.text ++ lineOf t.chain (lineHead a e) := by
      rw [hlh, hch]; simp [lineOf, ByteArray.data_append]
    rw [e1] at h
    rw [hlh] at h ⊢
    rw [← hch] at *
    exact h
  · refine ⟨hM.ok, ?_, ?_, link_range _ _⟩
    · have := hT.ok.many; show t.many + 1 ≤ 100; omega
    · have h1 := hT.ok.text
      have h2 := lineOf_length (c := t.chain) ha he
      simp only [List.length_append]; omega
  · rintro k (rfl | hk) hf
    · exact hT.dj _ (.inl rfl) hf
    · rcases hv7 k hk with h | h
      · exact hT.dj k (.inr h) hf
      · have := (hM.foot hf).2; omega
  · have k1 : Kp x.foot w w1 := kp_mid hb hk1
    have k2 : Kp x.foot w w5 := (k1.bl hbw).trans hk5 (by rintro n _ rfl; exact .inr (.inl rfl))
    have k3 : Kp x.foot w w7 := (k2.bl hb6).trans hk7 (fun n _ h => .inr h)
    exact k3.setCell (p := ⟨x.tb, 3, none⟩) (.inl (.inr (.inl rfl))) _
  · rintro k (hk | rfl | hk)
    · exact .inl (.inl hk)
    · exact .inl (.inr (.inl rfl))
    · rcases hv7 k hk with h | h
      · exact .inl (.inr (.inr h))
      · exact .inr (by omega)

theorem idx5_0 (a b c d e : Value) (w : World) : (Instr.index 62 (.agg #[a, b, c, d, e]) (.int .i64 0)).run Tryd.prog w = .ok a w := by kernel_rfl
theorem idx5_1 (a b c d e : Value) (w : World) : (Instr.index 62 (.agg #[a, b, c, d, e]) (.int .i64 1)).run Tryd.prog w = .ok b w := by kernel_rfl
theorem idx5_2 (a b c d e : Value) (w : World) : (Instr.index 62 (.agg #[a, b, c, d, e]) (.int .i64 2)).run Tryd.prog w = .ok c w := by kernel_rfl
theorem idx5_3 (a b c d e : Value) (w : World) : (Instr.index 62 (.agg #[a, b, c, d, e]) (.int .i64 3)).run Tryd.prog w = .ok d w := by kernel_rfl
theorem idx5_4 (a b c d e : Value) (w : World) : (Instr.index 62 (.agg #[a, b, c, d, e]) (.int .i64 4)).run Tryd.prog w = .ok e w := by kernel_rfl
/-- The first numbers of a line. -/
def upto (a : Ask) (e : Int) (n : Nat) : List UInt8 := (([a.kind, a.user, a.file, a.to, e].take n).map numB).flatten
theorem upto_length (a : Ask) (e : Int) (h : AskIn a) (he : in64 e) (n : Nat) : (upto a e n).length ≤ 110 := by
  have h1 := numB_length h.kind; have h2 := numB_length h.user; have h3 := numB_length h.file; have h4 := numB_length h.to; have h5 := numB_length he
  have hc : n = 0 ∨ n = 1 ∨ n = 2 ∨ n = 3 ∨ n = 4 ∨ 5 ≤ n := by omega
  rcases hc with rfl | rfl | rfl | rfl | rfl | hn
  · simp [upto]
  · simp [upto]; omega
  · simp [upto]; omega
  · simp [upto]; omega
  · simp [upto]; omega
  · unfold upto
    rw [List.take_of_length_le (by simpa using hn)]
    simp; omega
theorem bytes_app (a b : List UInt8) : (⟨a.toArray⟩ : ByteArray) ++ ⟨b.toArray⟩ = ⟨(a ++ b).toArray⟩ := by
  apply ByteArray.ext
  simp [ByteArray.data_append]
theorem bytes_num (a : List UInt8) (n : Int) : (⟨a.toArray⟩ : ByteArray) ++ ((⟨(Lib.itoa n).toArray⟩ : ByteArray) ++ (⟨#[32]⟩ : ByteArray)) = ⟨(a ++ numB n).toArray⟩ := by
  rw [show (⟨#[32]⟩ : ByteArray) = ⟨([32] : List UInt8).toArray⟩ from rfl, bytes_app, bytes_app]
  rfl
theorem upto_five (a : Ask) (e : Int) : upto a e 5 = lineHead a e := by simp [upto, lineHead]

theorem TrRd.four {w : World} {x : TrV} {t : TrSt} {k u f t1 : Int} {W : World} (h : TrRd w x t k u f t1 W) :
    W.cell? ⟨w.heap.size, 0, none⟩ = some (.int .i64 k) ∧ W.cell? ⟨w.heap.size, 1, none⟩ = some (.int .i64 u) ∧ W.cell? ⟨w.heap.size, 2, none⟩ = some (.int .i64 f) ∧ W.cell? ⟨w.heap.size, 3, none⟩ = some (.int .i64 t1) := ⟨h.a0, h.a1, h.a2, h.a3⟩

set_option maxRecDepth 100000 in
set_option maxHeartbeats 2000000 in
theorem trailAsk_mid (B : Nat) (x : TrV) (t : TrSt) (k u f t0 t1 : Int) (w : World) (h : TrailAt w B x t) (hE : Env w) (hB : 4 ≤ B) (hm : t.many ≠ 100) (ha : AskIn ⟨k, u, f, t1⟩) (ht : (k = 3 ∧ t1 = t0) ∨ (k ≠ 3 ∧ t1 = 0))
    (b' : Bell) (e : Int) (hr : askBell t.bell ⟨k, u, f, t1⟩ = (b', e)) :
    Calls Tryd.prog 8 #[.pointer (some ⟨x.tb, 0, none⟩), .agg #[.int .i64 k, .int .i64 u, .int .i64 f, .int .i64 t0]] w fun ev w' => ∃ x', x'.tb = x.tb ∧ ev = .returned (errV e) ∧
      TrailAt w' B x' (if e = 1 then t else ⟨b', t.text ++ lineOf t.chain (lineHead ⟨k, u, f, t1⟩ e), t.many + 1, link t.chain (lineHead ⟨k, u, f, t1⟩ e)⟩) ∧ Kp x.foot w w' ∧ (∀ k, x'.foot k → x.foot k ∨ w.heap.size ≤ k) := by
  have hmany := h.ok.many
  have hlt := h.bld.blk.lt
  have hc0 := h.bld.blk.cell 0
  have hc3 := h.bld.blk.cell 3
  have hc4 := h.bld.blk.cell 4
  simp only [List.getElem?_toArray, List.getElem?_cons_succ, List.getElem?_cons_zero] at hc0 hc3 hc4
  have hm' : (t.many : Int) ≠ 100 := by omega
  have C1' := ask_calls B x.m t.bell ⟨k, u, f, t1⟩ (w.alloc (.cells #[.int .i64 k, .int .i64 u, .int .i64 f, .int .i64 t1] 40)).drew ((h.mon.alloc _).drew) (hE.bl (bl_alloc (Below.refl _ _) _).drew).tzs
  rw [hr] at C1'
  have C1 := Lib.hid C1'
  have hmf : ∀ k, x.m.foot k → k < w.heap.size := fun k hk => (h.mon.foot hk).2
  have RD := Lib.hid (fun (W : World) (hk : Kp x.m.foot (w.alloc (.cells #[.int .i64 k, .int .i64 u, .int .i64 f, .int .i64 t1] 40)).drew W) => (trRd_start h k u f t1).kp hk (h.dj _ (.inl rfl)) (fun hf => absurd (hmf _ hf) (Nat.lt_irrefl _)))
  have HT := Lib.hid h
  have HE := Lib.hid hE
  have HA := Lib.hid ha
  have HM := Lib.hid hm
  have HR := Lib.hid hr
  have HI64 := Lib.hid (show in64 e by have := askBell_in64 t.bell ⟨k, u, f, t1⟩; rw [hr] at this; exact this)
  have hs := (RD.out _ (Kp.refl _ _)).five
  clear h hE hm ha hmf hr C1'
  rcases ht with ⟨rfl, rfl⟩ | ⟨hk, rfl⟩
  · clear hs
    go_enter Tryd.func8, Tryd.ntmps8
    go_upto_region 5 with fail
    go_region_held3 (fun w' => w'.cell? ⟨x.tb, 0, none⟩ = some (.pointer (some ⟨x.m.mb, 0, none⟩)) ∧ (w'.cell? ⟨w.heap.size, 0, none⟩ = some (.int .i64 3) ∧ w'.cell? ⟨w.heap.size, 1, none⟩ = some (.int .i64 u) ∧ w'.cell? ⟨w.heap.size, 2, none⟩ = some (.int .i64 f) ∧ w'.cell? ⟨w.heap.size, 3, none⟩ = some (.int .i64 t1)))
      (first | exact (RD.out _ (Kp.refl _ _)).five | exact (RD.out _ hk1).five)
      (first | (go_at_call 20; refine C1.out.mono ?_; rintro e w1 ⟨rfl, hm1, hk1⟩))
    have hv1 : Env w1 := (HE.out.bl (bl_alloc (Below.refl _ _) _).drew).kp hk1 (fun n _ hf => Nat.le_trans hB (HT.out.mon.foot hf).1)
    have rd := RD.out _ hk1
    obtain ⟨c0, c3, c4, a0, a1, a2, a3, l1⟩ := rd
    have HM1 := Lib.hid hm1
    have HK1 := Lib.hid hk1
    have HV1 := Lib.hid hv1
    clear hm1 hk1 hv1 hc0 hc3 hc4
    by_cases he : e = 1
    · subst he
      go_wp2_with (go_at_call 21; refine (is_range 1 _).mono ?_; rintro ev w2 ⟨rfl, rfl⟩)
      go_ret
      have hb1 := askBell_one (b := t.bell) (a := ⟨3, u, f, t1⟩) (by rw [HR.out])
      rw [HR.out] at hb1
      obtain ⟨rfl, _⟩ := hb1
      exact ⟨x, rfl, rfl, ⟨HM1.out, bld_kept HT.out (bl_alloc (Below.refl _ _) _).drew HK1.out, HT.out.ok, HT.out.dj⟩, kp_mid (bl_alloc (Below.refl _ _) _).drew HK1.out, fun k hk => .inl hk⟩
    · have he1 : (e == 1) = false := by simp [he]
      have HE1 := Lib.hid he1
      have HEE := Lib.hid he
      clear he he1
      go_wp2_with (go_at_call 21; refine (is_range e _).mono ?_; rintro ev w1 ⟨rfl, rfl⟩; rw [HE1.out])
      go_region_held3 (fun w' => w'.cell? ⟨w.heap.size, 0, none⟩ = some (.int .i64 3) ∧ w'.cell? ⟨w.heap.size, 1, none⟩ = some (.int .i64 u) ∧ w'.cell? ⟨w.heap.size, 2, none⟩ = some (.int .i64 f) ∧ w'.cell? ⟨w.heap.size, 3, none⟩ = some (.int .i64 t1))
        (first | exact (RD.out _ HK1.out).four | exact ((RD.out _ HK1.out).kp (F := fun _ => False) (Kp.of_below (((Below.refl w1.heap.size w1).drew).trans hb2)) id id).four)
        (first | (go_at_call 22; refine (told_calls e _ ?_).mono ?_; (focus exact HV1.out.typed); rintro ev w2 ⟨rfl, hb2⟩))
      have hbl : Below w1.heap.size w1 w2 := ((Below.refl w1.heap.size w1).drew).trans hb2
      have HBL := Lib.hid hbl
      clear hb2 hbl
      go_wp2_with fail
      go_loopw [6, 40] (fun s6 s40 wr => ∃ n : Nat, n ≤ 5 ∧ s40 = .int .i64 n ∧ s6 = .string ⟨(upto ⟨3, u, f, t1⟩ e n).toArray⟩ ∧ Below w1.heap.size w1 wr) (fun _ s40 _ => 5 - (intOf s40).toNat)
      case atStart => exact ⟨0, by omega, rfl, rfl, HBL.out⟩
      case round =>
        obtain ⟨n, hn, rfl, rfl, hbw⟩ := hrel
        have HBW := Lib.hid hbw
        have HVR := Lib.hid (HV1.out.bl hbw)
        clear hbw
        by_cases hn5 : n < 5
        · have hc : n = 0 ∨ n = 1 ∨ n = 2 ∨ n = 3 ∨ n = 4 := by omega
          rcases hc with rfl | rfl | rfl | rfl | rfl
          · have hix := idx5_0 (.int .i64 3) (.int .i64 u) (.int .i64 f) (.int .i64 t1) (.int .i64 e) wr
            have hup := upto_length ⟨3, u, f, t1⟩ e HA.out HI64.out 0
            have hit := Lib.itoa_length_le 3 HA.out.kind.1 HA.out.kind.2
            go_wp2_with (go_at_call 23; refine (Tryd.strconv_Itoa _ HA.out.kind.1 HA.out.kind.2 _ HVR.out.pow).mono ?_; rintro ev w3 ⟨rfl, kk, os, rfl⟩)
            go_roundw
            case rel =>
              refine ⟨1, by omega, by go_num, ?_, HBW.out.trans (below_grow' (B := w1.heap.size) wr HBW.out.size kk os)⟩
              rw [bytes_num]
              simp [upto]
            case measure => simp [intOf]
          · have hix := idx5_1 (.int .i64 3) (.int .i64 u) (.int .i64 f) (.int .i64 t1) (.int .i64 e) wr
            have hup := upto_length ⟨3, u, f, t1⟩ e HA.out HI64.out 1
            have hit := Lib.itoa_length_le u HA.out.user.1 HA.out.user.2
            go_wp2_with (go_at_call 23; refine (Tryd.strconv_Itoa _ HA.out.user.1 HA.out.user.2 _ HVR.out.pow).mono ?_; rintro ev w3 ⟨rfl, kk, os, rfl⟩)
            go_roundw
            case rel =>
              refine ⟨2, by omega, by go_num, ?_, HBW.out.trans (below_grow' (B := w1.heap.size) wr HBW.out.size kk os)⟩
              rw [bytes_num]
              simp [upto]
            case measure => simp [intOf]
          · have hix := idx5_2 (.int .i64 3) (.int .i64 u) (.int .i64 f) (.int .i64 t1) (.int .i64 e) wr
            have hup := upto_length ⟨3, u, f, t1⟩ e HA.out HI64.out 2
            have hit := Lib.itoa_length_le f HA.out.file.1 HA.out.file.2
            go_wp2_with (go_at_call 23; refine (Tryd.strconv_Itoa _ HA.out.file.1 HA.out.file.2 _ HVR.out.pow).mono ?_; rintro ev w3 ⟨rfl, kk, os, rfl⟩)
            go_roundw
            case rel =>
              refine ⟨3, by omega, by go_num, ?_, HBW.out.trans (below_grow' (B := w1.heap.size) wr HBW.out.size kk os)⟩
              rw [bytes_num]
              simp [upto]
            case measure => simp [intOf]
          · have hix := idx5_3 (.int .i64 3) (.int .i64 u) (.int .i64 f) (.int .i64 t1) (.int .i64 e) wr
            have hup := upto_length ⟨3, u, f, t1⟩ e HA.out HI64.out 3
            have hit := Lib.itoa_length_le t1 HA.out.to.1 HA.out.to.2
            go_wp2_with (go_at_call 23; refine (Tryd.strconv_Itoa _ HA.out.to.1 HA.out.to.2 _ HVR.out.pow).mono ?_; rintro ev w3 ⟨rfl, kk, os, rfl⟩)
            go_roundw
            case rel =>
              refine ⟨4, by omega, by go_num, ?_, HBW.out.trans (below_grow' (B := w1.heap.size) wr HBW.out.size kk os)⟩
              rw [bytes_num]
              simp [upto]
            case measure => simp [intOf]
          · have hix := idx5_4 (.int .i64 3) (.int .i64 u) (.int .i64 f) (.int .i64 t1) (.int .i64 e) wr
            have hup := upto_length ⟨3, u, f, t1⟩ e HA.out HI64.out 4
            have hit := Lib.itoa_length_le e HI64.out.1 HI64.out.2
            go_wp2_with (go_at_call 23; refine (Tryd.strconv_Itoa _ HI64.out.1 HI64.out.2 _ HVR.out.pow).mono ?_; rintro ev w3 ⟨rfl, kk, os, rfl⟩)
            go_roundw
            case rel =>
              refine ⟨5, by omega, by go_num, ?_, HBW.out.trans (below_grow' (B := w1.heap.size) wr HBW.out.size kk os)⟩
              rw [bytes_num]
              simp [upto]
            case measure => simp [intOf]
        · obtain rfl : n = 5 := by omega
          rw [upto_five]
          have hbt := (bld_kept HT.out (bl_alloc (Below.refl _ _) _).drew HK1.out)
          have hbr : BAt wr B x.tb 1 54 #[.pointer (some ⟨x.m.mb, 0, none⟩), x.pv, x.bv, .int .i64 (t.many : Int), .int .i64 t.chain] x.pv x.bv t.text := hbt.same fun k hf => HBW.out.block k (hbt.foot_ge hf).2
          have d3 := hbr.blk.cell 3
          have d4 := hbr.blk.cell 4
          simp only [List.getElem?_toArray, List.getElem?_cons_succ, List.getElem?_cons_zero] at d3 d4
          have hlr := hbr.blk.lt
          have hfz := hbr.blk.frozen 4
          have hll := lineHead_length HA.out HI64.out
          have N1 := Lib.hid (fun w' => next_calls t.chain ⟨(lineHead ⟨3, u, f, t1⟩ e).toArray⟩ w' (by show (lineHead ⟨3, u, f, t1⟩ e).toArray.size < 2 ^ 62; simp; omega))
          have HBR := Lib.hid hbr
          have HLL := Lib.hid hll
          clear hbt hbr c0 c3 c4 a0 a1 a2 a3 l1 hll
          generalize hlh : lineHead ⟨3, u, f, t1⟩ e = lh at *
          have HLH := Lib.hid hlh
          clear hlh
          simp only [List.toList_toArray] at N1
          obtain ⟨ch, hch⟩ : ∃ ch, ch = link t.chain lh := ⟨_, rfl⟩
          rw [← hch] at N1
          have HCH := Lib.hid hch
          clear hch
          go_wp2_with (go_at_call 24; refine (N1.out _).mono ?_; rintro ev w4 ⟨rfl, hb4⟩; obtain ⟨q1, q2⟩ := bcell hb4; have z4 := hb4.size)
          have hb5 : BAt w4 B x.tb 1 54 #[.pointer (some ⟨x.m.mb, 0, none⟩), x.pv, x.bv, .int .i64 (t.many : Int), .int .i64 t.chain] x.pv x.bv t.text := HBR.out.same fun k hf => hb4.block k (HBR.out.foot_ge hf).2
          have hb5 := hb5.set_ 4 (.int .i64 ch) (by decide) (by decide)
          simp only [List.setIfInBounds_toArray, List.set_cons_zero, List.set_cons_succ] at hb5
          have hk5 : Kp (fun k => k = x.tb) wr (w4.setCell ⟨x.tb, 4, none⟩ (.int .i64 ch)) := Kp.setCell (F := fun k => k = x.tb) (p := ⟨x.tb, 4, none⟩) (Kp.of_below hb4) (.inl rfl) _
          have hv5 := HVR.out.kp hk5 (by rintro n _ rfl; exact Nat.le_trans hB HBR.out.base)
          clear q1 q2 z4 hb4 d3 d4 hlr hfz
          generalize w4.setCell ⟨x.tb, 4, none⟩ (.int .i64 ch) = w5 at *
          have e4 := hb5.blk.cell 4
          have e3 := hb5.blk.cell 3
          simp only [List.getElem?_toArray, List.getElem?_cons_succ, List.getElem?_cons_zero] at e3 e4
          have hl5 := hb5.blk.lt
          have hchr : in64 ch := by have := link_range t.chain lh; rw [← HCH.out] at this; unfold in64; omega
          have hll := HLL.out
          have hit := Lib.itoa_length_le ch hchr.1 hchr.2
          have HB5 := Lib.hid hb5
          have HK5 := Lib.hid hk5
          have HV5 := Lib.hid hv5
          have HCR := Lib.hid hchr
          have HTX := Lib.hid HT.out.ok.text
          clear hb5 hk5 hv5 hchr
          go_region_with
            (first
              | (go_at_call 23; refine (Tryd.strconv_Itoa _ HCR.out.1 HCR.out.2 _ ?_).mono ?_; (focus exact HV5.out.pow); rintro ev w6 ⟨rfl, kk, os, hw6⟩; have hb6 : Below w5.heap.size w5 w6 := by rw [hw6]; exact ((Below.refl w5.heap.size w5).drew).trans (below_grow' (B := w5.heap.size) w5.drew (Nat.le_refl _) kk os)
                 have h6 : w6.cell? ⟨x.tb, 4, none⟩ = some (.int .i64 ch) := (hb6.cell (p := ⟨x.tb, 4, none⟩) hl5).trans e4
                 clear hw6)
              | (go_at_call 25; refine (writeString_calls B x.tb 1 54 _ x.pv x.bv t.text _ _ (HB5.out.same fun k hf => hb6.block k (HB5.out.foot_ge hf).2) lies_trail ?_ ?_).mono ?_; (focus (have ht := HTX.out; simp only [ByteArray.size, ByteArray.data_append, Array.size_append, List.size_toArray]; simp; omega)); (focus (have hb := HB5.out.base; have hz := hb6.size; omega)); rintro ev w7 ⟨v', rfl, hb7, hk7, hv7⟩; have h7 := hb7.blk.cell 4))
          have f3 := hb7.blk.cell 3
          simp only [List.setIfInBounds_toArray, List.set_cons_zero, List.set_cons_succ, List.getElem?_toArray, List.getElem?_cons_succ, List.getElem?_cons_zero] at f3
          have hl7 := hb7.blk.lt
          have hfz7 := hb7.blk.frozen 3
          have FIN := Lib.hid (trail_fin (e := e) HT.out HM1.out (bl_alloc (Below.refl _ _) _).drew HK1.out HBW.out HK5.out hb6 hk7 hb7 hv7 HM.out HA.out HI64.out HLH.out HCH.out)
          clear hb7 hk7 hv7 hb6 h6 h7 e3 e4
          go_wp2
          go_ret
          obtain ⟨g1, g2, g3⟩ := FIN.out
          refine ⟨⟨x.tb, x.m, .pointer (some ⟨x.tb, 1, none⟩), v'⟩, rfl, rfl, ?_, g2, g3⟩
          first | exact g1 | (rw [if_neg HEE.out]; exact g1)
  · clear hs
    go_enter Tryd.func8, Tryd.ntmps8
    go_upto_region 5 with fail
    go_region_held3 (fun w' => w'.cell? ⟨x.tb, 0, none⟩ = some (.pointer (some ⟨x.m.mb, 0, none⟩)) ∧ (w'.cell? ⟨w.heap.size, 0, none⟩ = some (.int .i64 k) ∧ w'.cell? ⟨w.heap.size, 1, none⟩ = some (.int .i64 u) ∧ w'.cell? ⟨w.heap.size, 2, none⟩ = some (.int .i64 f) ∧ w'.cell? ⟨w.heap.size, 3, none⟩ = some (.int .i64 0)))
      (first | exact (RD.out _ (Kp.refl _ _)).five | exact (RD.out _ hk1).five)
      (first | (go_at_call 20; refine C1.out.mono ?_; rintro e w1 ⟨rfl, hm1, hk1⟩))
    have hv1 : Env w1 := (HE.out.bl (bl_alloc (Below.refl _ _) _).drew).kp hk1 (fun n _ hf => Nat.le_trans hB (HT.out.mon.foot hf).1)
    have rd := RD.out _ hk1
    obtain ⟨c0, c3, c4, a0, a1, a2, a3, l1⟩ := rd
    have HM1 := Lib.hid hm1
    have HK1 := Lib.hid hk1
    have HV1 := Lib.hid hv1
    clear hm1 hk1 hv1 hc0 hc3 hc4
    by_cases he : e = 1
    · subst he
      go_wp2_with (go_at_call 21; refine (is_range 1 _).mono ?_; rintro ev w2 ⟨rfl, rfl⟩)
      go_ret
      have hb1 := askBell_one (b := t.bell) (a := ⟨k, u, f, 0⟩) (by rw [HR.out])
      rw [HR.out] at hb1
      obtain ⟨rfl, _⟩ := hb1
      exact ⟨x, rfl, rfl, ⟨HM1.out, bld_kept HT.out (bl_alloc (Below.refl _ _) _).drew HK1.out, HT.out.ok, HT.out.dj⟩, kp_mid (bl_alloc (Below.refl _ _) _).drew HK1.out, fun k hk => .inl hk⟩
    · have he1 : (e == 1) = false := by simp [he]
      have HE1 := Lib.hid he1
      have HEE := Lib.hid he
      clear he he1
      go_wp2_with (go_at_call 21; refine (is_range e _).mono ?_; rintro ev w1 ⟨rfl, rfl⟩; rw [HE1.out])
      go_region_held3 (fun w' => w'.cell? ⟨w.heap.size, 0, none⟩ = some (.int .i64 k) ∧ w'.cell? ⟨w.heap.size, 1, none⟩ = some (.int .i64 u) ∧ w'.cell? ⟨w.heap.size, 2, none⟩ = some (.int .i64 f) ∧ w'.cell? ⟨w.heap.size, 3, none⟩ = some (.int .i64 0))
        (first | exact (RD.out _ HK1.out).four | exact ((RD.out _ HK1.out).kp (F := fun _ => False) (Kp.of_below (((Below.refl w1.heap.size w1).drew).trans hb2)) id id).four)
        (first | (go_at_call 22; refine (told_calls e _ ?_).mono ?_; (focus exact HV1.out.typed); rintro ev w2 ⟨rfl, hb2⟩))
      have hbl : Below w1.heap.size w1 w2 := ((Below.refl w1.heap.size w1).drew).trans hb2
      have HBL := Lib.hid hbl
      clear hb2 hbl
      go_wp2_with fail
      go_loopw [6, 40] (fun s6 s40 wr => ∃ n : Nat, n ≤ 5 ∧ s40 = .int .i64 n ∧ s6 = .string ⟨(upto ⟨k, u, f, 0⟩ e n).toArray⟩ ∧ Below w1.heap.size w1 wr) (fun _ s40 _ => 5 - (intOf s40).toNat)
      case atStart => exact ⟨0, by omega, rfl, rfl, HBL.out⟩
      case round =>
        obtain ⟨n, hn, rfl, rfl, hbw⟩ := hrel
        have HBW := Lib.hid hbw
        have HVR := Lib.hid (HV1.out.bl hbw)
        clear hbw
        by_cases hn5 : n < 5
        · have hc : n = 0 ∨ n = 1 ∨ n = 2 ∨ n = 3 ∨ n = 4 := by omega
          rcases hc with rfl | rfl | rfl | rfl | rfl
          · have hix := idx5_0 (.int .i64 k) (.int .i64 u) (.int .i64 f) (.int .i64 0) (.int .i64 e) wr
            have hup := upto_length ⟨k, u, f, 0⟩ e HA.out HI64.out 0
            have hit := Lib.itoa_length_le k HA.out.kind.1 HA.out.kind.2
            go_wp2_with (go_at_call 23; refine (Tryd.strconv_Itoa _ HA.out.kind.1 HA.out.kind.2 _ HVR.out.pow).mono ?_; rintro ev w3 ⟨rfl, kk, os, rfl⟩)
            go_roundw
            case rel =>
              refine ⟨1, by omega, by go_num, ?_, HBW.out.trans (below_grow' (B := w1.heap.size) wr HBW.out.size kk os)⟩
              rw [bytes_num]
              simp [upto]
            case measure => simp [intOf]
          · have hix := idx5_1 (.int .i64 k) (.int .i64 u) (.int .i64 f) (.int .i64 0) (.int .i64 e) wr
            have hup := upto_length ⟨k, u, f, 0⟩ e HA.out HI64.out 1
            have hit := Lib.itoa_length_le u HA.out.user.1 HA.out.user.2
            go_wp2_with (go_at_call 23; refine (Tryd.strconv_Itoa _ HA.out.user.1 HA.out.user.2 _ HVR.out.pow).mono ?_; rintro ev w3 ⟨rfl, kk, os, rfl⟩)
            go_roundw
            case rel =>
              refine ⟨2, by omega, by go_num, ?_, HBW.out.trans (below_grow' (B := w1.heap.size) wr HBW.out.size kk os)⟩
              rw [bytes_num]
              simp [upto]
            case measure => simp [intOf]
          · have hix := idx5_2 (.int .i64 k) (.int .i64 u) (.int .i64 f) (.int .i64 0) (.int .i64 e) wr
            have hup := upto_length ⟨k, u, f, 0⟩ e HA.out HI64.out 2
            have hit := Lib.itoa_length_le f HA.out.file.1 HA.out.file.2
            go_wp2_with (go_at_call 23; refine (Tryd.strconv_Itoa _ HA.out.file.1 HA.out.file.2 _ HVR.out.pow).mono ?_; rintro ev w3 ⟨rfl, kk, os, rfl⟩)
            go_roundw
            case rel =>
              refine ⟨3, by omega, by go_num, ?_, HBW.out.trans (below_grow' (B := w1.heap.size) wr HBW.out.size kk os)⟩
              rw [bytes_num]
              simp [upto]
            case measure => simp [intOf]
          · have hix := idx5_3 (.int .i64 k) (.int .i64 u) (.int .i64 f) (.int .i64 0) (.int .i64 e) wr
            have hup := upto_length ⟨k, u, f, 0⟩ e HA.out HI64.out 3
            have hit := Lib.itoa_length_le 0 HA.out.to.1 HA.out.to.2
            go_wp2_with (go_at_call 23; refine (Tryd.strconv_Itoa _ HA.out.to.1 HA.out.to.2 _ HVR.out.pow).mono ?_; rintro ev w3 ⟨rfl, kk, os, rfl⟩)
            go_roundw
            case rel =>
              refine ⟨4, by omega, by go_num, ?_, HBW.out.trans (below_grow' (B := w1.heap.size) wr HBW.out.size kk os)⟩
              rw [bytes_num]
              simp [upto]
            case measure => simp [intOf]
          · have hix := idx5_4 (.int .i64 k) (.int .i64 u) (.int .i64 f) (.int .i64 0) (.int .i64 e) wr
            have hup := upto_length ⟨k, u, f, 0⟩ e HA.out HI64.out 4
            have hit := Lib.itoa_length_le e HI64.out.1 HI64.out.2
            go_wp2_with (go_at_call 23; refine (Tryd.strconv_Itoa _ HI64.out.1 HI64.out.2 _ HVR.out.pow).mono ?_; rintro ev w3 ⟨rfl, kk, os, rfl⟩)
            go_roundw
            case rel =>
              refine ⟨5, by omega, by go_num, ?_, HBW.out.trans (below_grow' (B := w1.heap.size) wr HBW.out.size kk os)⟩
              rw [bytes_num]
              simp [upto]
            case measure => simp [intOf]
        · obtain rfl : n = 5 := by omega
          rw [upto_five]
          have hbt := (bld_kept HT.out (bl_alloc (Below.refl _ _) _).drew HK1.out)
          have hbr : BAt wr B x.tb 1 54 #[.pointer (some ⟨x.m.mb, 0, none⟩), x.pv, x.bv, .int .i64 (t.many : Int), .int .i64 t.chain] x.pv x.bv t.text := hbt.same fun k hf => HBW.out.block k (hbt.foot_ge hf).2
          have d3 := hbr.blk.cell 3
          have d4 := hbr.blk.cell 4
          simp only [List.getElem?_toArray, List.getElem?_cons_succ, List.getElem?_cons_zero] at d3 d4
          have hlr := hbr.blk.lt
          have hfz := hbr.blk.frozen 4
          have hll := lineHead_length HA.out HI64.out
          have N1 := Lib.hid (fun w' => next_calls t.chain ⟨(lineHead ⟨k, u, f, 0⟩ e).toArray⟩ w' (by show (lineHead ⟨k, u, f, 0⟩ e).toArray.size < 2 ^ 62; simp; omega))
          have HBR := Lib.hid hbr
          have HLL := Lib.hid hll
          clear hbt hbr c0 c3 c4 a0 a1 a2 a3 l1 hll
          generalize hlh : lineHead ⟨k, u, f, 0⟩ e = lh at *
          have HLH := Lib.hid hlh
          clear hlh
          simp only [List.toList_toArray] at N1
          obtain ⟨ch, hch⟩ : ∃ ch, ch = link t.chain lh := ⟨_, rfl⟩
          rw [← hch] at N1
          have HCH := Lib.hid hch
          clear hch
          go_wp2_with (go_at_call 24; refine (N1.out _).mono ?_; rintro ev w4 ⟨rfl, hb4⟩; obtain ⟨q1, q2⟩ := bcell hb4; have z4 := hb4.size)
          have hb5 : BAt w4 B x.tb 1 54 #[.pointer (some ⟨x.m.mb, 0, none⟩), x.pv, x.bv, .int .i64 (t.many : Int), .int .i64 t.chain] x.pv x.bv t.text := HBR.out.same fun k hf => hb4.block k (HBR.out.foot_ge hf).2
          have hb5 := hb5.set_ 4 (.int .i64 ch) (by decide) (by decide)
          simp only [List.setIfInBounds_toArray, List.set_cons_zero, List.set_cons_succ] at hb5
          have hk5 : Kp (fun k => k = x.tb) wr (w4.setCell ⟨x.tb, 4, none⟩ (.int .i64 ch)) := Kp.setCell (F := fun k => k = x.tb) (p := ⟨x.tb, 4, none⟩) (Kp.of_below hb4) (.inl rfl) _
          have hv5 := HVR.out.kp hk5 (by rintro n _ rfl; exact Nat.le_trans hB HBR.out.base)
          clear q1 q2 z4 hb4 d3 d4 hlr hfz
          generalize w4.setCell ⟨x.tb, 4, none⟩ (.int .i64 ch) = w5 at *
          have e4 := hb5.blk.cell 4
          have e3 := hb5.blk.cell 3
          simp only [List.getElem?_toArray, List.getElem?_cons_succ, List.getElem?_cons_zero] at e3 e4
          have hl5 := hb5.blk.lt
          have hchr : in64 ch := by have := link_range t.chain lh; rw [← HCH.out] at this; unfold in64; omega
          have hll := HLL.out
          have hit := Lib.itoa_length_le ch hchr.1 hchr.2
          have HB5 := Lib.hid hb5
          have HK5 := Lib.hid hk5
          have HV5 := Lib.hid hv5
          have HCR := Lib.hid hchr
          have HTX := Lib.hid HT.out.ok.text
          clear hb5 hk5 hv5 hchr
          go_region_with
            (first
              | (go_at_call 23; refine (Tryd.strconv_Itoa _ HCR.out.1 HCR.out.2 _ ?_).mono ?_; (focus exact HV5.out.pow); rintro ev w6 ⟨rfl, kk, os, hw6⟩; have hb6 : Below w5.heap.size w5 w6 := by rw [hw6]; exact ((Below.refl w5.heap.size w5).drew).trans (below_grow' (B := w5.heap.size) w5.drew (Nat.le_refl _) kk os)
                 have h6 : w6.cell? ⟨x.tb, 4, none⟩ = some (.int .i64 ch) := (hb6.cell (p := ⟨x.tb, 4, none⟩) hl5).trans e4
                 clear hw6)
              | (go_at_call 25; refine (writeString_calls B x.tb 1 54 _ x.pv x.bv t.text _ _ (HB5.out.same fun k hf => hb6.block k (HB5.out.foot_ge hf).2) lies_trail ?_ ?_).mono ?_; (focus (have ht := HTX.out; simp only [ByteArray.size, ByteArray.data_append, Array.size_append, List.size_toArray]; simp; omega)); (focus (have hb := HB5.out.base; have hz := hb6.size; omega)); rintro ev w7 ⟨v', rfl, hb7, hk7, hv7⟩; have h7 := hb7.blk.cell 4))
          have f3 := hb7.blk.cell 3
          simp only [List.setIfInBounds_toArray, List.set_cons_zero, List.set_cons_succ, List.getElem?_toArray, List.getElem?_cons_succ, List.getElem?_cons_zero] at f3
          have hl7 := hb7.blk.lt
          have hfz7 := hb7.blk.frozen 3
          have FIN := Lib.hid (trail_fin (e := e) HT.out HM1.out (bl_alloc (Below.refl _ _) _).drew HK1.out HBW.out HK5.out hb6 hk7 hb7 hv7 HM.out HA.out HI64.out HLH.out HCH.out)
          clear hb7 hk7 hv7 hb6 h6 h7 e3 e4
          go_wp2
          go_ret
          obtain ⟨g1, g2, g3⟩ := FIN.out
          refine ⟨⟨x.tb, x.m, .pointer (some ⟨x.tb, 1, none⟩), v'⟩, rfl, rfl, ?_, g2, g3⟩
          first | exact g1 | (rw [if_neg HEE.out]; exact g1)
end Go.Proofs.YtpppfiagaiaggaaDoor
