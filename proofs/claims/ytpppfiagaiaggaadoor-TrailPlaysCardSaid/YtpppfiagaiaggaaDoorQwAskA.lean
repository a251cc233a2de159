/- The monitor is asked: what is out of range. -/
import Derived.Test.YtpppfiagaiaggaaDoorQwAll
import Derived.Deep.QuietTactic
import Derived.BigQuiet
namespace Go.Proofs.YtpppfiagaiaggaaDoor
open Go.RowKit Go.Shelf

theorem within_yes (n a b : Int) (w : World) (h : a ≤ n ∧ n ≤ b) :
    Calls Tryd.prog 40 #[.int .i64 n, .int .i64 a, .int .i64 b] w fun e w' => e = .returned (.bool true) ∧ w' = w :=
  (within_calls n a b w).mono fun e w' ⟨he, hw⟩ => ⟨by rw [he, decide_eq_true h.1, decide_eq_true h.2]; rfl, hw.symm⟩
theorem within_no (n a b : Int) (w : World) (h : ¬ (a ≤ n ∧ n ≤ b)) :
    Calls Tryd.prog 40 #[.int .i64 n, .int .i64 a, .int .i64 b] w fun e w' => e = .returned (.bool false) ∧ w' = w :=
  (within_calls n a b w).mono fun e w' ⟨he, hw⟩ => ⟨by
    rw [he]
    by_cases h1 : a ≤ n
    · rw [decide_eq_true h1, decide_eq_false (fun h2 => h ⟨h1, h2⟩)]; rfl
    · rw [decide_eq_false h1]; rfl, hw.symm⟩

theorem bl_drewN {w x : World} (h : Below w.heap.size w x) (n : Nat) : Below w.heap.size w (x.drewN n) := ⟨h.os, h.tape, h.output, h.size, h.block⟩

/-- What a walk reads of a monitor's block. -/
theorem MonAt.vals {w : World} {B : Nat} {m : MonV} {b : Bell} (hM : MonAt w B m b) : ∃ Au cu Af cf Ar cr Aw cw Ah ch,
    m.vu = .slice Au b.users.length cu ∧ m.vf = .slice Af b.files.length cf ∧ m.vr = .slice Ar b.users.length cr ∧ m.vw = .slice Aw b.users.length cw ∧ m.vh = .slice Ah b.files.length ch ∧
    w.cell? ⟨m.mb, 0, none⟩ = some (.slice Au b.users.length cu) ∧ w.cell? ⟨m.mb, 1, none⟩ = some (.slice Af b.files.length cf) ∧ w.cell? ⟨m.mb, 2, none⟩ = some (.slice Ar b.users.length cr) ∧
    w.cell? ⟨m.mb, 3, none⟩ = some (.slice Aw b.users.length cw) ∧ w.cell? ⟨m.mb, 4, none⟩ = some (.slice Ah b.files.length ch) := by
  obtain ⟨Au, cu, hu⟩ := ownsRow_slice hM.users
  obtain ⟨Af, cf, hf⟩ := ownsRow_slice hM.files
  obtain ⟨Ar, cr, hr⟩ := ownsRow_slice hM.reads
  obtain ⟨Aw, cw, hw⟩ := ownsRow_slice hM.writes
  obtain ⟨Ah, ch, hh⟩ := ownsRow_slice hM.holds
  have hb := hM.blk
  refine ⟨Au, cu, Af, cf, Ar, cr, Aw, cw, Ah, ch, hu, hf, hr, hw, hh, ?_, ?_, ?_, ?_, ?_⟩
  · rw [hb.cell 0]; simp [hu]
  · rw [hb.cell 1]; simp [hf]
  · rw [hb.cell 2]; simp [hr]
  · rw [hb.cell 3]; simp [hw]
  · rw [hb.cell 4]; simp [hh]

set_option maxRecDepth 100000 in
theorem ask_kind (k u f t : Int) (mb : Nat) (w : World) (hk : ¬ (0 ≤ k ∧ k ≤ 3)) :
    Calls Tryd.prog 20 #[.pointer (some ⟨mb, 0, none⟩), .agg #[.int .i64 k, .int .i64 u, .int .i64 f, .int .i64 t]] w fun e w' => e = .returned (errV 1) ∧ Below w.heap.size w w' := by
  go_enter Tryd.func20, Tryd.ntmps20
  go_wp2_with fail
  go_quiet ((go_at_call 40; exact Calls.quiet_of_same (within_no _ _ _ _ (by omega))))
  go_wp2
  go_ret
  exact ⟨rfl, bl_drewN (bl_alloc (Below.refl _ _) _) _⟩

set_option maxRecDepth 100000 in
set_option maxHeartbeats 400000 in
theorem ask_user (k u f t : Int) (mb : Nat) (A : Option Addr) (n c : Nat) (w : World) (hk : 0 ≤ k ∧ k ≤ 3) (hu : ¬ (0 ≤ u ∧ u ≤ (n : Int) - 1)) (hn : n ≤ 8) (h0 : w.cell? ⟨mb, 0, none⟩ = some (.slice A n c)) (hl : mb < w.heap.size) :
    Calls Tryd.prog 20 #[.pointer (some ⟨mb, 0, none⟩), .agg #[.int .i64 k, .int .i64 u, .int .i64 f, .int .i64 t]] w fun e w' => e = .returned (errV 1) ∧ Below w.heap.size w w' := by
  obtain ⟨hk0, hk3⟩ := hk
  go_enter Tryd.func20, Tryd.ntmps20
  go_wp2_with fail
  go_quiet ((go_at_call 40; first | exact Calls.quiet_of_same (within_yes _ _ _ _ (by omega)) | exact Calls.quiet_of_same (within_no _ _ _ _ (by omega))))
  go_wp2
  go_ret
  exact ⟨rfl, bl_drewN (bl_alloc (Below.refl _ _) _) _⟩

set_option maxRecDepth 100000 in
set_option maxHeartbeats 400000 in
theorem ask_file (k u f t : Int) (mb : Nat) (A A' : Option Addr) (n c n' c' : Nat) (w : World) (hk : 0 ≤ k ∧ k ≤ 3) (hu : 0 ≤ u ∧ u ≤ (n : Int) - 1) (hf : ¬ (0 ≤ f ∧ f ≤ (n' : Int) - 1)) (hn : n ≤ 8) (hn' : n' ≤ 8) (h0 : w.cell? ⟨mb, 0, none⟩ = some (.slice A n c)) (h1 : w.cell? ⟨mb, 1, none⟩ = some (.slice A' n' c')) (hl : mb < w.heap.size) :
    Calls Tryd.prog 20 #[.pointer (some ⟨mb, 0, none⟩), .agg #[.int .i64 k, .int .i64 u, .int .i64 f, .int .i64 t]] w fun e w' => e = .returned (errV 1) ∧ Below w.heap.size w w' := by
  obtain ⟨hk0, hk3⟩ := hk
  obtain ⟨hu0, hu3⟩ := hu
  go_enter Tryd.func20, Tryd.ntmps20
  go_wp2_with fail
  go_quiet ((go_at_call 40; first | exact Calls.quiet_of_same (within_yes _ _ _ _ (by omega)) | exact Calls.quiet_of_same (within_no _ _ _ _ (by omega))))
  go_wp2
  go_ret
  exact ⟨rfl, bl_drewN (bl_alloc (Below.refl _ _) _) _⟩

set_option maxRecDepth 100000 in
set_option maxHeartbeats 400000 in
theorem ask_to (u f t : Int) (mb : Nat) (A A' : Option Addr) (n c n' c' : Nat) (w : World) (hu : 0 ≤ u ∧ u ≤ (n : Int) - 1) (hf : 0 ≤ f ∧ f ≤ (n' : Int) - 1) (ht : ¬ (0 ≤ t ∧ t ≤ (n' : Int) - 1)) (hn : n ≤ 8) (hn' : n' ≤ 8) (h0 : w.cell? ⟨mb, 0, none⟩ = some (.slice A n c)) (h1 : w.cell? ⟨mb, 1, none⟩ = some (.slice A' n' c')) (hl : mb < w.heap.size) :
    Calls Tryd.prog 20 #[.pointer (some ⟨mb, 0, none⟩), .agg #[.int .i64 3, .int .i64 u, .int .i64 f, .int .i64 t]] w fun e w' => e = .returned (errV 1) ∧ Below w.heap.size w w' := by
  obtain ⟨hu0, hu3⟩ := hu
  obtain ⟨hf0, hf3⟩ := hf
  go_enter Tryd.func20, Tryd.ntmps20
  go_wp2_with fail
  go_quiet ((go_at_call 40; first | exact Calls.quiet_of_same (within_yes _ _ _ _ (by omega)) | exact Calls.quiet_of_same (within_no _ _ _ _ (by omega))))
  go_wp2_with fail
  go_quiet ((go_at_call 40; exact quiet_add_same (within_no _ _ _ _ (by omega))))
  go_wp2
  go_ret
  exact ⟨rfl, bl_drewN (bl_alloc (Below.refl _ _) _) _⟩

/-- A monitor's five slices, where there are users and files: their blocks, and what each cell holds. -/
structure MonRd (w : World) (m : MonV) (b : Bell) (gu cu gf cf gr cr gw cw gh ch : Nat) : Prop where
  lm : m.mb < w.heap.size
  lf : gf < w.heap.size
  v0 : w.cell? ⟨m.mb, 0, none⟩ = some (.slice (some ⟨gu, 0, none⟩) b.users.length cu)
  v1 : w.cell? ⟨m.mb, 1, none⟩ = some (.slice (some ⟨gf, 0, none⟩) b.files.length cf)
  v2 : w.cell? ⟨m.mb, 2, none⟩ = some (.slice (some ⟨gr, 0, none⟩) b.users.length cr)
  v3 : w.cell? ⟨m.mb, 3, none⟩ = some (.slice (some ⟨gw, 0, none⟩) b.users.length cw)
  v4 : w.cell? ⟨m.mb, 4, none⟩ = some (.slice (some ⟨gh, 0, none⟩) b.files.length ch)
  users : ∀ i, (h : i < b.users.length) → w.cell? ⟨gu, i * 2, none⟩ = some (.int .i64 b.users[i].1) ∧ w.cell? ⟨gu, i * 2 + 1, none⟩ = some (.int .i64 b.users[i].2)
  files : ∀ i, (h : i < b.files.length) → w.cell? ⟨gf, i * 2, none⟩ = some (.int .i64 b.files[i].1) ∧ w.cell? ⟨gf, i * 2 + 1, none⟩ = some (.int .i64 b.files[i].2)
  reads : ∀ i, i < b.users.length → w.cell? ⟨gr, i, none⟩ = some (.int .i64 ((b.reads.getD i 0 : Nat) : Int))
  writes : ∀ i, i < b.users.length → w.cell? ⟨gw, i, none⟩ = some (.int .i64 ((b.writes.getD i 0 : Nat) : Int))
  holds : ∀ i, i < b.files.length → w.cell? ⟨gh, i, none⟩ = some (.int .i64 ((b.holds.getD i 0 : Nat) : Int))
  fr : ∀ i, w.frozen? ⟨gr, i, none⟩ = false
  fw : ∀ i, w.frozen? ⟨gw, i, none⟩ = false
  fh : ∀ i, w.frozen? ⟨gh, i, none⟩ = false
  rm : gr ≠ m.mb ∧ m.mb ≠ gr
  wm : gw ≠ m.mb ∧ m.mb ≠ gw
  hm : gh ≠ m.mb ∧ m.mb ≠ gh
  rw : gr ≠ gw ∧ gw ≠ gr
  ev : m.vr = .slice (some ⟨gr, 0, none⟩) b.users.length cr ∧ m.vw = .slice (some ⟨gw, 0, none⟩) b.users.length cw ∧ m.vh = .slice (some ⟨gh, 0, none⟩) b.files.length ch

theorem own_at {w : World} {B : Nat} {e : TypeId} {size n : Nat} {v : Value} {xs : List Value} (h : w.ownsRow B e size v n xs) (hn : 0 < n) : ∃ g c, v = .slice (some ⟨g, 0, none⟩) n c := by
  rcases h.2 with ⟨_, h0⟩ | ⟨g, cap, cur, rfl, _⟩
  · omega
  · exact ⟨g, cap, rfl⟩

theorem intsV_at (l : List Nat) {i n : Nat} (hl : l.length = n) (hi : i < n) : (intsV l)[i]? = some (.int .i64 ((l.getD i 0 : Nat) : Int)) := by
  have h : i < l.length := by omega
  simp [intsV, List.getElem?_map, List.getElem?_eq_getElem h, List.getD_eq_getElem?_getD]

theorem MonAt.rd {w : World} {B : Nat} {m : MonV} {b : Bell} (hM : MonAt w B m b) (hu : 0 < b.users.length) (hf : 0 < b.files.length) : ∃ gu cu gf cf gr cr gw cw gh ch,
    m.vu = .slice (some ⟨gu, 0, none⟩) b.users.length cu ∧ m.vf = .slice (some ⟨gf, 0, none⟩) b.files.length cf ∧ m.vr = .slice (some ⟨gr, 0, none⟩) b.users.length cr ∧ m.vw = .slice (some ⟨gw, 0, none⟩) b.users.length cw ∧ m.vh = .slice (some ⟨gh, 0, none⟩) b.files.length ch ∧
    MonRd w m b gu cu gf cf gr cr gw cw gh ch := by
  obtain ⟨gu, cu, eu⟩ := own_at hM.users hu
  obtain ⟨gf, cf, ef⟩ := own_at hM.files hf
  obtain ⟨gr, cr, er⟩ := own_at hM.reads hu
  obtain ⟨gw, cw, ew⟩ := own_at hM.writes hu
  obtain ⟨gh, ch, eh⟩ := own_at hM.holds hf
  have o1 := hM.users; have o2 := hM.files; have o3 := hM.reads; have o4 := hM.writes; have o5 := hM.holds
  rw [eu] at o1; rw [ef] at o2; rw [er] at o3; rw [ew] at o4; rw [eh] at o5
  have hb := hM.blk
  refine ⟨gu, cu, gf, cf, gr, cr, gw, cw, gh, ch, eu, ef, er, ew, eh, hb.lt, (ownsRow_block o2 (by rfl)).2, ?_, ?_, ?_, ?_, ?_, fun i hi => ?_, fun i hi => ?_, fun i hi => ?_, fun i hi => ?_, fun i hi => ?_, fun i => o3.frozenAt i, fun i => o4.frozenAt i, fun i => o5.frozenAt i, ?_, ?_, ?_, ?_, er, ew, eh⟩
  · rw [hb.cell 0]; simp [eu]
  · rw [hb.cell 1]; simp [ef]
  · rw [hb.cell 2]; simp [er]
  · rw [hb.cell 3]; simp [ew]
  · rw [hb.cell 4]; simp [eh]
  · obtain ⟨h1, h2⟩ := labCells_at b.users i hi
    rw [o1.cellAt _ (by omega), o1.cellAt _ (by omega), h1, h2]; exact ⟨rfl, rfl⟩
  · obtain ⟨h1, h2⟩ := labCells_at b.files i hi
    rw [o2.cellAt _ (by omega), o2.cellAt _ (by omega), h1, h2]; exact ⟨rfl, rfl⟩
  · rw [o3.cellAt _ (by omega), intsV_at _ hM.ok.readsL hi]
  · rw [o4.cellAt _ (by omega), intsV_at _ hM.ok.writesL hi]
  · rw [o5.cellAt _ (by omega), intsV_at _ hM.ok.holdsL hi]
  · have : gr ≠ m.mb := by simpa [Value.ownBlock] using own_blk_ne o3 hb (by decide)
    exact ⟨this, this.symm⟩
  · have : gw ≠ m.mb := by simpa [Value.ownBlock] using own_blk_ne o4 hb (by decide)
    exact ⟨this, this.symm⟩
  · have : gh ≠ m.mb := by simpa [Value.ownBlock] using own_blk_ne o5 hb (by decide)
    exact ⟨this, this.symm⟩
  · have : gw ≠ gr := by simpa [er, ew, Value.ownBlock] using hM.rw_ gr (by rw [er]; rfl)
    exact ⟨this.symm, this⟩

/-! ### A monitor under the steps of a walk -/
theorem MonAt.drewN {w : World} {B : Nat} {m : MonV} {b : Bell} (h : MonAt w B m b) (n : Nat) : MonAt (w.drewN n) B m b := h.same fun _ _ => rfl
theorem MonAt.drew {w : World} {B : Nat} {m : MonV} {b : Bell} (h : MonAt w B m b) : MonAt w.drew B m b := h.same fun _ _ => rfl
theorem MonAt.alloc {w : World} {B : Nat} {m : MonV} {b : Bell} (h : MonAt w B m b) (o : Obj) : MonAt (w.alloc o) B m b := h.same fun k hk => Below.heap_alloc w o k (h.foot hk).2
theorem intsV_set (l : List Nat) (i v : Nat) : intsV (l.set i v) = (intsV l).set i (.int .i64 (v : Int)) := by simp [intsV, List.map_set]

theorem MonAt.setR {w : World} {B : Nat} {m : MonV} {b : Bell} (h : MonAt w B m b) {gr cr : Nat} (e : m.vr = .slice (some ⟨gr, 0, none⟩) b.users.length cr) (i v : Nat) (ok : BellOk { b with reads := b.reads.set i v }) :
    MonAt (w.setCell ⟨gr, i, none⟩ (.int .i64 (v : Int))) B m { b with reads := b.reads.set i v } := by
  have o3 := h.reads
  have hx : ∀ k, m.vr.ownBlock = some k → k = gr := by rw [e]; simp [Value.ownBlock]
  have hgm : m.mb ≠ gr := by
    have := own_blk_ne o3 h.blk (by decide)
    rw [e] at this; simp [Value.ownBlock] at this; exact fun h => this h.symm
  refine ⟨ok, h.base, h.blk.far hgm _, ownsRow_setCell_other h.users (ownsRow_ne o3 h.users (by decide) (by rw [e]; rfl)) _, ownsRow_setCell_other h.files (ownsRow_ne o3 h.files (by decide) (by rw [e]; rfl)) _, ?_, ownsRow_setCell_other h.writes (h.rw_ gr (by rw [e]; rfl)) _, ownsRow_setCell_other h.holds (h.rh gr (by rw [e]; rfl)) _, h.rw_, h.rh, h.wh⟩
  rw [e] at o3 ⊢
  rw [intsV_set]
  exact (o3.stored i _).1
theorem MonAt.setW {w : World} {B : Nat} {m : MonV} {b : Bell} (h : MonAt w B m b) {gw cw : Nat} (e : m.vw = .slice (some ⟨gw, 0, none⟩) b.users.length cw) (i v : Nat) (ok : BellOk { b with writes := b.writes.set i v }) :
    MonAt (w.setCell ⟨gw, i, none⟩ (.int .i64 (v : Int))) B m { b with writes := b.writes.set i v } := by
  have o3 := h.writes
  have hgm : m.mb ≠ gw := by
    have := own_blk_ne o3 h.blk (by decide)
    rw [e] at this; simp [Value.ownBlock] at this; exact fun h => this h.symm
  refine ⟨ok, h.base, h.blk.far hgm _, ownsRow_setCell_other h.users (ownsRow_ne o3 h.users (by decide) (by rw [e]; rfl)) _, ownsRow_setCell_other h.files (ownsRow_ne o3 h.files (by decide) (by rw [e]; rfl)) _, ownsRow_setCell_other h.reads (fun hk => h.rw_ gw hk (by rw [e]; rfl)) _, ?_, ownsRow_setCell_other h.holds (h.wh gw (by rw [e]; rfl)) _, h.rw_, h.rh, h.wh⟩
  rw [e] at o3 ⊢
  rw [intsV_set]
  exact (o3.stored i _).1
theorem MonAt.setH {w : World} {B : Nat} {m : MonV} {b : Bell} (h : MonAt w B m b) {gh ch : Nat} (e : m.vh = .slice (some ⟨gh, 0, none⟩) b.files.length ch) (i v : Nat) (ok : BellOk { b with holds := b.holds.set i v }) :
    MonAt (w.setCell ⟨gh, i, none⟩ (.int .i64 (v : Int))) B m { b with holds := b.holds.set i v } := by
  have o3 := h.holds
  have hgm : m.mb ≠ gh := by
    have := own_blk_ne o3 h.blk (by decide)
    rw [e] at this; simp [Value.ownBlock] at this; exact fun h => this h.symm
  refine ⟨ok, h.base, h.blk.far hgm _, ownsRow_setCell_other h.users (ownsRow_ne o3 h.users (by decide) (by rw [e]; rfl)) _, ownsRow_setCell_other h.files (ownsRow_ne o3 h.files (by decide) (by rw [e]; rfl)) _, ownsRow_setCell_other h.reads (fun hk => h.rh gh hk (by rw [e]; rfl)) _, ownsRow_setCell_other h.writes (fun hk => h.wh gh hk (by rw [e]; rfl)) _, ?_, h.rw_, h.rh, h.wh⟩
  rw [e] at o3 ⊢
  rw [intsV_set]
  exact (o3.stored i _).1

theorem Kp.drewN {F : Nat → Prop} {a w : World} (h : Kp F a w) (n : Nat) : Kp F a (w.drewN n) := ⟨h.os, h.tape, h.output, h.size, h.block⟩
end Go.Proofs.YtpppfiagaiaggaaDoor
