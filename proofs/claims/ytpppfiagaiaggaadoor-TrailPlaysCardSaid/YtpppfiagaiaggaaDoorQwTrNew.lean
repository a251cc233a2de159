/- trail.New. -/
import Derived.Test.YtpppfiagaiaggaaDoorQwTr
namespace Go.Proofs.YtpppfiagaiaggaaDoor
open Go.RowKit Go.Shelf

theorem trail_at_new {w w1 : World} {us fs : List (Int × Int)} {m : MonV} (he : bellErr us fs = 0) (hm : MonAt w1 w.heap.size m (newBell us fs)) (hb : Below w.heap.size w w1) :
    TrailAt (w1.alloc (.cells #[.pointer (some ⟨m.mb, 0, none⟩), .pointer none, .slice none 0 0, .int .i64 0, .int .i64 0] 54)) w.heap.size ⟨w1.heap.size, m, .pointer none, .slice none 0 0⟩ (newTrail us fs) := by
  refine ⟨hm.alloc _, ⟨hb.size, ?_, by decide, rfl, rfl, .inl rfl, ⟨rfl, .inl ⟨rfl, rfl⟩⟩, fun _ => rfl⟩, newTrail_ok he, ?_⟩
  · exact Blk.new _ _ _
  · intro k hk hf
    have h2 := (hm.foot hf).2
    rcases hk with rfl | hk
    · exact absurd h2 (by simp)
    · simp [Value.ownBlock] at hk

set_option maxRecDepth 100000 in
theorem trailNew_err (A A' : Option Addr) (n c n' c' : Nat) (us fs : List (Int × Int)) (w : World) (h : LabsAt w w.heap.size A n us) (h' : LabsAt w w.heap.size A' n' fs) (he : bellErr us fs ≠ 0) (h4 : bellErr us fs = 1 ∨ bellErr us fs = 4) :
    Calls Tryd.prog 5 #[.slice A n c, .slice A' n' c'] w fun e w' => e = .returned (.tuple #[.pointer none, errV (bellErr us fs)]) ∧ Below w.heap.size w w' := by
  have C := Lib.hid (bellNew_err A A' n c n' c' us fs w h h' he)
  clear h h'
  rcases h4 with h4 | h4
  all_goals
    rw [h4] at C ⊢
    go_enter Tryd.func5, Tryd.ntmps5
    go_wp2_with fail
    refine C.out.mono ?_
    rintro e w1 ⟨rfl, hb⟩
    have HB := Lib.hid hb
    clear hb
    unfold errV
    go_wp2
    go_ret2
    exact ⟨rfl, HB.out⟩

set_option maxRecDepth 100000 in
theorem trailNew_ok (A A' : Option Addr) (n c n' c' : Nat) (us fs : List (Int × Int)) (w : World) (h : LabsAt w w.heap.size A n us) (h' : LabsAt w w.heap.size A' n' fs) (he : bellErr us fs = 0) :
    Calls Tryd.prog 5 #[.slice A n c, .slice A' n' c'] w fun e w' => ∃ x : TrV, e = .returned (.tuple #[.pointer (some ⟨x.tb, 0, none⟩), .nilIface]) ∧ TrailAt w' w.heap.size x (newTrail us fs) ∧ Below w.heap.size w w' := by
  have C := Lib.hid (bellNew_ok A A' n c n' c' us fs w h h' he)
  have HE := Lib.hid he
  clear h h' he
  go_enter Tryd.func5, Tryd.ntmps5
  go_wp2_with fail
  refine C.out.mono ?_
  rintro e w1 ⟨m, rfl, hm, hb⟩
  have HB := Lib.hid hb
  have HM := Lib.hid hm
  clear hb hm
  go_wp2
  go_ret2
  exact ⟨⟨w1.heap.size, m, .pointer none, .slice none 0 0⟩, rfl, trail_at_new HE.out HM.out HB.out, bl_alloc HB.out _⟩
end Go.Proofs.YtpppfiagaiaggaaDoor
