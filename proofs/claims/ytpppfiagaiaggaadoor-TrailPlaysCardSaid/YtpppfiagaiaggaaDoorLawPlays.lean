/- TrailPlays: the law's walk. -/
import Derived.Test.YtpppfiagaiaggaaDoorRefTrA
import Derived.Test.YtpppfiagaiaggaaDoorQwAsks
namespace Go.Proofs.YtpppfiagaiaggaaDoor
open Go.RowKit Go.Shelf

set_option maxRecDepth 100000 in
set_option maxHeartbeats 1000000 in
theorem plays_err (A A' A2 : Option Addr) (n c n' c' n2 c2 : Nat) (us fs : List (Int × Int)) (w : World) (h : LabsAt w w.heap.size A n us) (h' : LabsAt w w.heap.size A' n' fs) (hE : Env w) (he : bellErr us fs ≠ 0) :
    Calls Tryd.prog 3 #[.slice A n c, .slice A' n' c', .slice A2 n2 c2] w fun e w' => e = .returned (.bool true) ∧ Below w.heap.size w w' := by
  have h4 := bellErr_bad he
  have C1 := Lib.hid (refNewBell_err A A' n c n' c' us fs w h h' he)
  have C2 := Lib.hid (fun (W : World) (hb : Below w.heap.size w W) => trailNew_err A A' n c n' c' us fs W ⟨h.1, h.2.1, (h.2.2.below hb).more hb.size⟩ ⟨h'.1, h'.2.1, (h'.2.2.below hb).more hb.size⟩ he h4)
  have C3 := Lib.hid (fun (W : World) (hb : Below w.heap.size w W) => sameError_calls (bellErr us fs) (bellErr us fs) W (hE.bl hb).typed)
  have hne : (bellErr us fs != 0) = true := by simp [he]
  clear h h' he h4 hE
  generalize bellErr us fs = q at *
  go_enter Tryd.func3, Tryd.ntmps3
  go_wp2_with fail
  refine C1.out.mono ?_
  rintro e w1 ⟨rfl, hb1⟩
  go_wp2_with fail
  refine (C2.out _ (bl_alloc hb1 _)).mono ?_
  rintro e w2 ⟨rfl, hb2⟩
  have hb3 := bl_trans (bl_alloc hb1 _) hb2
  go_wp2_with fail
  refine (C3.out _ hb3).mono ?_
  rintro e w3 ⟨rfl, hb4⟩
  have HB := Lib.hid (bl_trans hb3 hb4)
  clear hb1 hb2 hb3 hb4
  go_wp2
  go_ret
  exact ⟨ret_bool (by simp), HB.out⟩
end Go.Proofs.YtpppfiagaiaggaaDoor
