/- The trail in memory. -/
import Derived.Test.YtpppfiagaiaggaaDoorPureTrail
import Derived.Test.YtpppfiagaiaggaaDoorQwAsk
import Derived.Test.YtpppfiagaiaggaaDoorQwNext
import Derived.Test.YtpppfiagaiaggaaDoorQwIs
import Derived.Test.YtpppfiagaiaggaaDoorQwErr
import Derived.Test.YtpppfiagaiaggaaDoorQwBld
import Derived.Test.YtpppfiagaiaggaaDoorShelf
namespace Go.Proofs.YtpppfiagaiaggaaDoor
open Go.RowKit Go.Shelf

/-- The package variables that the walks read. -/
structure Env (w : World) : Prop where
  ng : 4 ≤ w.heap.size
  tz : TabAt 3 Lib.deBruijn64tab w
  pow : Lib.TabIs Tryd.prog w "internal/strconv.uint64pow10" .u64 Lib.pow10Tab
  typed : ErrTyped w

theorem pow_at : Tryd.prog.globalNamed "internal/strconv.uint64pow10" = some 1 := by kernel_rfl

theorem Env.below {w w' : World} (h : Env w) (hb : Below 4 w w') : Env w' := by
  have hc : ∀ g, g < 4 → ∀ j, w'.cell? ⟨g, j, none⟩ = w.cell? ⟨g, j, none⟩ := fun g hg j => hb.cell (p := ⟨g, j, none⟩) hg
  exact ⟨Nat.le_trans h.ng hb.size, fun j hj => (hc _ (by decide) j).trans (h.tz j hj), var?_below hb pow_at (by decide) h.pow, (hc _ (by decide) 0).trans h.typed⟩
theorem Env.bl {w w' : World} (h : Env w) (hb : Below w.heap.size w w') : Env w' := h.below (hb.mono h.ng)
theorem Env.tzs {w : World} (h : Env w) : 3 < w.heap.size ∧ TabAt 3 Lib.deBruijn64tab w := ⟨Nat.lt_of_lt_of_le (by decide) h.ng, h.tz⟩
theorem Env.kp {F : Nat → Prop} {w w' : World} (h : Env w) (hk : Kp F w w') (hF : ∀ n, n < w.heap.size → F n → 4 ≤ n) : Env w' := h.below (hk.below h.ng hF)

/-- Where a trail lies: its block, its monitor, its builder's two cells. -/
structure TrV where
  tb : Nat
  m : MonV
  pv : Value
  bv : Value

def TrV.foot (x : TrV) (k : Nat) : Prop := x.m.foot k ∨ bfoot x.tb x.bv k

structure TrailAt (w : World) (B : Nat) (x : TrV) (t : TrSt) : Prop where
  mon : MonAt w B x.m t.bell
  bld : BAt w B x.tb 1 54 #[.pointer (some ⟨x.m.mb, 0, none⟩), x.pv, x.bv, .int .i64 (t.many : Int), .int .i64 t.chain] x.pv x.bv t.text
  ok : TrOk t
  dj : ∀ k, bfoot x.tb x.bv k → ¬ x.m.foot k

theorem TrailAt.foot {w : World} {B : Nat} {x : TrV} {t : TrSt} (h : TrailAt w B x t) {k : Nat} (hk : x.foot k) : B ≤ k ∧ k < w.heap.size := by
  rcases hk with hk | hk
  · exact h.mon.foot hk
  · exact h.bld.foot_ge hk
theorem TrailAt.same {w w' : World} {B : Nat} {x : TrV} {t : TrSt} (h : TrailAt w B x t) (hk : ∀ k, x.foot k → w'.heap[k]? = w.heap[k]?) : TrailAt w' B x t :=
  ⟨h.mon.same fun k hf => hk k (.inl hf), h.bld.same fun k hf => hk k (.inr hf), h.ok, h.dj⟩
theorem TrailAt.below {w w' : World} {B : Nat} {x : TrV} {t : TrSt} (h : TrailAt w B x t) (hb : Below w.heap.size w w') : TrailAt w' B x t := h.same fun _ hk => hb.block _ (h.foot hk).2
theorem TrailAt.kp {F : Nat → Prop} {w w' : World} {B : Nat} {x : TrV} {t : TrSt} (h : TrailAt w B x t) (hb : Kp F w w') (hd : ∀ k, x.foot k → ¬ F k) : TrailAt w' B x t := h.same fun _ hk => hb.block _ (h.foot hk).2 (hd _ hk)

set_option maxRecDepth 100000 in
theorem trailText_calls (B : Nat) (x : TrV) (t : TrSt) (w : World) (h : TrailAt w B x t) :
    Calls Tryd.prog 9 #[.pointer (some ⟨x.tb, 0, none⟩)] w fun e w' => e = .returned (.string ⟨t.text.toArray⟩) ∧ TrailAt w' B x t ∧ Kp (bfoot x.tb x.bv) w w' := by
  have hlen := h.ok.text
  have hm := h.ok.many
  have HT := Lib.hid h
  have C := Lib.hid (bldString_calls B x.tb 1 _ _ x.pv x.bv t.text w h.bld (by omega))
  have hlt := h.bld.blk.lt
  clear h hlen
  go_enter Tryd.func9, Tryd.ntmps9
  go_wp2_with fail
  refine C.out.mono ?_
  rintro e w1 ⟨rfl, hB, hK⟩
  go_wp2
  go_ret
  exact ⟨rfl, ⟨HT.out.mon.same fun k hf => hK.block _ (HT.out.mon.foot hf).2 fun hb => HT.out.dj k hb hf, hB, HT.out.ok, HT.out.dj⟩, hK⟩
end Go.Proofs.YtpppfiagaiaggaaDoor
