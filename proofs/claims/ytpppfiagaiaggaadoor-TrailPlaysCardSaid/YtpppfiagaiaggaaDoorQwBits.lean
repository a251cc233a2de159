/- core.Bits: the iterator over the things of a small set; bell's all. -/
import Derived.RangeFuncNested
import Derived.RangeFuncBound
import Derived.RangeFuncCalls
import Derived.RangeFuncLeaves
import Derived.RangeFuncFrom
import Derived.Shelf.Abstract
import Derived.Shelf.RegionOpen
import Derived.WalkKit
import Derived.OwnWalkIn
import Derived.TacticsInMore
import Derived.LoopNIn
import Derived.LoopIn
import Derived.Test.YtpppfiagaiaggaaDoorQwNew
import Derived.Test.YtpppfiagaiaggaaDoorShelf
namespace Go.Proofs.YtpppfiagaiaggaaDoor
open Go.RowKit Go.Shelf
attribute [local go_sem] Oper.semAt_some

theorem cell_of_box_l {W : World} {B : Nat} {v : Value} {t : TypeId} (h : W.heap[B]? = some (.cells #[v] t (0, 0))) : W.cell? ⟨B, 0, none⟩ = some v ∧ W.frozen? ⟨B, 0, none⟩ = false := by
  constructor <;> simp [World.cell?, World.frozen?, h]
theorem cell_new_l (W : World) (v : Value) (t : TypeId) : (W.alloc (.cells #[v] t)).cell? ⟨W.heap.size, 0, none⟩ = some v ∧ (W.alloc (.cells #[v] t)).frozen? ⟨W.heap.size, 0, none⟩ = false :=
  cell_of_box_l (World.alloc_heap_new W _)
theorem cell_alloc_l {W : World} {a : Addr} {v : Value} (o : Obj) (h : W.cell? a = some v) : (W.alloc o).cell? a = some v := cell_kept h (World.grownBy_alloc W o none) (fun r e => by cases e)
theorem frozen_alloc_l {W : World} {a : Addr} {v : Value} (o : Obj) (h : W.cell? a = some v) (hf : W.frozen? a = false) : (W.alloc o).frozen? a = false := (frozen_kept h (World.grownBy_alloc W o none) (fun r e => by cases e)).trans hf

/-- The things of a set, rising. -/
def bitsL (s : Nat) : List Nat := (List.range 8).filter fun i => s.testBit i

theorem bitsL_step : ∀ r : Fin 256, r.val ≠ 0 → bitsL r.val = Lib.ctz 64 r.val :: bitsL (r.val &&& (r.val - 1)) ∧ (r.val &&& (r.val - 1)) < r.val := by decide +kernel

theorem bits_calls (F : Fence) (n : Nat) (hF : F.fn 59) (hro : F.round = none) (s : Int) (w : World) :
    CallsIn F n Tryd.prog 59 #[.int .i64 s] w fun e w' => e = .returned (.func (.func 66) #[] #[.pointer (some ⟨w.heap.size, 0, none⟩)]) ∧ w' = w.alloc (.cells #[.int .i64 s] 3) := by
  refine callsIn_of_wp Tryd.func59 rfl hF ?_ hro
  simp only [Tryd.ntmps59, List.size_toArray, List.length_cons, List.length_nil, Nat.reduceAdd, Nat.reduceSub, Array.replicate_succ, Array.replicate_zero, List.push_toArray, List.append_toArray, List.nil_append, List.cons_append]
  gi_wp2
  go_ret
  exact ⟨rfl, rfl⟩

theorem tz_calls (r : Nat) (hr : r < 18446744073709551616) (w : World) (hT : TabAt 3 Lib.deBruijn64tab w) :
    Calls Tryd.prog 67 #[.int .u64 r] w fun e w' => e = .returned (.int .i64 (Lib.ctz 64 r)) ∧ w' = w :=
  Any7.bits_TrailingZeros Tryd.lays7tz r hr w (fun _ => hT)

theorem u64_low (r : Nat) (h : 1 ≤ r) (hr : r < 4294967296) : bits .and .u64 (r : Int) ((r : Int) - 1) = ((r &&& (r - 1) : Nat) : Int) := by
  have e : (r : Int) - 1 = ((r - 1 : Nat) : Int) := by omega
  have hx : r &&& (r - 1) < 2 ^ 32 := Nat.and_lt_two_pow _ (by omega)
  rw [e]
  show IntKind.u64.wrap ((BitVec.ofInt 64 (r : Int) &&& BitVec.ofInt 64 ((r - 1 : Nat) : Int)).toNat : Int) = _
  rw [BitVec.toNat_and, Qw.ofInt64 r hr, Qw.ofInt64 (r - 1) (by omega), IntKind.wrap_u64]
  omega

set_option maxHeartbeats 1000000 in
theorem bits1_in (n : Nat) (hn : 1 ≤ n) (l Bn n₀ : Nat) (hg : 3 < n₀) (s : Nat) (hs : s < 256) (P : Nat → Prop) (hP : ∀ x ∈ bitsL s, P x) (J Jx : List { x : Nat // P x } → World → Prop)
    (hY : ∀ pre (x : { x : Nat // P x }) W, J pre W → pre.length < (bitsL s).length → YieldAt Fence.wide (n - 1) Tryd.prog l #[.int .i64 ((x.1 : Nat) : Int)] W fun e W' =>
      (e = .returned (.bool true) ∧ J (pre ++ [x]) W' ∧ Below n₀ W W') ∨ (e = .returned (.bool false) ∧ Jx (pre ++ [x]) W'))
    (W : World) (hBn : W.cell? ⟨Bn, 0, none⟩ = some (.int .i64 (s : Int))) (hT : TabAt 3 Lib.deBruijn64tab W) (h0 : J [] W) :
    CallsIn Fence.wide n Tryd.prog 66 #[.func (.yield l) #[] #[], .pointer (some ⟨Bn, 0, none⟩)] W fun e W' => (∃ v, e = .returned v) ∧
      ((∃ ys, ys.map (·.1) = bitsL s ∧ J ys W') ∨ (∃ pre, pre.map (·.1) <+: bitsL s ∧ Jx pre W')) := by
  refine callsIn_of_wp Tryd.func66 rfl trivial ?_ rfl
  simp only [Tryd.ntmps66, List.size_toArray, List.length_cons, List.length_nil, Nat.reduceAdd, Nat.reduceSub, Array.replicate_succ, Array.replicate_zero, List.push_toArray, List.append_toArray, List.nil_append, List.cons_append]
  have hw : IntKind.u64.wrap (s : Int) = (s : Int) := by rw [IntKind.wrap_u64]; omega
  gi_wp2
  gi_loopw [3] (fun p wr => ∃ (pre : List { x : Nat // P x }) (r : Nat), p = .int .u64 (r : Int) ∧ r < 256 ∧ bitsL s = pre.map (·.1) ++ bitsL r ∧ J pre wr ∧ TabAt 3 Lib.deBruijn64tab wr)
    (fun p _ => (intOf p).toNat)
  case atStart =>
    exact ⟨[], s, rfl, hs, rfl, h0, hT⟩
  case round =>
    obtain ⟨pre, r, rfl, hr, hx, hJs, hTs⟩ := hrel
    by_cases hz : r = 0
    · subst hz
      have hx' : bitsL s = pre.map (·.1) := by rw [hx]; simp [bitsL]
      have HX := Lib.hid hx'
      clear hx hx' hw
      gi_wp2
      go_end0
      exact ⟨⟨_, rfl⟩, .inl ⟨pre, HX.out.symm, hJs⟩⟩
    · obtain ⟨hb, hlt⟩ := bitsL_step ⟨r, hr⟩ hz
      simp only [] at hb hlt
      have hlen : pre.length < (bitsL s).length := by rw [hx, hb]; simp
      have hPx : P (Lib.ctz 64 r) := hP _ (by rw [hx, hb]; simp)
      obtain ⟨fn, tmps, assign, body, hy, hR⟩ := hY pre ⟨Lib.ctz 64 r, hPx⟩ wr hJs hlen
      dsimp only at hy
      have HX := Lib.hid hx
      have HB := Lib.hid hb
      have HTS := Lib.hid hTs
      clear hx hb hTs hT hw hP
      gi_wp2_with (refine ⟨trivial, ?_⟩; gi_at_call 67; refine (callsIn_wide.2 (tz_calls r (by omega) _ HTS.out)).mono ?_; rintro e w' ⟨rfl, rfl⟩)
      refine hR.mono ?_
      rintro e W3 (⟨rfl, hJ3, hk3⟩ | ⟨rfl, hJx3⟩)
      · have hTS3 : TabAt 3 Lib.deBruijn64tab W3 := fun j hj => (hk3.cell (p := ⟨3, j, none⟩) hg).trans (HTS.out j hj)
        have HT3 := Lib.hid hTS3
        have hpos : 1 ≤ r := by omega
        clear hTS3 hY hR hy hk3 hJs h0
        gi_wp2
        rw [u64_low r (by omega) (by omega)]
        go_roundw
        case rel => exact ⟨pre ++ [⟨Lib.ctz 64 r, hPx⟩], r &&& (r - 1), rfl, by omega, by rw [HX.out, HB.out]; simp, hJ3, HT3.out⟩
        case measure => simp [intOf]; omega
      · clear hY hR hy hJs h0
        gi_wp2
        refine bodyPost_ret (results_none rfl _ _ _) rfl ?_
        exact ⟨⟨_, rfl⟩, .inr ⟨pre ++ [⟨Lib.ctz 64 r, hPx⟩], ⟨bitsL (r &&& (r - 1)), by rw [HX.out, HB.out]; simp⟩, hJx3⟩⟩

/-- The iterator over a small set: all of its things, rising; or a beginning of them, where a round has said 'no more'. -/
theorem bits_stops (n : Nat) (hn : 1 ≤ n) (Bn n₀ : Nat) (hg : 3 < n₀) (s : Nat) (hs : s < 256) (P : Nat → Prop) (hP : ∀ x ∈ bitsL s, P x) (w : World) (hBn : Bn < w.heap.size) (hn₀ : n₀ ≤ w.heap.size)
    (hc : w.cell? ⟨Bn, 0, none⟩ = some (.int .i64 (s : Int))) (hT : TabAt 3 Lib.deBruijn64tab w) :
    SeqStopsK Fence.wide n Tryd.prog 66 #[.pointer (some ⟨Bn, 0, none⟩)] (fun x : { x : Nat // P x } => #[Value.int .i64 ((x.1 : Nat) : Int)]) (Below n₀) (fun ys => ys.map (·.1) = bitsL s) (fun pre => pre.map (·.1) <+: bitsL s) (bitsL s).length w := fun l J Jx W hW _ _ hY h0 =>
  bits1_in n hn l Bn n₀ hg s hs P hP J Jx hY W ((hW.cell (p := ⟨Bn, 0, none⟩) hBn).trans hc) (fun j hj => (hW.cell (p := ⟨3, j, none⟩) (by show 3 < _; omega)).trans (hT j hj)) h0
end Go.Proofs.YtpppfiagaiaggaaDoor
