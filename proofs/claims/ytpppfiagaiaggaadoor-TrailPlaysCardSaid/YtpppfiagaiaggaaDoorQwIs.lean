/- errors.Is, asked for ErrRange. -/
import Derived.Test.YtpppfiagaiaggaaDoorQwErr
namespace Go.Proofs.YtpppfiagaiaggaaDoor
open Go.RowKit Go.Extern.Stop Go.Stop Go.Extern

/-! ### errors.Is, asked for ErrRange -/
theorem isMethodComparable (v : Value) (w : World) : (Go.method 265 104 v "Comparable").run Tryd.prog w = .ok (102, v) w := by kernel_rfl
theorem isCompCall (w : World) : (callFunc 102 #[.agg #[.pointer (some ⟨4, 55, none⟩)]]).run Tryd.prog w = .ok (.value (.bool true)) w := by kernel_rfl
theorem isTypeCall (v : Value) (w : World) : (callFunc 46 #[.iface 55 v]).run Tryd.prog w = .ok (.value (.iface 104 (.agg #[.pointer (some ⟨4, 55, none⟩)]))) w := by kernel_rfl
theorem isCompE : (Tryd.prog.info? 55).map (·.comparable) = some true := by kernel_rfl
theorem noIsE (v : Value) (xT : TypeId) (w : World) : (Instr.typeAssert (.iface 55 v) xT 106 true).run Tryd.prog w = .ok (.tuple #[.nilIface, .bool false]) w := run_typeAssert_lacksB Tryd.underlying106 (by kernel_rfl) (by kernel_rfl) v xT w
theorem noUnwrapE (v : Value) (xT : TypeId) (w : World) : (Instr.typeAssert (.iface 55 v) xT 109 true).run Tryd.prog w = .ok (.tuple #[.nilIface, .bool false]) w := run_typeAssert_lacksB Tryd.underlying109 (by kernel_rfl) (by kernel_rfl) v xT w
theorem noUnwrapsE (v : Value) (xT : TypeId) (w : World) : (Instr.typeAssert (.iface 55 v) xT 111 true).run Tryd.prog w = .ok (.tuple #[.nilIface, .bool false]) w := run_typeAssert_lacksB Tryd.underlying111 (by kernel_rfl) (by kernel_rfl) v xT w

set_option maxRecDepth 100000 in
set_option maxHeartbeats 2000000 in
theorem is_range (e : Int) (w : World) :
    Calls Tryd.prog 21 #[errV e, .iface 55 (.int .i64 1)] w fun ev w' => ev = .returned (.bool (e == 1)) ∧ w' = w := by
  by_cases he : e = 0
  · subst he
    rw [errV_zero]
    have hnl : ∀ w, (binOp .eql 31 .nilIface (.iface 55 (.int .i64 1))).run Tryd.prog w = .ok (.bool false) w := fun w => run_eql_iface_nil_left (P := Tryd.prog) w _ _ Tryd.underlying31
    go_enter Tryd.func21, Tryd.ntmps21
    go_wp2
    go_ret
    exact ⟨rfl, rfl⟩
  · rw [errV_pos he]
    clear he
    obtain ⟨i, hi, hcmp⟩ := Option.map_eq_some_iff.1 isCompE
    have tT := isTypeCall
    have cT := isCompCall
    have mR := isMethodComparable
    have n1 := noIsE
    have n2 := noUnwrapE
    have n3 := noUnwrapsE
    by_cases h1 : e = 1
    · subst h1
      have heq : ∀ w, (binOp .eql 31 (.iface 55 (.int .i64 1)) (.iface 55 (.int .i64 1))).run Tryd.prog w = .ok (.bool true) w := fun w => run_eql_iface_int (P := Tryd.prog) w 1 1 Tryd.underlying31 Tryd.underlying55 hi hcmp
      clear hi hcmp
      go_enter Tryd.func21, Tryd.ntmps21
      go_wp2
      refine wp_loop_rounds 1 ?_
      rw [rounds_succ]
      go_wp2
      go_ret
      exact ⟨rfl, rfl⟩
    · have hb : (e == 1) = false := by simp [h1]
      have heq : ∀ w, (binOp .eql 31 (.iface 55 (.int .i64 e)) (.iface 55 (.int .i64 1))).run Tryd.prog w = .ok (.bool false) w := fun w => by
        rw [run_eql_iface_int (P := Tryd.prog) w e 1 Tryd.underlying31 Tryd.underlying55 hi hcmp, hb]
      have HB := Lib.hid hb
      clear hi hcmp h1 hb
      go_enter Tryd.func21, Tryd.ntmps21
      go_wp2
      refine wp_loop_rounds 1 ?_
      rw [rounds_succ]
      go_wp2
      go_ret
      exact ⟨by rw [HB.out]; rfl, rfl⟩
end Go.Proofs.YtpppfiagaiaggaaDoor
