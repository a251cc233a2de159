/- What a monitor tells of a user, of a file. -/
import Derived.Test.YtpppfiagaiaggaaDoorQwTrA
namespace Go.Proofs.YtpppfiagaiaggaaDoor
open Go.RowKit Go.Shelf

/-- What of a user is told: Reads. -/
def readsB (b : Bell) (i : Int) : Int := if 0 ≤ i ∧ i < b.users.length then ((b.reads.getD i.toNat 0 : Nat) : Int) else 0

set_option maxRecDepth 100000 in
theorem reads_calls (B : Nat) (m : MonV) (b : Bell) (i : Int) (w : World) (hM : MonAt w B m b) :
    Calls Tryd.prog 27 #[.pointer (some ⟨m.mb, 0, none⟩), .int .i64 i] w fun e w' => e = .returned (.int .i64 (readsB b i)) ∧ w' = w := by
  have h8 := hM.ok.users
  have f8 := hM.ok.files
  by_cases hi : 0 ≤ i ∧ i < b.users.length
  · have hv : readsB b i = ((b.reads.getD i.toNat 0 : Nat) : Int) := by unfold readsB; rw [if_pos hi]
    obtain ⟨i', rfl⟩ : ∃ n : Nat, i = n := ⟨i.toNat, (Int.toNat_of_nonneg hi.1).symm⟩
    simp only [Int.toNat_natCast] at hv
    have hi' : i' < b.users.length := by omega
    have hb := hM.blk
    obtain ⟨g, c, eg⟩ := own_at hM.reads (by omega)
    have ol := hM.reads
    rw [eg] at ol
    have c1 := ol.cellAt i' (by omega)
    rw [intsV_at _ hM.ok.readsL hi'] at c1
    obtain ⟨Au, cu, Af, cf, Ar, cr, Aw, cw, Ah, ch, e1, e2, e3, e4, e5, v0, v1, v2, v3, v4⟩ := hM.vals
    rw [eg] at e3
    cases e3
    have lm := hb.lt
    have HV := Lib.hid hv
    generalize b.reads.getD i' 0 = r at *
    clear hM hb ol eg hv
    go_enter Tryd.func27, Tryd.ntmps27
    go_wp2_with (go_at_call 40; refine (within_yes _ _ _ _ (by omega)).mono ?_; rintro e w1 ⟨rfl, rfl⟩)
    go_ret
    exact ⟨by rw [HV.out]; rfl, rfl⟩
  · have hv : readsB b i = 0 := by unfold readsB; rw [if_neg hi]
    obtain ⟨Au, cu, Af, cf, Ar, cr, Aw, cw, Ah, ch, e1, e2, e3, e4, e5, v0, v1, v2, v3, v4⟩ := hM.vals
    have lm := hM.blk.lt
    have HV := Lib.hid hv
    clear hM hv
    go_enter Tryd.func27, Tryd.ntmps27
    go_wp2_with (go_at_call 40; refine (within_no _ _ _ _ (by omega)).mono ?_; rintro e w1 ⟨rfl, rfl⟩)
    go_ret
    exact ⟨by rw [HV.out]; rfl, rfl⟩

/-- What of a user is told: Writes. -/
def writesB (b : Bell) (i : Int) : Int := if 0 ≤ i ∧ i < b.users.length then ((b.writes.getD i.toNat 0 : Nat) : Int) else 0

set_option maxRecDepth 100000 in
theorem writes_calls (B : Nat) (m : MonV) (b : Bell) (i : Int) (w : World) (hM : MonAt w B m b) :
    Calls Tryd.prog 28 #[.pointer (some ⟨m.mb, 0, none⟩), .int .i64 i] w fun e w' => e = .returned (.int .i64 (writesB b i)) ∧ w' = w := by
  have h8 := hM.ok.users
  have f8 := hM.ok.files
  by_cases hi : 0 ≤ i ∧ i < b.users.length
  · have hv : writesB b i = ((b.writes.getD i.toNat 0 : Nat) : Int) := by unfold writesB; rw [if_pos hi]
    obtain ⟨i', rfl⟩ : ∃ n : Nat, i = n := ⟨i.toNat, (Int.toNat_of_nonneg hi.1).symm⟩
    simp only [Int.toNat_natCast] at hv
    have hi' : i' < b.users.length := by omega
    have hb := hM.blk
    obtain ⟨g, c, eg⟩ := own_at hM.writes (by omega)
    have ol := hM.writes
    rw [eg] at ol
    have c1 := ol.cellAt i' (by omega)
    rw [intsV_at _ hM.ok.writesL hi'] at c1
    obtain ⟨Au, cu, Af, cf, Ar, cr, Aw, cw, Ah, ch, e1, e2, e3, e4, e5, v0, v1, v2, v3, v4⟩ := hM.vals
    rw [eg] at e4
    cases e4
    have lm := hb.lt
    have HV := Lib.hid hv
    generalize b.writes.getD i' 0 = r at *
    clear hM hb ol eg hv
    go_enter Tryd.func28, Tryd.ntmps28
    go_wp2_with (go_at_call 40; refine (within_yes _ _ _ _ (by omega)).mono ?_; rintro e w1 ⟨rfl, rfl⟩)
    go_ret
    exact ⟨by rw [HV.out]; rfl, rfl⟩
  · have hv : writesB b i = 0 := by unfold writesB; rw [if_neg hi]
    obtain ⟨Au, cu, Af, cf, Ar, cr, Aw, cw, Ah, ch, e1, e2, e3, e4, e5, v0, v1, v2, v3, v4⟩ := hM.vals
    have lm := hM.blk.lt
    have HV := Lib.hid hv
    clear hM hv
    go_enter Tryd.func28, Tryd.ntmps28
    go_wp2_with (go_at_call 40; refine (within_no _ _ _ _ (by omega)).mono ?_; rintro e w1 ⟨rfl, rfl⟩)
    go_ret
    exact ⟨by rw [HV.out]; rfl, rfl⟩

/-- What of a file is told: Holds. -/
def holdsB (b : Bell) (i : Int) : Int := if 0 ≤ i ∧ i < b.files.length then ((b.holds.getD i.toNat 0 : Nat) : Int) else 0

set_option maxRecDepth 100000 in
theorem holds_calls (B : Nat) (m : MonV) (b : Bell) (i : Int) (w : World) (hM : MonAt w B m b) :
    Calls Tryd.prog 29 #[.pointer (some ⟨m.mb, 0, none⟩), .int .i64 i] w fun e w' => e = .returned (.int .i64 (holdsB b i)) ∧ w' = w := by
  have h8 := hM.ok.users
  have f8 := hM.ok.files
  by_cases hi : 0 ≤ i ∧ i < b.files.length
  · have hv : holdsB b i = ((b.holds.getD i.toNat 0 : Nat) : Int) := by unfold holdsB; rw [if_pos hi]
    obtain ⟨i', rfl⟩ : ∃ n : Nat, i = n := ⟨i.toNat, (Int.toNat_of_nonneg hi.1).symm⟩
    simp only [Int.toNat_natCast] at hv
    have hi' : i' < b.files.length := by omega
    have hb := hM.blk
    obtain ⟨g, c, eg⟩ := own_at hM.holds (by omega)
    have ol := hM.holds
    rw [eg] at ol
    have c1 := ol.cellAt i' (by omega)
    rw [intsV_at _ hM.ok.holdsL hi'] at c1
    obtain ⟨Au, cu, Af, cf, Ar, cr, Aw, cw, Ah, ch, e1, e2, e3, e4, e5, v0, v1, v2, v3, v4⟩ := hM.vals
    rw [eg] at e5
    cases e5
    have lm := hb.lt
    have HV := Lib.hid hv
    generalize b.holds.getD i' 0 = r at *
    clear hM hb ol eg hv
    go_enter Tryd.func29, Tryd.ntmps29
    go_wp2_with (go_at_call 40; refine (within_yes _ _ _ _ (by omega)).mono ?_; rintro e w1 ⟨rfl, rfl⟩)
    go_ret
    exact ⟨by rw [HV.out]; rfl, rfl⟩
  · have hv : holdsB b i = 0 := by unfold holdsB; rw [if_neg hi]
    obtain ⟨Au, cu, Af, cf, Ar, cr, Aw, cw, Ah, ch, e1, e2, e3, e4, e5, v0, v1, v2, v3, v4⟩ := hM.vals
    have lm := hM.blk.lt
    have HV := Lib.hid hv
    clear hM hv
    go_enter Tryd.func29, Tryd.ntmps29
    go_wp2_with (go_at_call 40; refine (within_no _ _ _ _ (by omega)).mono ?_; rintro e w1 ⟨rfl, rfl⟩)
    go_ret
    exact ⟨by rw [HV.out]; rfl, rfl⟩

theorem trailReads_calls (B : Nat) (x : TrV) (t : TrSt) (i : Int) (w : World) (h : TrailAt w B x t) :
    Calls Tryd.prog 10 #[.pointer (some ⟨x.tb, 0, none⟩), .int .i64 i] w fun e w' => e = .returned (.int .i64 (readsB t.bell i)) ∧ w' = w := by
  have C := Lib.hid (reads_calls B x.m t.bell i w h.mon)
  have c0 := h.bld.blk.cell 0
  simp only [List.getElem?_toArray, List.getElem?_cons_zero] at c0
  have lt := h.bld.blk.lt
  clear h
  go_enter Tryd.func10, Tryd.ntmps10
  go_wp2_with (go_at_call 27; refine C.out.mono ?_; rintro e w1 ⟨rfl, rfl⟩)
  go_ret
  exact ⟨rfl, rfl⟩

theorem trailWrites_calls (B : Nat) (x : TrV) (t : TrSt) (i : Int) (w : World) (h : TrailAt w B x t) :
    Calls Tryd.prog 11 #[.pointer (some ⟨x.tb, 0, none⟩), .int .i64 i] w fun e w' => e = .returned (.int .i64 (writesB t.bell i)) ∧ w' = w := by
  have C := Lib.hid (writes_calls B x.m t.bell i w h.mon)
  have c0 := h.bld.blk.cell 0
  simp only [List.getElem?_toArray, List.getElem?_cons_zero] at c0
  have lt := h.bld.blk.lt
  clear h
  go_enter Tryd.func11, Tryd.ntmps11
  go_wp2_with (go_at_call 28; refine C.out.mono ?_; rintro e w1 ⟨rfl, rfl⟩)
  go_ret
  exact ⟨rfl, rfl⟩

theorem trailHolds_calls (B : Nat) (x : TrV) (t : TrSt) (i : Int) (w : World) (h : TrailAt w B x t) :
    Calls Tryd.prog 12 #[.pointer (some ⟨x.tb, 0, none⟩), .int .i64 i] w fun e w' => e = .returned (.int .i64 (holdsB t.bell i)) ∧ w' = w := by
  have C := Lib.hid (holds_calls B x.m t.bell i w h.mon)
  have c0 := h.bld.blk.cell 0
  simp only [List.getElem?_toArray, List.getElem?_cons_zero] at c0
  have lt := h.bld.blk.lt
  clear h
  go_enter Tryd.func12, Tryd.ntmps12
  go_wp2_with (go_at_call 29; refine C.out.mono ?_; rintro e w1 ⟨rfl, rfl⟩)
  go_ret
  exact ⟨rfl, rfl⟩
end Go.Proofs.YtpppfiagaiaggaaDoor
