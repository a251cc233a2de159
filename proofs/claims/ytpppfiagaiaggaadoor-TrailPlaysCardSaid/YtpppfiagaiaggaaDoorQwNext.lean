/- trail.next. -/
import Derived.Test.YtpppfiagaiaggaaDoorQwBase
import Derived.Test.YtpppfiagaiaggaaDoorPureLink
import Derived.Laws.IdiomStrings
import Derived.LoopIn
namespace Go.Proofs.YtpppfiagaiaggaaDoor
open Go.RowKit

set_option maxRecDepth 100000 in
theorem next_calls (chain : Int) (s : ByteArray) (w : World) (hs : s.size < 2 ^ 62) :
    Calls Tryd.prog 24 #[.int .i64 chain, .string s] w fun e w' => e = .returned (.int .i64 (link chain s.data.toList)) ∧ Below w.heap.size w w' := by
  have hconv := run_bytes_of_string (P := Tryd.prog) w 9 50 5 s Tryd.underlying9 Tryd.underlying50 Tryd.underlying5
  have hrow := fun j (hj : j < s.data.size) => bytesRow_at s (grownCap w s.size 0 5) j hj
  generalize bytesRow s (grownCap w s.size 0 5) = C at *
  generalize grownCap w s.size 0 5 = cap at *
  have hsz : s.data.size = s.size := rfl
  have HC := Lib.hid (fun j (hj : j < s.data.size) => (World.cell?_alloc_mark w C 5 (C.size, C.size + 1) j).trans (hrow j hj))
  clear hrow
  go_enter Tryd.func24, Tryd.ntmps24
  go_wp2_with fail
  clear hconv
  obtain ⟨W, hW⟩ : ∃ W, W = (w.alloc (.cells C 5 (C.size, C.size + 1))).drew := ⟨_, rfl⟩
  have HW := Lib.hid hW
  have hcell : ∀ j (hj : j < s.data.size), W.cell? ⟨w.heap.size, j, none⟩ = some (.int .u8 (s.data[j].toNat : Int)) := fun j hj => by rw [hW]; exact HC.out j hj
  rw [← hW]
  have HCL := Lib.hid hcell
  have HW2 := Lib.hid (show w.heap.size < W.heap.size by rw [hW]; simp)
  clear hW hcell HC
  go_loopw [5, 13] (fun s5 s13 wr => ∃ k : Nat, k ≤ s.size ∧ s13 = .int .i64 k ∧ s5 = .int .i64 (linkAt (s.data.toList.take k) 0 (wrap64 (chain * 31))) ∧ wr = W) (fun _ s13 _ => s.size - (intOf s13).toNat)
  case atStart => exact ⟨0, Nat.zero_le _, rfl, rfl, rfl⟩
  case round =>
    obtain ⟨k, hk, rfl, rfl, rfl⟩ := hrel
    by_cases hkn : k < s.size
    · have hc := HCL.out k hkn
      have hlt := HW2.out
      have hL := linkAt_take s.data.toList (k := k) (by simpa using hkn) (wrap64 (chain * 31))
      simp only [Array.getElem_toList] at hL
      generalize linkAt (s.data.toList.take k) 0 (wrap64 (chain * 31)) = n at *
      have HL := Lib.hid hL
      have hb : (s.data[k].toNat : Int) < 256 := by have := s.data[k].toNat_lt; omega
      clear hL
      generalize hbt : s.data[k] = bt at *
      go_wp2_with fail
      go_roundw
      case rel => exact ⟨k + 1, by omega, by go_num, by rw [HL.out]; rfl, trivial⟩
      case measure => simp [intOf]; omega
    · have hk' : k = s.size := by omega
      subst hk'
      go_wp2
      go_ret
      have hl : s.data.toList.length = s.size := by simp [hsz]
      refine ⟨?_, by rw [HW.out]; exact ((Below.refl _ _).alloc (Nat.le_refl _) _).drew⟩
      rw [List.take_of_length_le (by omega)]
      rfl
end Go.Proofs.YtpppfiagaiaggaaDoor
