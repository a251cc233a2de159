/- The trail of chapter 6 as plain Lean: what is asked is written, line by line, each with the chain's next link. No program in sight. -/
import Derived.Test.YtpppfiagaiaggaaDoorPureLink
import Derived.Test.YtpppfiagaiaggaaDoorPureNum
import Derived.Lib.ItoaLen
namespace Go.Proofs.YtpppfiagaiaggaaDoor
open Go Go.RowKit

structure TrSt where
  bell : Bell
  text : List UInt8
  many : Nat
  chain : Int

def newTrail (us fs : List (Int × Int)) : TrSt := ⟨newBell us fs, [], 0, 0⟩
def numB (n : Int) : List UInt8 := Lib.itoa n ++ [32]
/-- The five numbers of a line, each with a blank behind it. -/
def lineHead (a : Ask) (e : Int) : List UInt8 := numB a.kind ++ numB a.user ++ numB a.file ++ numB a.to ++ numB e
def lineOf (chain : Int) (head : List UInt8) : List UInt8 := head ++ Lib.itoa (link chain head) ++ [10]
/-- What is asked without a place to copy to. -/
def askTo (a : Ask) : Ask := if a.kind = 3 then a else { a with to := 0 }

def askTrail (t : TrSt) (a : Ask) : TrSt × Int :=
  if t.many = 100 then (t, 4) else
  let r := askBell t.bell (askTo a)
  if r.2 = 1 then (t, 1) else
  let h := lineHead (askTo a) r.2
  (⟨r.1, t.text ++ lineOf t.chain h, t.many + 1, link t.chain h⟩, r.2)

theorem askBell_err (b : Bell) (a : Ask) : (askBell b a).2 = 0 ∨ (askBell b a).2 = 1 ∨ (askBell b a).2 = 7 ∨ (askBell b a).2 = 8 := by
  unfold askBell
  split
  · simp
  · simp only []
    split
    · split <;> simp
    · split
      · split <;> simp
      · split
        · simp
        · split <;> simp

theorem askBell_one {b : Bell} {a : Ask} (h : (askBell b a).2 = 1) : (askBell b a).1 = b ∧ askOut b a = true := by
  unfold askBell at h ⊢
  split
  · rename_i ho; exact ⟨rfl, ho⟩
  · rename_i ho
    rw [if_neg ho] at h
    simp only [] at h ⊢
    split at h
    · split at h <;> simp at h
    · split at h
      · split at h <;> simp at h
      · split at h
        · simp at h
        · split at h <;> simp at h

theorem askBell_out {b : Bell} {a : Ask} (h : askOut b a = true) : askBell b a = (b, 1) := by unfold askBell; rw [if_pos h]

theorem link_range (c : Int) (l : List UInt8) : -9973 < link c l ∧ link c l < 9973 := by
  unfold link
  have h := Int.tmod_lt_of_pos (linkAt l 0 (wrap64 (c * 31))) (b := 9973) (by decide)
  refine ⟨?_, h⟩
  have := Int.lt_tmod_of_pos (linkAt l 0 (wrap64 (c * 31))) (b := 9973) (by decide)
  omega

def in64 (n : Int) : Prop := -9223372036854775808 ≤ n ∧ n ≤ 9223372036854775807
theorem numB_length {n : Int} (h : in64 n) : (numB n).length ≤ 22 := by
  have := Lib.itoa_length_le n h.1 h.2
  simp [numB]; omega
structure AskIn (a : Ask) : Prop where
  kind : in64 a.kind
  user : in64 a.user
  file : in64 a.file
  to : in64 a.to
theorem askTo_in {a : Ask} (h : AskIn a) : AskIn (askTo a) := by
  unfold askTo
  split
  · exact h
  · exact ⟨h.kind, h.user, h.file, by unfold in64; simp⟩
theorem lineHead_length {a : Ask} {e : Int} (h : AskIn a) (he : in64 e) : (lineHead a e).length ≤ 110 := by
  have h1 := numB_length h.kind; have h2 := numB_length h.user; have h3 := numB_length h.file; have h4 := numB_length h.to; have h5 := numB_length he
  simp only [lineHead, List.length_append]; omega
theorem lineOf_length {a : Ask} {e c : Int} (h : AskIn a) (he : in64 e) : (lineOf c (lineHead a e)).length ≤ 132 := by
  have h1 := lineHead_length h he
  have h2 := link_range c (lineHead a e)
  have h3 := Lib.itoa_length_le (link c (lineHead a e)) (by omega) (by omega)
  simp only [lineOf, List.length_append, List.length_singleton]; omega
theorem askBell_in64 (b : Bell) (a : Ask) : in64 (askBell b a).2 := by
  rcases askBell_err b a with h | h | h | h <;> rw [h] <;> unfold in64 <;> simp

/-- What holds of a trail at all times. -/
structure TrOk (t : TrSt) : Prop where
  bell : BellOk t.bell
  many : t.many ≤ 100
  text : t.text.length ≤ 132 * t.many
  chain : -9973 < t.chain ∧ t.chain < 9973

theorem newTrail_ok {us fs : List (Int × Int)} (h : bellErr us fs = 0) : TrOk (newTrail us fs) := ⟨newBell_ok h, by simp [newTrail], by simp [newTrail], by simp [newTrail]⟩
theorem askTrail_ok {t : TrSt} (h : TrOk t) {a : Ask} (ha : AskIn a) : TrOk (askTrail t a).1 := by
  unfold askTrail
  split
  · exact h
  · rename_i hm
    simp only []
    split
    · exact h
    · refine ⟨askBell_ok h.bell _, ?_, ?_, link_range _ _⟩
      · have := h.many; show t.many + 1 ≤ 100; omega
      · have h1 := h.text
        have h2 := lineOf_length (c := t.chain) (askTo_in ha) (askBell_in64 t.bell (askTo a))
        simp only [List.length_append]; omega
end Go.Proofs.YtpppfiagaiaggaaDoor
