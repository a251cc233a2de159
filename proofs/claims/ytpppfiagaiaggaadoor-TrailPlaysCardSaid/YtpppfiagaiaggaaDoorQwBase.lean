/- Words for memory: what a call keeps; lists of labels in memory; errors as values. -/
import Derived.Test.YtpppfiagaiaggaaDoorProg
import Derived.Test.YtpppfiagaiaggaaDoorPureNum
import Derived.Test.YtpppfiagaiaggaaDoorPureBits
import Derived.Test.YtpppfiagaiaggaaDoorQwMem
import Derived.Lib.Hide
import Derived.WalkKit
import Derived.WalkSpells
import Derived.WalkLawsBesides
namespace Go.Proofs.YtpppfiagaiaggaaDoor
open Go.RowKit

/-- An error as a value: nil, or an Errno. -/
def errV (e : Int) : Value := if e = 0 then .nilIface else .iface 55 (.int .i64 e)
theorem errV_zero : errV 0 = .nilIface := rfl
theorem errV_pos {e : Int} (h : e ≠ 0) : errV e = .iface 55 (.int .i64 e) := by unfold errV; rw [if_neg h]

theorem bcell {W w1 : World} (hb : Below W.heap.size W w1) : (∀ b o, b < W.heap.size → w1.cell? ⟨b, o, none⟩ = W.cell? ⟨b, o, none⟩) ∧ (∀ b o, b < W.heap.size → w1.frozen? ⟨b, o, none⟩ = W.frozen? ⟨b, o, none⟩) :=
  ⟨fun b o h => hb.cell (p := ⟨b, o, none⟩) h, fun b o h => hb.frozen (p := ⟨b, o, none⟩) h⟩

/-- Of what was there all stays but the blocks of F. -/
structure Kp (F : Nat → Prop) (w w' : World) : Prop where
  os : w'.os = w.os
  tape : w'.tape = w.tape
  output : w'.output = w.output
  size : w.heap.size ≤ w'.heap.size
  block : ∀ k, k < w.heap.size → ¬ F k → w'.heap[k]? = w.heap[k]?

section
variable {F G : Nat → Prop} {a b c w w' : World} {B : Nat}
theorem Kp.refl (F : Nat → Prop) (w : World) : Kp F w w := ⟨rfl, rfl, rfl, Nat.le_refl _, fun _ _ _ => rfl⟩
theorem Kp.of_below (h : Below w.heap.size w w') : Kp F w w' := ⟨h.os, h.tape, h.output, h.size, fun k hk _ => h.block k hk⟩
theorem Kp.trans (h : Kp F a b) (k : Kp G b c) (hs : ∀ n, n < a.heap.size → G n → F n) : Kp F a c :=
  ⟨k.os.trans h.os, k.tape.trans h.tape, k.output.trans h.output, Nat.le_trans h.size k.size,
    fun n hn hF => (k.block n (Nat.lt_of_lt_of_le hn h.size) (fun hG => hF (hs n hn hG))).trans (h.block n hn hF)⟩
theorem Kp.mono (h : Kp F a b) (hs : ∀ n, n < a.heap.size → F n → G n) : Kp G a b := ⟨h.os, h.tape, h.output, h.size, fun n hn hG => h.block n hn fun hF => hG (hs n hn hF)⟩
theorem Kp.below (h : Kp F w w') (hB : B ≤ w.heap.size) (hF : ∀ n, n < w.heap.size → F n → B ≤ n) : Below B w w' :=
  ⟨h.os, h.tape, h.output, h.size, fun k hk => h.block k (by omega) fun hf => by have := hF k (by omega) hf; omega⟩
theorem Kp.drew (h : Kp F a w) : Kp F a w.drew := ⟨h.os, h.tape, h.output, h.size, h.block⟩
theorem Kp.alloc (h : Kp F a w) (o : Obj) : Kp F a (w.alloc o) :=
  h.trans (G := F) (Kp.of_below ((Below.refl _ _).alloc (Nat.le_refl _) o)) fun _ _ h => h
theorem Kp.setCell (h : Kp F a w) {p : Addr} (hp : F p.block ∨ a.heap.size ≤ p.block) (u : Value) : Kp F a (w.setCell p u) :=
  ⟨h.os, h.tape, h.output, Nat.le_trans h.size (by simp [World.setCell]), fun k hk hF => by
    rw [Below.heap_setCell _ _ _ _ (by rcases hp with hp | hp; exact fun e => hF (e ▸ hp); omega)]; exact h.block k hk hF⟩
theorem Kp.cell (h : Kp F w w') {p : Addr} (hp : p.block < w.heap.size) (hF : ¬ F p.block) : w'.cell? p = w.cell? p := World.cell?_of_block (w := w) (h.block p.block hp hF)
theorem Kp.frozen (h : Kp F w w') {p : Addr} (hp : p.block < w.heap.size) (hF : ¬ F p.block) : w'.frozen? p = w.frozen? p := World.frozen?_of_block (w := w) (h.block p.block hp hF)
end

/-- Labels as values: two cells each. -/
def labCells (xs : List (Int × Int)) : List Value := xs.flatMap fun x => [.int .i64 x.1, .int .i64 x.2]
theorem labCells_length (xs : List (Int × Int)) : (labCells xs).length = xs.length * 2 := by
  induction xs with
  | nil => rfl
  | cons x r ih => simp only [labCells, List.flatMap_cons, List.length_append, List.length_cons, List.length_nil] at ih ⊢; omega
theorem labCells_at : ∀ (xs : List (Int × Int)) (i : Nat) (h : i < xs.length), (labCells xs)[i * 2]? = some (.int .i64 xs[i].1) ∧ (labCells xs)[i * 2 + 1]? = some (.int .i64 xs[i].2)
  | [], i, h => absurd h (by simp)
  | x :: r, 0, h => ⟨rfl, rfl⟩
  | x :: r, i + 1, h => by
    have := labCells_at r i (by simpa using h)
    have e1 : (i + 1) * 2 = i * 2 + 1 + 1 := by omega
    have e2 : (i + 1) * 2 + 1 = (i * 2 + 1) + 1 + 1 := by omega
    have el : labCells (x :: r) = .int .i64 x.1 :: .int .i64 x.2 :: labCells r := rfl
    rw [e2, e1, el]
    simpa using this
theorem labCells_one (xs : List (Int × Int)) : ∀ u ∈ labCells xs, u.oneCell' = true := by
  intro u hu
  simp only [labCells, List.mem_flatMap, List.mem_cons, List.mem_nil_iff, or_false] at hu
  obtain ⟨x, _, h | h⟩ := hu <;> (rw [h]; rfl)

/-- A slice of labels that reads as xs; it lies below block B. -/
def LabsAt (w : World) (B : Nat) (A : Option Addr) (n : Nat) (xs : List (Int × Int)) : Prop :=
  xs.length = n ∧ n ≤ maxLen ∧ Reads w B 2 A n (labCells xs)
section
variable {w w' : World} {B : Nat} {A : Option Addr} {n : Nat} {xs : List (Int × Int)}
theorem LabsAt.below (h : LabsAt w B A n xs) (hb : Below B w w') : LabsAt w' B A n xs := ⟨h.1, h.2.1, h.2.2.below hb⟩
theorem LabsAt.at_ {i : Nat} (h : LabsAt w B A n xs) (hi : i < xs.length) : ∃ ad, A = some ad ∧ ad.block < B ∧
    w.cell? (ad.add (i * 2)) = some (.int .i64 xs[i].1) ∧ w.cell? ⟨(ad.add (i * 2)).block, (ad.add (i * 2)).off + 1, none⟩ = some (.int .i64 xs[i].2) := by
  obtain ⟨ad, e, hb, hc⟩ := h.2.2.2 (by have := h.1; omega)
  obtain ⟨c1, c2⟩ := labCells_at xs i hi
  refine ⟨ad, e, hb, hc _ _ c1, ?_⟩
  have := hc _ _ c2
  rw [← add_of_add] at this
  exact this
end
end Go.Proofs.YtpppfiagaiaggaaDoor
