/- The monitor in memory. -/
import Derived.Test.YtpppfiagaiaggaaDoorQwB
namespace Go.Proofs.YtpppfiagaiaggaaDoor
open Go.RowKit

def intsV (l : List Nat) : List Value := l.map fun (n : Nat) => Value.int .i64 (n : Int)
theorem intsV_length (l : List Nat) : (intsV l).length = l.length := by simp [intsV]
theorem intsV_one (l : List Nat) : ∀ u ∈ intsV l, u.oneCell' = true := by
  intro u hu
  simp only [intsV, List.mem_map] at hu
  obtain ⟨n, _, rfl⟩ := hu
  rfl

/-- Where a monitor lies: its own block, and its five slices. -/
structure MonV where
  mb : Nat
  vu : Value
  vf : Value
  vr : Value
  vw : Value
  vh : Value

/-- The blocks of a monitor. -/
def MonV.foot (m : MonV) (k : Nat) : Prop := k = m.mb ∨ m.vu.ownBlock = some k ∨ m.vf.ownBlock = some k ∨ m.vr.ownBlock = some k ∨ m.vw.ownBlock = some k ∨ m.vh.ownBlock = some k

structure MonAt (w : World) (B : Nat) (m : MonV) (b : Bell) : Prop where
  ok : BellOk b
  base : B ≤ m.mb
  blk : Blk w m.mb 71 #[m.vu, m.vf, m.vr, m.vw, m.vh]
  users : w.ownsRow B 67 2 m.vu b.users.length (labCells b.users)
  files : w.ownsRow B 67 2 m.vf b.files.length (labCells b.files)
  reads : w.ownsRow B 3 1 m.vr b.users.length (intsV b.reads)
  writes : w.ownsRow B 3 1 m.vw b.users.length (intsV b.writes)
  holds : w.ownsRow B 3 1 m.vh b.files.length (intsV b.holds)
  rw_ : ∀ k, m.vr.ownBlock = some k → m.vw.ownBlock ≠ some k
  rh : ∀ k, m.vr.ownBlock = some k → m.vh.ownBlock ≠ some k
  wh : ∀ k, m.vw.ownBlock = some k → m.vh.ownBlock ≠ some k

theorem ownsRow_block {w : World} {B : Nat} {e : TypeId} {size n : Nat} {v : Value} {xs : List Value} (h : w.ownsRow B e size v n xs) {k : Nat} (hk : v.ownBlock = some k) : B ≤ k ∧ k < w.heap.size := by
  rcases h.2 with ⟨rfl, _⟩ | ⟨g, cap, cur, rfl, hg, hh, _⟩
  · simp [Value.ownBlock] at hk
  · simp [Value.ownBlock] at hk
    subst hk
    refine ⟨hg, ?_⟩
    rcases Nat.lt_or_ge g w.heap.size with hl | hl
    · exact hl
    · rw [Array.getElem?_eq_none hl] at hh; cases hh

theorem ownsRow_same {w w' : World} {B : Nat} {e : TypeId} {size n : Nat} {v : Value} {xs : List Value} (h : w.ownsRow B e size v n xs) (hk : ∀ k, v.ownBlock = some k → w'.heap[k]? = w.heap[k]?) : w'.ownsRow B e size v n xs := by
  refine ⟨h.1, ?_⟩
  rcases h.2 with h2 | ⟨g, cap, cur, hv, hg, hh, r⟩
  · exact .inl h2
  · exact .inr ⟨g, cap, cur, hv, hg, by rw [hk g (by rw [hv]; simp [Value.ownBlock])]; exact hh, r⟩

theorem ownsRow_below {w w' : World} {B : Nat} {e : TypeId} {size n : Nat} {v : Value} {xs : List Value} (h : w.ownsRow B e size v n xs) (hb : Below w.heap.size w w') : w'.ownsRow B e size v n xs :=
  ownsRow_same h fun k hk => hb.block k (ownsRow_block h hk).2

theorem ownsRow_base {w : World} {B B' : Nat} {e : TypeId} {size n : Nat} {v : Value} {xs : List Value} (h : w.ownsRow B e size v n xs) (hb : B' ≤ B) : w.ownsRow B' e size v n xs := by
  refine ⟨h.1, ?_⟩
  rcases h.2 with h2 | ⟨g, cap, cur, hv, hg, hh, r⟩
  · exact .inl h2
  · exact .inr ⟨g, cap, cur, hv, by omega, hh, r⟩

theorem MonAt.foot {w : World} {B : Nat} {m : MonV} {b : Bell} (h : MonAt w B m b) {k : Nat} (hk : m.foot k) : B ≤ k ∧ k < w.heap.size := by
  rcases hk with rfl | hk | hk | hk | hk | hk
  · exact ⟨h.base, h.blk.lt⟩
  · exact ownsRow_block h.users hk
  · exact ownsRow_block h.files hk
  · exact ownsRow_block h.reads hk
  · exact ownsRow_block h.writes hk
  · exact ownsRow_block h.holds hk

/-- A monitor stays where its blocks do. -/
theorem MonAt.same {w w' : World} {B : Nat} {m : MonV} {b : Bell} (h : MonAt w B m b) (hk : ∀ k, m.foot k → w'.heap[k]? = w.heap[k]?) : MonAt w' B m b :=
  ⟨h.ok, h.base, (hk _ (.inl rfl)).trans h.blk, ownsRow_same h.users fun k e => hk k (.inr (.inl e)), ownsRow_same h.files fun k e => hk k (.inr (.inr (.inl e))),
    ownsRow_same h.reads fun k e => hk k (.inr (.inr (.inr (.inl e)))), ownsRow_same h.writes fun k e => hk k (.inr (.inr (.inr (.inr (.inl e))))), ownsRow_same h.holds fun k e => hk k (.inr (.inr (.inr (.inr (.inr e))))),
    h.rw_, h.rh, h.wh⟩
theorem MonAt.kp {w w' : World} {B : Nat} {m : MonV} {b : Bell} {F : Nat → Prop} (h : MonAt w B m b) (hk : Kp F w w') (hF : ∀ k, m.foot k → ¬ F k) : MonAt w' B m b :=
  h.same fun k hf => hk.block k (h.foot hf).2 (hF k hf)
theorem MonAt.below {w w' : World} {B : Nat} {m : MonV} {b : Bell} (h : MonAt w B m b) (hb : Below w.heap.size w w') : MonAt w' B m b := h.same fun k hf => hb.block k (h.foot hf).2
end Go.Proofs.YtpppfiagaiaggaaDoor
