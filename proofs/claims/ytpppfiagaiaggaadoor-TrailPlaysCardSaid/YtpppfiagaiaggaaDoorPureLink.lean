/- The chain's next link, behind a line. -/
import Derived.Test.YtpppfiagaiaggaaDoorPureBell
namespace Go.Proofs.YtpppfiagaiaggaaDoor
open Go Go.RowKit

def linkStep (n : Int) (i : Nat) (c : UInt8) : Int := wrap64 (n + wrap64 (((i : Int) + 1) * (c.toNat : Int)))
def linkAt : List UInt8 → Nat → Int → Int
  | [], _, n => n
  | c :: cs, i, n => linkAt cs (i + 1) (linkStep n i c)
/-- next link of a chain, behind a line -/
def link (chain : Int) (l : List UInt8) : Int := (linkAt l 0 (wrap64 (chain * 31))).tmod 9973

theorem linkAt_snoc (l : List UInt8) (c : UInt8) : ∀ (i : Nat) (n : Int), linkAt (l ++ [c]) i n = linkStep (linkAt l i n) (i + l.length) c := by
  induction l with
  | nil => intro i n; rfl
  | cons x l ih => intro i n; simp only [List.cons_append, linkAt, ih, List.length_cons]; congr 1; omega
theorem linkAt_take (l : List UInt8) {k : Nat} (hk : k < l.length) (n : Int) : linkAt (l.take (k + 1)) 0 n = linkStep (linkAt (l.take k) 0 n) k l[k] := by
  rw [List.take_succ_eq_append_getElem hk, linkAt_snoc]
  simp; congr 1; omega
end Go.Proofs.YtpppfiagaiaggaaDoor
