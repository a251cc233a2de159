/- Lists of what is asked, in memory. -/
import Derived.Test.YtpppfiagaiaggaaDoorQwTell
namespace Go.Proofs.YtpppfiagaiaggaaDoor
open Go.RowKit

/-- A slice of what is asked that reads as xs; it lies below block B. -/
structure AsksAt (w : World) (B : Nat) (A : Option Addr) (n : Nat) (xs : List Ask) : Prop where
  len : xs.length = n
  max : n ≤ maxLen
  cells : 0 < n → ∃ ad, A = some ad ∧ ad.block < B ∧ ∀ i, (h : i < xs.length) → w.cell? (ad.add (i * 4)) = some (.int .i64 xs[i].kind) ∧ w.cell? ⟨(ad.add (i * 4)).block, (ad.add (i * 4)).off + 1, none⟩ = some (.int .i64 xs[i].user) ∧
    w.cell? ⟨(ad.add (i * 4)).block, (ad.add (i * 4)).off + 2, none⟩ = some (.int .i64 xs[i].file) ∧ w.cell? ⟨(ad.add (i * 4)).block, (ad.add (i * 4)).off + 3, none⟩ = some (.int .i64 xs[i].to)
  ins : ∀ a ∈ xs, AskIn a

theorem AsksAt.kp {F : Nat → Prop} {w w' : World} {B : Nat} {A : Option Addr} {n : Nat} {xs : List Ask} (h : AsksAt w B A n xs) (hk : Kp F w w') (hB : B ≤ w.heap.size) (hF : ∀ k, k < B → ¬ F k) : AsksAt w' B A n xs := by
  refine ⟨h.len, h.max, fun hn => ?_, h.ins⟩
  obtain ⟨ad, rfl, hb, hc⟩ := h.cells hn
  have hlt : (ad.block : Nat) < w.heap.size := Nat.lt_of_lt_of_le hb hB
  refine ⟨ad, rfl, hb, fun i hi => ?_⟩
  obtain ⟨h1, h2, h3, h4⟩ := hc i hi
  have hbk : (ad.add (i * 4)).block = ad.block := block_of_add _ _
  exact ⟨(hk.cell (p := ad.add (i * 4)) (by rw [hbk]; exact hlt) (by rw [hbk]; exact hF _ hb)).trans h1, (hk.cell (p := ⟨(ad.add (i * 4)).block, _, none⟩) (by rw [hbk]; exact hlt) (by rw [hbk]; exact hF _ hb)).trans h2,
    (hk.cell (p := ⟨(ad.add (i * 4)).block, _, none⟩) (by rw [hbk]; exact hlt) (by rw [hbk]; exact hF _ hb)).trans h3, (hk.cell (p := ⟨(ad.add (i * 4)).block, _, none⟩) (by rw [hbk]; exact hlt) (by rw [hbk]; exact hF _ hb)).trans h4⟩
theorem AsksAt.bl {w w' : World} {B : Nat} {A : Option Addr} {n : Nat} {xs : List Ask} (h : AsksAt w B A n xs) (hb : Below B w w') : AsksAt w' B A n xs := by
  refine ⟨h.len, h.max, fun hn => ?_, h.ins⟩
  obtain ⟨ad, rfl, hlt, hc⟩ := h.cells hn
  refine ⟨ad, rfl, hlt, fun i hi => ?_⟩
  obtain ⟨h1, h2, h3, h4⟩ := hc i hi
  have hbk : (ad.add (i * 4)).block = ad.block := block_of_add _ _
  exact ⟨(hb.cell (p := ad.add (i * 4)) (by rw [hbk]; exact hlt)).trans h1, (hb.cell (p := ⟨(ad.add (i * 4)).block, _, none⟩) (by rw [hbk]; exact hlt)).trans h2,
    (hb.cell (p := ⟨(ad.add (i * 4)).block, _, none⟩) (by rw [hbk]; exact hlt)).trans h3, (hb.cell (p := ⟨(ad.add (i * 4)).block, _, none⟩) (by rw [hbk]; exact hlt)).trans h4⟩

theorem labsErr_vals (m : Int) (xs : List (Int × Int)) : labsErr m xs = 0 ∨ labsErr m xs = 1 ∨ labsErr m xs = 4 := by
  unfold labsErr
  split
  · exact .inr (.inr rfl)
  · split
    · exact .inl rfl
    · exact .inr (.inl rfl)
theorem bellErr_bad {us fs : List (Int × Int)} (h : bellErr us fs ≠ 0) : bellErr us fs = 1 ∨ bellErr us fs = 4 := by
  have h1 : bellErr us fs = 0 ∨ bellErr us fs = 1 ∨ bellErr us fs = 4 := by
    unfold bellErr
    split <;> exact labsErr_vals _ _
  exact h1.resolve_left h

/-- A trail that was asked. -/
def askAll (t : TrSt) (xs : List Ask) : TrSt := xs.foldl (fun t a => (askTrail t a).1) t
theorem askAll_snoc (t : TrSt) (xs : List Ask) (i : Nat) (h : i < xs.length) : askAll t (xs.take (i + 1)) = (askTrail (askAll t (xs.take i)) xs[i]).1 := by
  unfold askAll
  rw [List.take_succ_eq_append_getElem h, List.foldl_append]; rfl
theorem askTrail_users (t : TrSt) (a : Ask) : (askTrail t a).1.bell.users = t.bell.users ∧ (askTrail t a).1.bell.files = t.bell.files := by
  unfold askTrail
  split
  · exact ⟨rfl, rfl⟩
  · simp only []
    split
    · exact ⟨rfl, rfl⟩
    · exact askBell_users _ _
theorem askAll_users (t : TrSt) (xs : List Ask) : (askAll t xs).bell.users = t.bell.users ∧ (askAll t xs).bell.files = t.bell.files := by
  unfold askAll
  induction xs generalizing t with
  | nil => exact ⟨rfl, rfl⟩
  | cons a xs ih => rw [List.foldl_cons]; obtain ⟨h1, h2⟩ := ih (askTrail t a).1; obtain ⟨h3, h4⟩ := askTrail_users t a; exact ⟨h1.trans h3, h2.trans h4⟩
end Go.Proofs.YtpppfiagaiaggaaDoor
