/- Arguments opened: lists of labels, lists of what is asked. -/
import Derived.Test.YtpppfiagaiaggaaDoorQwAsks
import Derived.Deep.Slices
import Derived.Deep.Fields
import Derived.ChangeSame
import Derived.ChangeArms
namespace Go.Proofs.YtpppfiagaiaggaaDoor
open Go.ChangeShapes Go.WideShapes Go.RowKit Go.Deep

section
variable {H : Type} {enc : TypeId × Value → H} {P : Program} {w : World} {base : Nat} {spare : Nat → Bool} {held : Bool}
theorem okWide_slice1 {t e : TypeId} {r : Reach} {v : Value} (ht : P.underlying t = some (.slice e)) (h : Value.okWide P w r base t v) : v.cells.toList = [v] := by
  simp only [Value.okWide, ht, Cell.okWide] at h
  cases v <;> simp_all [Cell.ok, Value.cells]
/-- A slice of structs of ints: its cells. -/
theorem open_slice_ints {t e : TypeId} {fs : Array Field} {v : Value} {d : DataW H} {p : List MemPlace} {r : Reach} {b0 : Nat} (k : Nat) (ht : P.underlying t = some (.slice e)) (he : P.underlying e = some (.struct fs))
    (hone : oneCellFields P fs = true) (hC : P.cellsOf e = k) (hk : fs.size = k) (hf : ∀ (j : Nat) (f : Field), fs[j]? = some f → P.underlying f.type = some (.int .i64)) (hv : Value.okWide P w r b0 t v) (h : DataW.Trod enc P w 0 (fun _ => true) held t v d p) :
    ∃ (A : Option Addr) (n c : Nat), v = .slice A n c ∧ n ≤ c ∧ c ≤ maxLen ∧ (0 < n → ∃ ad, A = some ad ∧ ∀ i, i < n → ∀ j, j < k → ∃ z, in64 z ∧ w.cell? (ad.add (i * k + j)) = some (.int .i64 z)) := by
  obtain ⟨fuel, hf'⟩ := h
  rw [okWide_slice1 ht hv] at hf'
  rcases open_slice ht hf' with ⟨h0, _⟩ | ⟨a, len, cap, m, n, D, Pl, hcs, hb, hl, hm, hmm, hx, hi⟩
  · obtain rfl : v = .slice none 0 0 := by simpa using h0
    exact ⟨none, 0, 0, rfl, Nat.le_refl _, Nat.zero_le _, fun h => absurd h (by omega)⟩
  · obtain rfl : v = .slice (some a) len cap := by simpa using hcs
    refine ⟨some a, len, cap, rfl, hl, hm, fun _ => ⟨a, rfl, fun i hin j hj => ?_⟩⟩
    have hml : len ≤ m := by rw [hmm]; split <;> omega
    obtain ⟨cs', hc, ht'⟩ := hi i (by omega)
    rw [hC] at hc
    obtain ⟨ys, n', hn', hy, hlen, hyl, hf''⟩ := DataW.trod_struct he ht'
    obtain ⟨_, hcl, hat⟩ := World.cells?_some hc
    have hfj : fs[j]? = some (fs[j]'(by omega)) := Array.getElem?_eq_getElem (by omega)
    obtain ⟨ho, hk'⟩ := hone_of hone j _ hfj
    have hcell := hat j (by omega)
    have hv' : cs'[j]? = some (cs'[j]'(by omega)) := List.getElem?_eq_getElem (by omega)
    have h1 := hf'' j _ hfj
    rw [ho, hk'] at h1
    have hone' : (cs'.drop j).take 1 = [cs'[j]'(by omega)] := by
      rw [List.drop_eq_getElem_cons (by omega)]
      rfl
    rw [hone'] at h1
    have hys : ys[j]? = some (ys[j]'(by omega)) := List.getElem?_eq_getElem (by omega)
    obtain ⟨z, hz, _, hw⟩ := DataW.trod_int (hf j _ hfj) (h1.trans hys)
    simp only [List.cons.injEq, and_true] at hz
    refine ⟨z, ?_, ?_⟩
    · simp only [Lit.wf, Bool.and_eq_true, decide_eq_true_eq] at hw
      exact ⟨hw.1, hw.2⟩
    · rw [← Go.Deep.add_add, hcell, hv', hz]
end

/-- A choice for each number under n, as a list. -/
theorem list_of {α : Type} {Q : Nat → α → Prop} : ∀ (n : Nat), (∀ i, i < n → ∃ a, Q i a) → ∃ xs : List α, xs.length = n ∧ ∀ i, (h : i < xs.length) → Q i xs[i]
  | 0, _ => ⟨[], rfl, fun i h => absurd h (by simp)⟩
  | n + 1, h => by
    obtain ⟨xs, hl, hx⟩ := list_of n fun i hi => h i (by omega)
    obtain ⟨a, ha⟩ := h n (by omega)
    refine ⟨xs ++ [a], by simp [hl], fun i hi => ?_⟩
    by_cases hin : i < xs.length
    · rw [List.getElem_append_left hin]; exact hx i hin
    · have : i = n := by simp [hl] at hi hin; omega
      subst this
      rw [List.getElem_append_right (by omega)]
      simpa [hl] using ha

section
variable {H : Type} {enc : TypeId × Value → H} {w : World} {v : Value} {d : DataW H} {p : List MemPlace} {b0 : Nat}
set_option maxRecDepth 100000 in
theorem open_labs (hv : Value.okWide Tryd.prog w .any b0 22 v) (h : DataW.Trod enc Tryd.prog w 0 (fun _ => true) true 22 v d p) :
    ∃ (A : Option Addr) (n c : Nat) (xs : List (Int × Int)), v = .slice A n c ∧ LabsAt w w.heap.size A n xs := by
  obtain ⟨A, n, c, rfl, hnc, hcm, hc⟩ := open_slice_ints 2 Tryd.underlying22 Tryd.underlying67 (by kernel_rfl) (by kernel_rfl) rfl (fun j f hj => by
    rcases j with _ | _ | j
    · obtain rfl := Option.some.inj hj; kernel_rfl
    · obtain rfl := Option.some.inj hj; kernel_rfl
    · simp at hj) hv h
  by_cases hn : 0 < n
  · obtain ⟨ad, rfl, hcell⟩ := hc hn
    obtain ⟨xs, hl, hx⟩ := list_of (α := Int × Int) (Q := fun i x => w.cell? (ad.add (i * 2)) = some (.int .i64 x.1) ∧ w.cell? (ad.add (i * 2 + 1)) = some (.int .i64 x.2)) n fun i hi => by
      obtain ⟨z, _, hz⟩ := hcell i hi 0 (by omega)
      obtain ⟨y, _, hy⟩ := hcell i hi 1 (by omega)
      exact ⟨(z, y), hz, hy⟩
    refine ⟨some ad, n, c, xs, rfl, hl, Nat.le_trans hnc hcm, by rw [labCells_length, hl], fun _ => ⟨ad, rfl, ?_, fun j u hj => ?_⟩⟩
    · have := cell_ltB (hx 0 (by omega)).1
      rw [block_of_add] at this; exact this
    · have hj2 : j < xs.length * 2 := by
        have := (List.getElem?_eq_some_iff.1 hj).1
        rwa [labCells_length] at this
      obtain ⟨c1, c2⟩ := labCells_at xs (j / 2) (by omega)
      obtain ⟨q1, q2⟩ := hx (j / 2) (by omega)
      rcases Nat.mod_two_eq_zero_or_one j with hm | hm
      · have e : j / 2 * 2 = j := by omega
        rw [e] at c1 q1
        rw [q1, ← c1, hj]
      · have e : j / 2 * 2 + 1 = j := by omega
        rw [e] at c2 q2
        rw [q2, ← c2, hj]
  · obtain rfl : n = 0 := by omega
    exact ⟨A, 0, c, [], rfl, rfl, Nat.zero_le _, by simp [labCells], fun h => absurd h (by omega)⟩

set_option maxRecDepth 100000 in
theorem open_asks (hv : Value.okWide Tryd.prog w .any b0 23 v) (h : DataW.Trod enc Tryd.prog w 0 (fun _ => true) true 23 v d p) :
    ∃ (A : Option Addr) (n c : Nat) (xs : List Ask), v = .slice A n c ∧ AsksAt w w.heap.size A n xs := by
  obtain ⟨A, n, c, rfl, hnc, hcm, hc⟩ := open_slice_ints 4 Tryd.underlying23 Tryd.underlying40 (by kernel_rfl) (by kernel_rfl) rfl (fun j f hj => by
    rcases j with _ | _ | _ | _ | j
    · obtain rfl := Option.some.inj hj; kernel_rfl
    · obtain rfl := Option.some.inj hj; kernel_rfl
    · obtain rfl := Option.some.inj hj; kernel_rfl
    · obtain rfl := Option.some.inj hj; kernel_rfl
    · simp at hj) hv h
  by_cases hn : 0 < n
  · obtain ⟨ad, rfl, hcell⟩ := hc hn
    obtain ⟨xs, hl, hx⟩ := list_of (α := Ask) (Q := fun i x => AskIn x ∧ w.cell? (ad.add (i * 4)) = some (.int .i64 x.kind) ∧ w.cell? (ad.add (i * 4 + 1)) = some (.int .i64 x.user) ∧ w.cell? (ad.add (i * 4 + 2)) = some (.int .i64 x.file) ∧ w.cell? (ad.add (i * 4 + 3)) = some (.int .i64 x.to)) n fun i hi => by
      obtain ⟨z0, i0, h0⟩ := hcell i hi 0 (by omega)
      obtain ⟨z1, i1, h1⟩ := hcell i hi 1 (by omega)
      obtain ⟨z2, i2, h2⟩ := hcell i hi 2 (by omega)
      obtain ⟨z3, i3, h3⟩ := hcell i hi 3 (by omega)
      exact ⟨⟨z0, z1, z2, z3⟩, ⟨i0, i1, i2, i3⟩, h0, h1, h2, h3⟩
    refine ⟨some ad, n, c, xs, rfl, hl, Nat.le_trans hnc hcm, fun _ => ⟨ad, rfl, ?_, fun i hi => ?_⟩, fun a ha => ?_⟩
    · have := cell_ltB (hx 0 (by omega)).2.1
      rw [block_of_add] at this; exact this
    · obtain ⟨_, h0, h1, h2, h3⟩ := hx i hi
      rw [← add_of_add] at h1 h2 h3
      exact ⟨h0, h1, h2, h3⟩
    · obtain ⟨i, hi, rfl⟩ := List.mem_iff_getElem.1 ha
      exact (hx i hi).1
  · obtain rfl : n = 0 := by omega
    exact ⟨A, 0, c, [], rfl, rfl, Nat.zero_le _, fun h => absurd h (by omega), fun a ha => by cases ha⟩
end
end Go.Proofs.YtpppfiagaiaggaaDoor
