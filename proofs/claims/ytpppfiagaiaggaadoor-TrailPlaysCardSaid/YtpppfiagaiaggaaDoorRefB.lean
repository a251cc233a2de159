/- Contracts of the references: lists of labels, lists of numbers set anew, numerals, links. -/
import Derived.Test.YtpppfiagaiaggaaDoorRefA
import Derived.Test.YtpppfiagaiaggaaDoorQwNew
import Derived.Test.YtpppfiagaiaggaaDoorPureTrail
namespace Go.Proofs.YtpppfiagaiaggaaDoor
open Go.RowKit

/-- A slice that reads as a list of cells; it lies in no block of F. -/
def RdF (w : World) (F : Nat → Prop) (size : Nat) (v : Value) (n : Nat) (xs : List Value) : Prop :=
  ∃ A c, v = .slice A n c ∧ n ≤ maxLen ∧ xs.length = n * size ∧ (0 < n → ∃ ad, A = some ad ∧ ad.block < w.heap.size ∧ ¬ F ad.block ∧ ∀ j u, xs[j]? = some u → w.cell? (ad.add j) = some u)
section
variable {w w' : World} {F G : Nat → Prop} {size n : Nat} {v : Value} {xs : List Value}
theorem RdF.kp (h : RdF w F size v n xs) (hk : Kp F w w') : RdF w' F size v n xs := by
  obtain ⟨A, c, rfl, hm, hl, h⟩ := h
  refine ⟨A, c, rfl, hm, hl, fun hn => ?_⟩
  obtain ⟨ad, rfl, hb, hf, hc⟩ := h hn
  exact ⟨ad, rfl, Nat.lt_of_lt_of_le hb hk.size, hf, fun j u hu => (hk.cell (p := ad.add j) (by rw [block_of_add]; exact hb) (by rw [block_of_add]; exact hf)).trans (hc j u hu)⟩
theorem RdF.bl (h : RdF w F size v n xs) (hb : Below w.heap.size w w') : RdF w' F size v n xs := h.kp (Kp.of_below hb)
theorem RdF.more (h : RdF w F size v n xs) (hs : ∀ k, k < w.heap.size → G k → F k) : RdF w G size v n xs := by
  obtain ⟨A, c, rfl, hm, hl, h⟩ := h
  refine ⟨A, c, rfl, hm, hl, fun hn => ?_⟩
  obtain ⟨ad, rfl, hb, hf, hc⟩ := h hn
  exact ⟨ad, rfl, hb, fun hg => hf (hs _ hb hg), hc⟩
theorem RdF.reads (h : RdF w F size v n xs) : ∃ A c, v = .slice A n c ∧ n ≤ maxLen ∧ Reads w w.heap.size size A n xs := by
  obtain ⟨A, c, rfl, hm, hl, h⟩ := h
  refine ⟨A, c, rfl, hm, hl, fun hn => ?_⟩
  obtain ⟨ad, rfl, hb, hf, hc⟩ := h hn
  exact ⟨ad, rfl, hb, hc⟩
theorem RdF.of_own {B : Nat} {e : TypeId} (h : w.ownsRow B e size v n xs) (hF : ∀ k, B ≤ k → ¬ F k) (hm : n ≤ maxLen) : RdF w F size v n xs := by
  obtain ⟨A, c, rfl⟩ := ownsRow_slice h
  refine ⟨A, c, rfl, hm, h.1, fun hn => ?_⟩
  obtain ⟨g, cap, hv, hg, hlt⟩ := h.form hn
  have hA : A = some ⟨g, 0, none⟩ := by injection hv
  subst hA
  exact ⟨_, rfl, hlt, hF _ hg, h.cells (g := g) rfl⟩
end

set_option maxHeartbeats 400000 in
theorem refLabels_calls (A : Option Addr) (n c : Nat) (xs : List (Int × Int)) (most : Int) (w : World) (h : LabsAt w w.heap.size A n xs) (hm : most ≤ 100) :
    Calls Tryd.prog 13 #[.slice A n c, .int .i64 most] w fun e w' => e = .returned (.int .i64 (labsErr most xs)) ∧ Below w.heap.size w w' := by
  have hl := h.1
  have hmx := h.2.1
  unfold maxLen at hmx
  have HL := Lib.hid hl
  clear hl
  by_cases hbig : most < (n : Int)
  · have hfin : Hid (labsErr most xs = 4) := Lib.hid (by unfold labsErr; rw [HL.out, if_pos hbig])
    go_enter Tryd.func13, Tryd.ntmps13
    go_wp2
    go_ret
    exact ⟨ret_i64 hfin.out.symm, Below.refl _ _⟩
  · have hA' := Lib.hid h
    clear h
    go_enter Tryd.func13, Tryd.ntmps13
    go_wp2
    go_loopw [5] (fun i wr => ∃ k : Nat, k ≤ n ∧ i = .int .i64 k ∧ Hid ((xs.take k).all labP = true) ∧ Below w.heap.size w wr) (fun i _ => n - (intOf i).toNat)
    case atStart => exact ⟨0, Nat.zero_le _, rfl, rfl, Below.refl _ _⟩
    case round =>
      obtain ⟨k, hk, rfl, HALL, hB⟩ := hrel
      by_cases hkn : k < n
      · have hlt : k < xs.length := by rw [HL.out]; exact hkn
        obtain ⟨ad, rfl, hadb, h1', h2'⟩ := (hA'.out.below hB).at_ hlt
        have hsn : (xs.take (k + 1)).all labP = ((xs.take k).all labP && labOk xs[k].1 xs[k].2) := by
          rw [List.take_succ_eq_append_getElem hlt, List.all_append]; simp [labP]
        have HSN := Lib.hid hsn
        clear hsn
        have hBa : Below w.heap.size w (wr.alloc (.cells #[.int .i64 xs[k].1, .int .i64 xs[k].2] 67)) := hB.alloc hB.size _
        generalize xs[k] = x at *
        obtain ⟨l, s⟩ := x
        have C := refLabel_calls l s
        cases hok : labOk l s
        · rw [hok] at C HSN
          have C' := Lib.hid C
          clear C hok
          have hfin : labsErr most xs = 1 := by
            unfold labsErr
            rw [if_neg (by rw [HL.out]; omega), if_neg]
            intro ha
            have : (xs.take (k + 1)).all labP = true := by
              rw [List.all_eq_true] at ha ⊢
              exact fun x hx => ha x (List.mem_of_mem_take hx)
            rw [HSN.out] at this
            simp at this
          have HFIN := Lib.hid hfin
          clear hfin
          go_wp2_with fail
          refine (C'.out _).mono ?_
          rintro e w1 ⟨rfl, hb1⟩
          simp only [Bool.false_eq_true, if_false]
          go_wp2
          go_ret
          exact ⟨ret_i64 HFIN.out.symm, hB.trans (hb1.mono (by have := hB.size; omega))⟩
        · rw [hok] at C HSN
          have C' := Lib.hid C
          clear C hok
          go_wp2_with fail
          refine (C'.out _).mono ?_
          rintro e w1 ⟨rfl, hb1⟩
          simp only [if_true]
          go_wp2
          go_roundw
          case rel => exact ⟨k + 1, by omega, by go_num, by rw [HSN.out, HALL.out]; rfl, hB.trans (hb1.mono (by have := hB.size; omega))⟩
          case measure => simp [intOf]; omega
      · have hk' : k = n := by omega
        have hall := HALL.out
        have hfin : labsErr most xs = 0 := by
          unfold labsErr
          rw [hk', ← HL.out, List.take_length] at hall
          rw [if_neg (by rw [HL.out]; omega), if_pos hall]
        have HFIN := Lib.hid hfin
        clear hfin hall hk'
        go_wp2
        go_ret
        exact ⟨ret_i64 HFIN.out.symm, hB⟩

theorem set_snoc (l : List Nat) (i v k : Nat) (h : k < l.length) : intsV ((l.set i v).take (k + 1)) = intsV ((l.set i v).take k) ++ [.int .i64 ((if i = k then v else l[k] : Nat) : Int)] := by
  rw [List.take_succ_eq_append_getElem (by simpa using h)]
  simp only [intsV, List.map_append, List.map_cons, List.map_nil, List.getElem_set]

set_option maxHeartbeats 400000 in
theorem refSet_calls (A : Option Addr) (n c : Nat) (l : List Nat) (i v : Nat) (w : World) (h : Reads w w.heap.size 1 A n (intsV l)) (hn : n ≤ 1000) (hi : i < 1000) :
    Calls Tryd.prog 37 #[.slice A n c, .int .i64 i, .int .i64 v] w fun e w' => ∃ A' c', e = .returned (.slice A' n c') ∧ w'.ownsRow w.heap.size 3 1 (.slice A' n c') n (intsV (l.set i v)) ∧ Below w.heap.size w w' := by
  obtain ⟨i0, hi0, hz0, hz1, hz2⟩ := info_parts info_int
  have HL : Hid (l.length = n) := Lib.hid (by have := h.1; rw [intsV_length] at this; simpa using this)
  have HI := Lib.hid hi0
  have HZ := Lib.hid hz0
  have HA := Lib.hid h
  clear h hi0 hz0
  go_enter Tryd.func37, Tryd.ntmps37
  go_wp2
  go_loopw [7, 8] (fun o q wr => ∃ k : Nat, k ≤ n ∧ q = .int .i64 k ∧ wr.ownsRow w.heap.size 3 1 o k (intsV ((l.set i v).take k)) ∧ Below w.heap.size w wr) (fun _ q _ => n - (intOf q).toNat)
  case atStart => exact ⟨0, Nat.zero_le _, rfl, ⟨by simp [intsV], .inl ⟨rfl, rfl⟩⟩, Below.refl _ _⟩
  case round =>
    obtain ⟨k, hk, rfl, ho, hB⟩ := hrel
    obtain ⟨Ao, co, rfl⟩ := ownsRow_slice ho
    have hsz := hB.size
    by_cases hlt : k < n
    · have hll : k < l.length := by rw [HL.out]; exact hlt
      obtain ⟨ad, rfl, hadb, hcs⟩ := HA.out.2 (by omega)
      have hc : wr.cell? (ad.add k) = some (.int .i64 ((l[k] : Nat) : Int)) := by
        rw [hB.cell (p := ad.add k) (by rw [block_of_add]; exact hadb)]
        exact hcs k _ (by simp [intsV, hll])
      have HS := Lib.hid (set_snoc l i v k hll)
      clear hcs
      generalize l[k] = x at *
      have HO := Lib.hid ho
      clear ho
      by_cases hik : i = k
      · have hb1 : ((k : Int) == (i : Int)) = true := by simp [hik]
        have hT : Hid (intsV ((l.set i v).take (k + 1)) = intsV ((l.set i v).take k) ++ [.int .i64 (v : Int)]) := by rw [HS.out, if_pos hik]; rfl
        clear hik HS hc
        go_wp2_with (at_builtin; refine wpList_append_any _ rfl (.tmp 18) (.tmp 20) _ rfl w.heap.size 3 i0 _ 1 8 Tryd.underlying24 HI.out HZ.out hz1 hz2 rfl (by omega) _ k _ rfl (ownsRow_alloc HO.out _) (wr.heap.size + 1) _ 1 1 [.int .i64 (v : Int)] rfl (reads_new _ _ _) (by simp [Value.oneCell']) (by simp [maxLen]; omega) (by omega) (by simp; omega) ?_)
        intro v' w1 hown hgrow _
        obtain ⟨A', c', rfl⟩ := ownsRow_slice hown
        have hB1 : Below w.heap.size w w1 := (hB.alloc hB.size _).grown hgrow (by simp; omega) (fun j hj => (ownsRow_block HO.out hj).1)
        have HO1 : Hid (w1.ownsRow w.heap.size 3 1 (.slice A' (k + 1) c') (k + 1) (intsV ((l.set i v).take (k + 1)))) := by rw [hT.out]; exact hown
        clear hown hgrow hT HO
        go_wp2
        go_roundw
        case rel => exact ⟨k + 1, by omega, by go_num, HO1.out, hB1⟩
        case measure => simp [intOf]; omega
      · have hb1 : ((k : Int) == (i : Int)) = false := by simp; omega
        have hT : Hid (intsV ((l.set i v).take (k + 1)) = intsV ((l.set i v).take k) ++ [.int .i64 (x : Int)]) := by rw [HS.out, if_neg hik]; rfl
        clear hik HS
        go_wp2_with (at_builtin; refine wpList_append_any _ rfl (.tmp 22) (.tmp 27) _ rfl w.heap.size 3 i0 _ 1 8 Tryd.underlying24 HI.out HZ.out hz1 hz2 rfl (by omega) _ k _ rfl (ownsRow_alloc HO.out _) (wr.heap.size + 1) _ 1 1 [.int .i64 (x : Int)] rfl (reads_new _ _ _) (by simp [Value.oneCell']) (by simp [maxLen]; omega) (by omega) (by simp; omega) ?_)
        intro v' w1 hown hgrow _
        obtain ⟨A', c', rfl⟩ := ownsRow_slice hown
        have hB1 : Below w.heap.size w w1 := (hB.alloc hB.size _).grown hgrow (by simp; omega) (fun j hj => (ownsRow_block HO.out hj).1)
        have HO1 : Hid (w1.ownsRow w.heap.size 3 1 (.slice A' (k + 1) c') (k + 1) (intsV ((l.set i v).take (k + 1)))) := by rw [hT.out]; exact hown
        clear hown hgrow hT HO hc
        go_wp2
        go_roundw
        case rel => exact ⟨k + 1, by omega, by go_num, HO1.out, hB1⟩
        case measure => simp [intOf]; omega
    · obtain rfl : k = n := by omega
      have hfin : Hid (wr.ownsRow w.heap.size 3 1 (.slice Ao k co) k (intsV (l.set i v))) := by
        have h2 := ho
        rw [List.take_of_length_le (by simp; rw [HL.out]; omega)] at h2
        exact h2
      clear ho
      go_wp2
      go_ret
      exact ⟨_, _, rfl, hfin.out, hB⟩
end Go.Proofs.YtpppfiagaiaggaaDoor
