/- For every list of user labels, of file labels and of asks, TrailPlays hands back true, and its arguments read as they did before the call. Conditions: the four listed package-level variables hold what the program's text lays into them (the card ties them to that text). -/
import Derived.Test.YtpppfiagaiaggaaDoorLawPlaysB
import Derived.Test.YtpppfiagaiaggaaDoorQwOpen
import Derived.Test.YtpppfiagaiaggaaDoorTie
import Derived.Test.YtpppfiagaiaggaaDoorCards
import Derived.ProofKit
import Derived.LaidMore
import Derived.LaidHandle
import Derived.OpenShut
import Derived.ChangeSame
import Derived.Carry
import Derived.Stop.Joined
import Derived.Stop.LaidErr
import Derived.Lib.LaidTab
import Derived.Deep.Slices
import Derived.Deep.Fields
import Derived.SevenTiedAt
namespace Go.Proofs.YtpppfiagaiaggaaDoor
open Go.ChangeShapes Go.WideShapes Go.ChangeAt Go.RowKit Go.Deep

theorem own : ownKnob Tryd.prog.godebug = none := by kernel_rfl
theorem laidOut : laidOutB Tryd.prog = true := by kernel_rfl

/-! ### What the listed variables give the walks -/
theorem gTab : Tryd.prog.globalNamed "math/bits.deBruijn64tab" = some 3 := by kernel_rfl
theorem gType : Tryd.prog.globalNamed "errors.errorType" = some 0 := by kernel_rfl
theorem rtAt : (Tryd.prog.cutTypes.find? (·.1 == "internal/reflectlite.rtype")).map (·.2) = some 104 := by kernel_rfl
theorem typesN : Tryd.prog.types.size = 165 := by kernel_rfl
theorem oneRow : ((List.range 165).filter fun t => Tryd.prog.rowNamed t [101, 114, 114, 111, 114]) = [31] := by kernel_rfl
theorem handleErr : typeHandle Tryd.prog 31 = .pointer (some ⟨4, 31, none⟩) := by kernel_rfl

def laidT : List (String × DataW Unit) := Rows.trailPlaysRow.laid
theorem laid_parts {W : World} (h : laidMetH Tryd.prog laidT W) : laidMet Tryd.prog [("math/bits.deBruijn32tab", Rows.laid_math_bits_deBruijn32tab), ("math/bits.deBruijn64tab", Rows.laid_math_bits_deBruijn64tab), ("internal/strconv.uint64pow10", Rows.laid_internal_strconv_uint64pow10)] W ∧
    handlesMet Tryd.prog [("errors.errorType", Rows.laid_errors_errorType)] W := h
theorem typed_of_laid {W : World} (h : laidMetH Tryd.prog laidT W) : ErrTyped W := by
  obtain ⟨name, u, ty, e1, e2, e3, e4, e5⟩ := (laid_parts h).2 _ (List.mem_singleton.2 rfl)
  have en : name = [101, 114, 114, 111, 114] := (Option.some.inj e1).symm
  subst en
  obtain rfl := Option.some.inj (rtAt.symm.trans e2)
  have hm : ty ∈ (List.range 165).filter fun t => Tryd.prog.rowNamed t [101, 114, 114, 111, 114] := List.mem_filter.2 ⟨List.mem_range.2 (by rw [← typesN]; exact e3), e4⟩
  rw [oneRow] at hm
  obtain rfl := List.mem_singleton.1 hm
  rw [handleErr] at e5
  have := World.var?_cell gType e5 0
  unfold ErrTyped
  simpa using this
theorem tab_of_laid {W : World} (h : laidMetH Tryd.prog laidT W) : Lib.TabIs Tryd.prog W "math/bits.deBruijn64tab" .u8 (Lib.deBruijn64tab.map fun n => ((n : Nat) : Int)) :=
  Lib.tabIs_of_head gTab (t := 137) (e := 5) (n := 64) (by kernel_rfl) (by kernel_rfl) (by kernel_rfl) (by kernel_rfl) (by kernel_rfl) (laidMet.tail (laid_parts h).1)
theorem pow_of_laid {W : World} (h : laidMetH Tryd.prog laidT W) : Lib.TabIs Tryd.prog W "internal/strconv.uint64pow10" .u64 Lib.pow10Tab :=
  Lib.tabIs_of_head pow_at (t := 134) (e := 126) (n := 20) (by kernel_rfl) (by kernel_rfl) (by kernel_rfl) (by kernel_rfl) (by kernel_rfl) (laidMet.tail (laidMet.tail (laid_parts h).1))
theorem env_of_laid {W : World} (h : laidMetH Tryd.prog laidT W) : Env W :=
  have hn : 4 ≤ W.heap.size := by
    have := cell_ltB ((tab_of_laid h).cell gTab 0 (by decide))
    exact this
  ⟨hn, fun j hj => by
    have := (tab_of_laid h).cell gTab j (by simpa using hj)
    rw [this]
    simp [List.getD, List.getElem?_map, List.getElem?_eq_getElem hj], pow_of_laid h, typed_of_laid h⟩

theorem door_met (os : Os) (args : Array Value) : laidMetH Tryd.prog laidT ((World.doorLaid Tryd.prog 400 os).forCall (fun _ _ => 0) ⟨#[], args, []⟩).memory :=
  laidMetH_of_parts3 (fuel := 8) (laidMet_of_run' 8 (by kernel_rfl) (by kernel_rfl)) (by kernel_rfl) (by kernel_rfl)

set_option maxRecDepth 100000 in
theorem lifted (os : Os) (started : os.Started) (H : Type) (enc : TypeId × Value → H) :
    ReturnsInHanded {} Tryd.checked os 3 .any (fun w args => (Rows.trailPlaysSpec.pre enc Tryd.prog Tryd.f3 [] false w args ∧ laidMetH Tryd.prog laidT w) ∧ sizedMet enc Tryd.prog Tryd.f3 (OpenSpec.ofChange Rows.trailPlaysSpec) false w args)
      (Rows.trailPlaysSpec.post enc Tryd.prog Tryd.f3 false true false false) := by
  refine returnsInHanded_of_change_and (C := Tryd.checked) (X := fun w _ => laidMetH Tryd.prog laidT w) (fun _ _ _ hh h => h.of_heap hh) own started (by kernel_rfl) Tryd.func3
    (ChangeSpec.witness_shaped (enc := enc) (C := Tryd.checked) (os := os) (X := fun w _ => laidMetH Tryd.prog laidT w) false (World.doorLaid Tryd.prog 400 os) #[.slice none 0 0, .slice none 0 0, .slice none 0 0] 8 rfl (World.shaped_of_RefB (by kernel_rfl) (by kernel_rfl)) (by kernel_rfl) (by kernel_rfl) (by kernel_rfl) (door_met os _)) ?_
  intro W base args ds gs before hval0 hW _ _ hL _
  have hval : ∀ (j : Nat) t v, Tryd.f3.params[j]? = some t → args[j]? = some v → Value.okWide Tryd.prog W .any base t v := hval0
  have hW' := hW
  have hlt := hW.lt
  obtain ⟨p, q, hA0, hV, rfl, hfz, hnd⟩ := hW
  have hA : DataW.TrodAll enc Tryd.prog W 0 (fun _ => true) true Tryd.f3.params.toList args.toList ds p := hA0
  rw [Tryd.params3] at hA hval
  obtain ⟨v0, v1, v2, d0, d1, d2, p0, p1, p2, rfl, rfl, rfl, h0, h1, h2⟩ := trodAll_three hA
  obtain ⟨rfl, rfl⟩ := trodVars_none hV
  obtain ⟨A, n, c, us, rfl, l0⟩ := open_labs (hval 0 _ v0 rfl rfl) h0
  obtain ⟨A', n', c', fs, rfl, l1⟩ := open_labs (hval 1 _ v1 rfl rfl) h1
  obtain ⟨A2, n2, c2, xs, rfl, l2⟩ := open_asks (hval 2 _ v2 rfl rfl) h2
  have hE := env_of_laid hL
  clear hA0 hval0
  have main : Calls Tryd.prog 3 #[.slice A n c, .slice A' n' c', .slice A2 n2 c2] W fun e w' => e = .returned (.bool true) ∧ Below W.heap.size W w' := by
    by_cases he : bellErr us fs = 0
    · exact plays_ok A A' A2 n c n' c' n2 c2 us fs xs W l0 l1 l2 hE he
    · exact plays_err A A' A2 n c n' c' n2 c2 us fs W l0 l1 hE he
  refine main.mono fun e W' ⟨he, hb⟩ => ?_
  subst he
  have hm : ∀ x ∈ p0 ++ p1 ++ p2, x.block < W.heap.size := fun x hx => hlt x (by simpa using hx)
  exact ⟨_, rfl, _, _, _, [], _, [], hW', trodAll_mk1 (shut_bool (by kernel_rfl) true),
    trodAll_mk3 (Below.trod laidOut (by kernel_rfl) (of_decide_eq_true (by kernel_rfl)) h0 hb fun x hx => hm x (by simp [hx])) (Below.trod laidOut (by kernel_rfl) (of_decide_eq_true (by kernel_rfl)) h1 hb fun x hx => hm x (by simp [hx])) (Below.trod laidOut (by kernel_rfl) (of_decide_eq_true (by kernel_rfl)) h2 hb fun x hx => hm x (by simp [hx])),
    rfl, hb.frame _, fun h => by cases h⟩

theorem trailPlays_holds : Rows.TrailPlaysSaid :=
  OpenClaim.holds_of_wide 3 Tryd.f3 rfl rfl rfl rfl rfl rfl rfl ⟨rfl, rfl, rfl, rfl, rfl⟩ rfl rfl rfl rfl rfl (by kernel_rfl) Tryd.func3 (by kernel_rfl)
    (of_decide_eq_true (by kernel_rfl)) (by unfold Func.isWrapper; first | (rw [if_pos (by decide +kernel)]; kernel_rfl) | (rw [if_neg (by decide +kernel)]; exact ⟨rfl, rfl⟩))
    (fun os started H enc _ => lifted os started H enc)

/-- The card. -/
theorem trailPlaysCard_holds : Rows.TrailPlaysCardSaid :=
  Claim7.holds_tied_plain_at .later [] [.data, .data, .data, .handle] true (true, "7c3493579d646f60b750b10be5103543f327c7c0ee67c4969c4cd874fb0c3699") true
    trailPlays_holds (fun _ h => by cases h) (by kernel_rfl) (fun _ h => by cases h) trailPlays_row_tie rfl ⟨rfl, rfl⟩ (by kernel_rfl) rfl
    (fun f fn hf hfn => by
      obtain rfl : f = 3 := Option.some.inj ((show Tryd.prog.funcNamed "quietwing/quietwinglaw6.TrailPlays" = some 3 by kernel_rfl).symm.trans hf) |>.symm
      obtain rfl : fn = Tryd.f3 := (Option.some.inj (Tryd.func3.symm.trans hfn)).symm
      exact ⟨by kernel_rfl, fun j t ht => by
        rw [Tryd.params3] at ht
        rcases j with _ | _ | _ | j
        · obtain rfl := Option.some.inj ht; kernel_rfl
        · obtain rfl := Option.some.inj ht; kernel_rfl
        · obtain rfl := Option.some.inj ht; kernel_rfl
        · simp at ht⟩)
    (by kernel_rfl)
#print axioms trailPlaysCard_holds
end Go.Proofs.YtpppfiagaiaggaaDoor
