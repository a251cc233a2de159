/- strings.Builder, wherever it lies: a block of its own, or a field of a struct. -/
import Derived.Test.YtpppfiagaiaggaaDoorQwMon
import Derived.Lib.FrozenHead
import Derived.Shelf.Strings.BuilderF
import Derived.Shelf.Strings.BuilderK
namespace Go.Proofs.YtpppfiagaiaggaaDoor
open Go.RowKit

section
variable {P : Program} (w : World)
/-- append of a string's bytes onto an owned row: and where the new row lies. -/
theorem run_append_str_at (base : Nat) (t u ty e : TypeId) (i : TypeInfo) (ht : P.underlying t = some (.slice e)) (hu : P.underlying u = some .string) (hi : P.info? e = some i) (hz : i.zero = some (.int .u8 0))
    (hsize : i.size = 1) (hby : i.bytes = 1)
    (v : Value) (n : Nat) (xs : List Value) (hown : w.ownsRowF base e 1 v n xs) (s : ByteArray)
    (h63 : n + s.size ≤ maxLen) (hbytes : n + s.size ≤ 140737488355328) (hbase : base ≤ w.heap.size) :
    ∃ v' w', (Builtin.append_ #[t, u] ty #[v, .string s]).run P w = .ok v' w' ∧ w'.ownsRowF base e 1 v' (n + s.size) (xs ++ Lib.strCells s) ∧ w.grownBy w' v.ownBlock ∧
      (v'.ownBlock = v.ownBlock ∨ v'.ownBlock = some w.heap.size) ∧ (v' = .slice none 0 0 ↔ v = .slice none 0 0 ∧ s.size = 0) := by
  have hsmall : n + s.size ≤ 9223372036854775807 := by simp only [maxLen] at h63; omega
  have hxl : xs.length = n := by simpa using hown.1
  obtain ⟨v', w', h1, h2, h3, h4⟩ := Lib.run_append_own_stringF (P := P) w base t u ty e i ht hu hi hz hsize hby v n xs hown s h63 hbytes hbase
  refine ⟨v', w', h1, h2, h3, ?_, h4⟩
  rcases hown.2 with ⟨rfl, rfl⟩ | ⟨g, cap, cur, fz, rfl, hbg, hg, hfz, hnc, hcm, hcs, htake⟩
  · by_cases hm : s.size = 0
    · exact .inl (by rw [h4.2 ⟨rfl, hm⟩])
    · have hr := run_append_nil_string (P := P) w t u ty e i (.int .u8 0) ht hu hi hz s (by omega) (by omega) (by rw [hby]; omega)
      rw [h1] at hr
      injection hr with e1 e2
      exact .inr (by rw [e1]; rfl)
  · by_cases hroom : n + s.size ≤ cap
    · have hcs' : cur.size = cap := by simpa using hcs
      have hr := Lib.run_append_room_stringF (P := P) w t u ty e i ht hu hi hsize g n cap cur fz hg (by simpa using hfz) s hroom (by omega)
      rw [h1] at hr
      injection hr with e1 e2
      exact .inl (by rw [e1]; rfl)
    · have holds : ∀ j u, xs[j]? = some u → w.cell? ((⟨g, 0, none⟩ : Addr).add j) = some u := hown.cells (g := g) rfl
      have hr := Lib.run_append_grow_string (P := P) w t u ty e i (.int .u8 0) ht hu hi hz ⟨g, 0, none⟩ n cap xs (by rw [hsize]; simpa using hxl) holds s (by omega) (by omega) (by rw [hby]; exact growslice_fits (by omega) (by omega))
      rw [h1] at hr
      injection hr with e1 e2
      exact .inr (by rw [e1]; rfl)

theorem wpList_append_str_at {ops : Array Oper} {rest : List Oper} {o : Oper} {a : Act} {Q : Exit → Act → World → Prop} (hgd : o.guard = none) (sl x : Operand) (t u : TypeId)
    (ho : o.op = .call { callee := .builtin .append, args := #[sl, x], argTypes := #[t, u] })
    (base : Nat) (e : TypeId) (i : TypeInfo) (ht : P.underlying t = some (.slice e)) (hu : P.underlying u = some .string) (hi : P.info? e = some i) (hz : i.zero = some (.int .u8 0))
    (hsize : i.size = 1) (hby : i.bytes = 1)
    (v : Value) (n : Nat) (xs : List Value) (hs : a.eval sl = v) (hown : w.ownsRowF base e 1 v n xs) (s : ByteArray) (hx : a.eval x = .string s)
    (h63 : n + s.size ≤ maxLen) (hbytes : n + s.size ≤ 140737488355328) (hbase : base ≤ w.heap.size)
    (h : ∀ v' w', w'.ownsRowF base e 1 v' (n + s.size) (xs ++ Lib.strCells s) → w.grownBy w' v.ownBlock → (v'.ownBlock = v.ownBlock ∨ v'.ownBlock = some w.heap.size) → (v' = .slice none 0 0 ↔ v = .slice none 0 0 ∧ s.size = 0) → wpList P ops Q rest (a.put o.dst v') w') : wpList P ops Q (o :: rest) a w := by
  refine wpList_plain hgd fun K hK => ?_
  obtain ⟨v', w', hr, h2, h3, h4, h5⟩ := run_append_str_at (P := P) w base t u o.type e i ht hu hi hz hsize hby v n xs hown s h63 hbytes hbase
  unfold Oper.wp execOp
  simp only [ho, resolve, invoke, builtin, Sem.run_bind, Sem.run_pure, Result.andThen_ok, List.map_toArray, List.map_cons, List.map_nil, hs, hx, hr]
  exact hK _ _ (h v' w' h2 h3 h4 h5)
end

theorem ownsRowF_slice {w : World} {B : Nat} {e : TypeId} {size n : Nat} {v : Value} {xs : List Value} (h : w.ownsRowF B e size v n xs) : ∃ A c, v = .slice A n c := by
  rcases h.2 with ⟨rfl, rfl⟩ | ⟨g, cap, cur, fz, rfl, _⟩
  · exact ⟨none, 0, rfl⟩
  · exact ⟨_, _, rfl⟩

theorem ownF_blk_ne {w : World} {B g : Nat} {t e : TypeId} {cs : Array Value} {size n : Nat} {v : Value} {xs : List Value} (h : w.ownsRowF B e size v n xs) (hg : Blk w g t cs) (hne : e ≠ t) : v.ownBlock ≠ some g := by
  rcases h.2 with ⟨rfl, _⟩ | ⟨g', cap, cur, fz, rfl, _, hh, _⟩
  · simp [Value.ownBlock]
  · intro he
    have : g' = g := by simpa [Value.ownBlock] using he
    subst this
    unfold Blk at hg
    rw [hh] at hg
    injection hg with e1
    injection e1 with _ e2
    exact hne e2

theorem ownsRowF_same {w w' : World} {B : Nat} {e : TypeId} {size n : Nat} {v : Value} {xs : List Value} (h : w.ownsRowF B e size v n xs) (hk : ∀ k, v.ownBlock = some k → w'.heap[k]? = w.heap[k]?) : w'.ownsRowF B e size v n xs := by
  refine ⟨h.1, ?_⟩
  rcases h.2 with h2 | ⟨g, cap, cur, fz, hv, hg, hh, r⟩
  · exact .inl h2
  · exact .inr ⟨g, cap, cur, fz, hv, hg, by rw [hk g (by rw [hv]; simp [Value.ownBlock])]; exact hh, r⟩

/-- A builder at ⟨b, o⟩: what its block holds, its buffer, the bytes written. -/
structure BAt (w : World) (B b o : Nat) (t : TypeId) (cs : Array Value) (p v : Value) (l : List UInt8) : Prop where
  base : B ≤ b
  blk : Blk w b t cs
  ne : 5 ≠ t
  p_ : cs[o]? = some p
  v_ : cs[o + 1]? = some v
  pv : p = .pointer none ∨ p = .pointer (some ⟨b, o, none⟩)
  own : w.ownsRowF B 5 1 v l.length (Lib.byteCells l)
  nil_ : l = [] → v = .slice none 0 0

def bfoot (b : Nat) (v : Value) (k : Nat) : Prop := k = b ∨ v.ownBlock = some k

theorem info_byte : (Tryd.prog.info? 5).map (fun i => (i.zero, i.size, i.bytes)) = some (some (.int .u8 0), 1, 1) := by kernel_rfl

theorem noEscape (v : Value) (w : World) : (callFunc 61 #[v]).run Tryd.prog w = .ok (.value v) w := by kernel_rfl

theorem bld_size : (Tryd.prog.info? 52).map (·.size) = some 2 := by kernel_rfl

/-- Where a builder may lie: a type of so many cells that bears one at an offset. -/
def Lies (t cells o : Nat) : Prop := liesAt Tryd.prog Tryd.prog.depth t (cells / Tryd.prog.cellsOf t) o 52 1 = true
theorem lies_own : Lies 52 2 0 := by unfold Lies; kernel_rfl
theorem lies_trail : Lies 54 5 1 := by unfold Lies; kernel_rfl

set_option maxRecDepth 100000 in
theorem copyCheck_fresh (b o t : Nat) (cs : Array Value) (w : World) (hb : Blk w b t cs) (hl : Lies t cs.size o) (c0 : w.cell? ⟨b, o, none⟩ = some (.pointer none)) (ho : o < cs.size) :
    Calls Tryd.prog 49 #[.pointer (some ⟨b, o, none⟩)] w fun e w' => e = .returned (.tuple #[]) ∧ w.setCell ⟨b, o, none⟩ (.pointer (some ⟨b, o, none⟩)) = w' := by
  obtain ⟨j, hj, hjs⟩ := Option.map_eq_some_iff.1 bld_size
  have hsh : w.shape? b = some (t, cs.size) := by unfold Blk at hb; simp [World.shape?, hb]
  have hN := noEscape
  have h1 := Lib.run_to_unsafe (P := Tryd.prog) w ⟨b, o, none⟩ Tryd.underlying49 Tryd.underlying88 hj (by rw [hjs]; decide) hsh ho
  have h2 := Lib.run_from_unsafe (P := Tryd.prog) w ⟨b, o, none⟩ Tryd.underlying88 Tryd.underlying49 hj hsh hl
  have hfz := hb.frozen o
  have HB := Lib.hid hb
  clear hb hj hjs hsh hl
  go_enter Tryd.func49, Tryd.ntmps49
  go_wp2
  go_end0
  exact ⟨rfl, rfl⟩

set_option maxRecDepth 100000 in
theorem copyCheck_used (b o : Nat) (w : World) (c0 : w.cell? ⟨b, o, none⟩ = some (.pointer (some ⟨b, o, none⟩))) :
    Calls Tryd.prog 49 #[.pointer (some ⟨b, o, none⟩)] w fun e w' => e = .returned (.tuple #[]) ∧ w = w' := by
  obtain ⟨j, hj, _⟩ := Option.map_eq_some_iff.1 bld_size
  go_enter Tryd.func49, Tryd.ntmps49
  go_wp2
  rw [Lib.run_neq_ptr_same w _ Tryd.underlying49 hj]
  go_wp2
  go_end0
  exact ⟨rfl, rfl⟩

theorem arr_set_get (cs : Array Value) (o : Nat) (v : Value) (h : o < cs.size) : (cs.setIfInBounds o v)[o]? = some v := by
  rw [Array.getElem?_setIfInBounds]; simp [h]

theorem BAt.sizes {w : World} {B b o t : Nat} {cs : Array Value} {p v : Value} {l : List UInt8} (h : BAt w B b o t cs p v l) : o + 1 < cs.size := by
  have := h.v_
  exact (Array.getElem?_eq_some_iff.1 this).1

theorem BAt.foot_ge {w : World} {B b o t : Nat} {cs : Array Value} {p v : Value} {l : List UInt8} (h : BAt w B b o t cs p v l) {k : Nat} (hk : bfoot b v k) : B ≤ k ∧ k < w.heap.size := by
  rcases hk with rfl | hk
  · exact ⟨h.base, h.blk.lt⟩
  · exact h.own.lt k hk

theorem BAt.same {w w' : World} {B b o t : Nat} {cs : Array Value} {p v : Value} {l : List UInt8} (h : BAt w B b o t cs p v l) (hk : ∀ k, bfoot b v k → w'.heap[k]? = w.heap[k]?) : BAt w' B b o t cs p v l :=
  ⟨h.base, (hk b (.inl rfl)).trans h.blk, h.ne, h.p_, h.v_, h.pv, ownsRowF_same h.own fun k e => hk k (.inr e), h.nil_⟩

/-- copyCheck: behind it the builder is used. -/
theorem copyCheck_calls (B b o t : Nat) (cs : Array Value) (p v : Value) (l : List UInt8) (w : World) (h : BAt w B b o t cs p v l) (hl : Lies t cs.size o) :
    Calls Tryd.prog 49 #[.pointer (some ⟨b, o, none⟩)] w fun e w' => e = .returned (.tuple #[]) ∧
      BAt w' B b o t (cs.setIfInBounds o (.pointer (some ⟨b, o, none⟩))) (.pointer (some ⟨b, o, none⟩)) v l ∧ Kp (· = b) w w' := by
  have hs := h.sizes
  rcases h.pv with rfl | rfl
  · refine (copyCheck_fresh b o t cs w h.blk hl (by rw [h.blk.cell]; exact h.p_) (by omega)).mono ?_
    rintro e w' ⟨rfl, rfl⟩
    have hb' := h.blk.set_ o (.pointer (some ⟨b, o, none⟩))
    refine ⟨rfl, ⟨h.base, hb', h.ne, arr_set_get _ _ _ (by omega), ?_, .inr rfl, ?_, h.nil_⟩, (Kp.refl (· = b) w).setCell (p := ⟨b, o, none⟩) (.inl rfl) _⟩
    · rw [Array.getElem?_setIfInBounds_ne (by omega)]; exact h.v_
    · refine ownsRowF_same h.own fun k hk => Below.heap_setCell _ _ _ _ fun e => ?_
      exact ownF_blk_ne h.own h.blk h.ne (by rw [hk, show k = b from e])
  · refine (copyCheck_used b o w (by rw [h.blk.cell]; exact h.p_)).mono ?_
    rintro e w' ⟨rfl, rfl⟩
    have e1 : cs.setIfInBounds o (.pointer (some ⟨b, o, none⟩)) = cs := by
      apply Array.ext_getElem?
      intro i
      rw [Array.getElem?_setIfInBounds]
      split
      · rename_i hi; subst hi; rw [h.p_]; simp; omega
      · rfl
    rw [e1]
    exact ⟨rfl, h, Kp.refl _ _⟩

set_option maxHeartbeats 1000000 in
set_option maxRecDepth 100000 in
theorem writeString_calls (B b o t : Nat) (cs : Array Value) (p v : Value) (l : List UInt8) (s : ByteArray) (w : World) (h : BAt w B b o t cs p v l) (hl : Lies t cs.size o) (hlen : l.length + s.size ≤ 140737488355328) (hB : B ≤ w.heap.size) :
    Calls Tryd.prog 25 #[.pointer (some ⟨b, o, none⟩), .string s] w fun e w' => ∃ v', e = .returned (.tuple #[.int .i64 s.size, .nilIface]) ∧
      BAt w' B b o t ((cs.setIfInBounds o (.pointer (some ⟨b, o, none⟩))).setIfInBounds (o + 1) v') (.pointer (some ⟨b, o, none⟩)) v' (l ++ s.data.toList) ∧ Kp (bfoot b v) w w' ∧ (∀ k, v'.ownBlock = some k → v.ownBlock = some k ∨ w.heap.size ≤ k) := by
  obtain ⟨i0, hi, hz0, hz1, hz2⟩ := info_parts info_byte
  have hs := h.sizes
  have HC := Lib.hid (copyCheck_calls B b o t cs p v l w h hl)
  have HI := Lib.hid hi
  have HS := Lib.hid hs
  clear h hl hi hs
  go_enter Tryd.func25, Tryd.ntmps25
  go_wp2_with fail
  refine HC.out.mono ?_
  rintro e w1 ⟨rfl, h1, hk1⟩
  have c1 : w1.cell? ⟨b, o + 1, none⟩ = some v := by rw [h1.blk.cell]; exact h1.v_
  have H1 := Lib.hid h1
  have HK := Lib.hid hk1
  clear h1 hk1
  go_wp2_with (at_builtin; refine wpList_append_str_at _ rfl _ _ 50 9 rfl B 5 i0 Tryd.underlying50 Tryd.underlying9 HI.out hz0 hz1 hz2 _ _ _ rfl H1.out.own s rfl ?c3 ?c4 ?c5 ?_)
  case c3 => unfold maxLen; omega
  case c4 => omega
  case c5 => have := HK.out.size; omega
  intro v' w2 hown' hgrow hat hnil
  have h1 := H1.out
  have hk1 := HK.out
  have hne : v.ownBlock ≠ some b := ownF_blk_ne h1.own h1.blk h1.ne
  have hb2 := h1.blk.grown hgrow (fun e => hne e.symm)
  have c2 : w2.cell? ⟨b, o + 1, none⟩ = some v := by rw [hb2.cell]; exact h1.v_
  have f2 := hb2.frozen (o + 1)
  obtain ⟨A', k', hv'⟩ := ownsRowF_slice hown'
  have hvn : v'.ownBlock ≠ some b := by
    rcases hat with e | e
    · rw [e]; exact hne
    · rw [e]; have := h1.blk.lt; simp; omega
  have hfin : BAt (w2.setCell ⟨b, o + 1, none⟩ v') B b o t ((cs.setIfInBounds o (.pointer (some ⟨b, o, none⟩))).setIfInBounds (o + 1) v') (.pointer (some ⟨b, o, none⟩)) v' (l ++ s.data.toList) ∧ Kp (bfoot b v) w (w2.setCell ⟨b, o + 1, none⟩ v') ∧ (∀ k, v'.ownBlock = some k → v.ownBlock = some k ∨ w.heap.size ≤ k) := by
    have hs := HS.out
    refine ⟨⟨h1.base, hb2.set_ (o + 1) v', h1.ne, ?_, arr_set_get _ _ _ (by rw [Array.size_setIfInBounds]; omega), .inr rfl, ?_, ?_⟩, ?_, ?_⟩
    · rw [Array.getElem?_setIfInBounds_ne (by omega)]; exact h1.p_
    · have e1 : (l ++ s.data.toList).length = l.length + s.size := by rw [List.length_append, Array.length_toList]; rfl
      have e2 : Lib.byteCells (l ++ s.data.toList) = Lib.byteCells l ++ Lib.strCells s := by simp [Lib.byteCells, Lib.strCells]
      rw [e1, e2]
      exact ownsRowF_same hown' fun k hk => Below.heap_setCell _ _ _ _ fun e => hvn (by rw [hk, e])
    · intro hnl
      obtain ⟨e1, e2⟩ := List.append_eq_nil_iff.1 hnl
      exact hnil.2 ⟨h1.nil_ e1, by have := congrArg List.length e2; simpa using this⟩
    · refine Kp.setCell ?_ (.inl (.inl rfl)) _
      refine (hk1.mono (G := bfoot b v) fun n _ hn => .inl hn).trans (G := bfoot b v) ⟨hgrow.os, hgrow.tape, hgrow.output, hgrow.size, fun k hk hF => hgrow.block k hk fun e => hF (.inr e.symm)⟩ fun _ _ h => h
    · intro k hk
      rcases hat with e | e
      · exact .inl (by rw [← e]; exact hk)
      · rw [e] at hk; injection hk with hk; have := hk1.size; omega
  have HF := Lib.hid hfin
  rw [hv'] at HF ⊢
  clear hfin hv' hown' hgrow hat hnil h1 hk1 hb2 hne hvn
  go_wp2
  go_ret2
  exact ⟨_, rfl, HF.out.1, HF.out.2.1, HF.out.2.2⟩

/-! ### String: the bytes; they are frozen in the buffer -/
theorem byteCells_length (l : List UInt8) : (Lib.byteCells l).length = l.length := Lib.byteCells_length l

theorem kp_freeze {F : Nat → Prop} {w x : World} (h : Kp F w x) (a : Addr) (n : Nat) (ha : F a.block ∨ w.heap.size ≤ a.block) : Kp F w (x.freeze a n) := by
  unfold World.freeze
  split
  · exact h
  · refine ⟨h.os, h.tape, h.output, by simpa using h.size, fun k hk hF => ?_⟩
    have hne : a.block ≠ k := by
      rcases ha with ha | ha
      · exact fun e => hF (e ▸ ha)
      · omega
    simp only [Array.getElem?_modify, if_neg hne]
    exact h.block k hk hF

theorem froze_other {w : World} (a : Addr) (n k : Nat) (hk : k ≠ a.block) : (w.freeze a n).heap[k]? = w.heap[k]? := by
  unfold World.freeze
  split
  · rfl
  · simp only [Array.getElem?_modify, if_neg (Ne.symm hk)]

theorem ownsRowF_freeze {w : World} {B : Nat} {e : TypeId} {g n cap : Nat} {xs : List Value} (h : w.ownsRowF B e 1 (.slice (some ⟨g, 0, none⟩) n cap) n xs) :
    (w.freeze ⟨g, 0, none⟩ n).ownsRowF B e 1 (.slice (some ⟨g, 0, none⟩) n cap) n xs := by
  refine ⟨h.1, ?_⟩
  rcases h.2 with ⟨hv, _⟩ | ⟨g', cap', cur, fz, hv, hg, hh, hfz, r⟩
  · cases hv
  · injection hv with e1 e2 e3
    injection e1 with e1
    injection e1 with e1
    subst e1 e3
    by_cases hn : n = 0
    · refine .inr ⟨g, cap, cur, fz, rfl, hg, ?_, hfz, r⟩
      simp [World.freeze, hn, hh]
    · obtain ⟨lo, hi⟩ := fz
      refine .inr ⟨g, cap, cur, if lo == hi then (0, 0 + n) else (min lo 0, max hi (0 + n)), rfl, hg, ?_, ?_, r⟩
      · simp [World.freeze, hn, Array.getElem?_modify, hh]
      · simp only at hfz
        split
        · simp
        · simp only []; omega

set_option maxHeartbeats 1000000 in
set_option maxRecDepth 100000 in
theorem bldString_calls (B b o t : Nat) (cs : Array Value) (p v : Value) (l : List UInt8) (w : World) (h : BAt w B b o t cs p v l) (hlen : l.length ≤ 140737488355328) :
    Calls Tryd.prog 26 #[.pointer (some ⟨b, o, none⟩)] w fun e w' => e = .returned (.string ⟨l.toArray⟩) ∧ BAt w' B b o t cs p v l ∧ Kp (bfoot b v) w w' := by
  by_cases h0 : l = []
  · subst h0
    obtain rfl := h.nil_ rfl
    have hUS := fun w => Lib.run_unsafeString_none (P := Tryd.prog) w 86 3 9 none
    have hSD : ∀ w, (Builtin.unsafeSliceData_ #[50] 86 #[.slice none 0 0]).run Tryd.prog w = .ok (.pointer none) w := fun _ => rfl
    have c1 : w.drew.cell? ⟨b, o + 1, none⟩ = some (.slice none 0 0) := by
      have := h.blk.drew.cell (o + 1)
      rw [this]; exact h.v_
    have hfin : BAt w.drew B b o t cs p (.slice none 0 0) [] ∧ Kp (bfoot b (.slice none 0 0)) w w.drew := ⟨h.same fun _ _ => rfl, (Kp.refl _ _).drew⟩
    have HF := Lib.hid hfin
    clear hfin h hlen
    go_enter Tryd.func26, Tryd.ntmps26
    go_wp2
    go_region
    all_goals (go_wp2; go_ret; exact ⟨rfl, HF.out.1, HF.out.2⟩)
  · have hl0 : l.length ≠ 0 := by simpa using h0
    obtain ⟨g, cap, cur, fz, rfl, hbg, hg, hfz, hnc, hcm, hcs, htake⟩ : ∃ g cap cur fz, v = .slice (some ⟨g, 0, none⟩) l.length cap ∧ B ≤ g ∧ w.heap[g]? = some (.cells cur 5 fz) ∧ fz.2 ≤ l.length * 1 ∧ l.length ≤ cap ∧ cap ≤ maxLen ∧ cur.size = cap * 1 ∧ cur.toList.take (l.length * 1) = Lib.byteCells l := by
      rcases h.own.2 with ⟨_, hz⟩ | ⟨g, cap, cur, fz, hv, r⟩
      · exact absurd hz hl0
      · exact ⟨g, cap, cur, fz, hv, r⟩
    have c1 : w.drew.cell? ⟨b, o + 1, none⟩ = some (.slice (some ⟨g, 0, none⟩) l.length cap) := by
      have := h.blk.drew.cell (o + 1)
      rw [this]; exact h.v_
    have hSD : (Builtin.unsafeSliceData_ #[50] 86 #[.slice (some ⟨g, 0, none⟩) l.length cap]).run Tryd.prog w.drew = .ok (.pointer (some ⟨g, 0, none⟩)) w.drew :=
      Lib.run_unsafeSliceData_row _ _ _ _ _ _ (by omega)
    have hUS : (Builtin.unsafeString_ #[86, 3] 9 #[.pointer (some ⟨g, 0, none⟩), .int .i64 l.length]).run Tryd.prog w.drew = .ok (.string ⟨l.toArray⟩) (w.drew.freeze ⟨g, 0, none⟩ l.length) := by
      refine Lib.run_unsafeString_row w.drew 86 3 9 5 Tryd.underlying86 (by kernel_rfl) g cur.size (by have hg' : w.drew.heap[g]? = some (.cells cur 5 fz) := hg; simp [World.shape?, hg']) l h0 (by omega) (by unfold maxLen at hcm; omega) ?_
      intro j x hx
      have := h.own.cells (g := g) rfl j (.int .u8 x.toNat) (by simp [Lib.byteCells, hx])
      exact this
    have hgb : g ≠ b := by
      have := ownF_blk_ne h.own h.blk h.ne
      simpa [Value.ownBlock] using this
    have hfin : BAt (w.drew.freeze ⟨g, 0, none⟩ l.length) B b o t cs p (.slice (some ⟨g, 0, none⟩) l.length cap) l ∧ Kp (bfoot b (.slice (some ⟨g, 0, none⟩) l.length cap)) w (w.drew.freeze ⟨g, 0, none⟩ l.length) := by
      refine ⟨⟨h.base, ?_, h.ne, h.p_, h.v_, h.pv, ownsRowF_freeze h.own, fun e => absurd e h0⟩, kp_freeze ((Kp.refl _ _).drew) _ _ (.inl (.inr rfl))⟩
      exact (froze_other ⟨g, 0, none⟩ l.length b (Ne.symm hgb)).trans h.blk
    have HF := Lib.hid hfin
    clear hfin h hg htake hcs hnc hbg hfz hgb h0
    go_enter Tryd.func26, Tryd.ntmps26
    go_wp2
    go_region
    all_goals (go_wp2; go_ret; exact ⟨rfl, HF.out.1, HF.out.2⟩)
end Go.Proofs.YtpppfiagaiaggaaDoor
