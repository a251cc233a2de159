/- The monitor of chapter 4 as plain Lean: labels, what may be read and written, what is refused. No program in sight. -/
import Derived.Test.YtpppfiagaiaggaaDoorPureBits
namespace Go.Proofs.YtpppfiagaiaggaaDoor

/-- A label is right. -/
def labOk (l s : Int) : Bool := decide (0 ≤ l ∧ l ≤ 7 ∧ 0 ≤ s ∧ s < 256)
/-- A label below another one. -/
def belowB (l s l' s' : Int) : Bool := decide (l ≤ l') && Qw.subB s.toNat s'.toNat
def labP (x : Int × Int) : Bool := labOk x.1 x.2
def labBelow (x y : Int × Int) : Bool := belowB x.1 x.2 y.1 y.2
def labsErr (most : Int) (xs : List (Int × Int)) : Int := if most < (xs.length : Int) then 4 else if xs.all labP then 0 else 1
def bellErr (users files : List (Int × Int)) : Int := if labsErr 8 users = 0 then labsErr 8 files else labsErr 8 users

structure Bell where
  users : List (Int × Int)
  files : List (Int × Int)
  reads : List Nat
  writes : List Nat
  holds : List Nat

def newBell (users files : List (Int × Int)) : Bell :=
  { users := users, files := files, reads := List.replicate users.length 0, writes := List.replicate users.length 0, holds := (List.range files.length).map fun i => 2 ^ i }

/-- All files of a set are right, against one. -/
def allBits (set : Nat) (files : List (Int × Int)) (p : Int × Int → Bool) : Bool := (List.range files.length).all fun i => !set.testBit i || p (files.getD i (0, 0))

structure Ask where
  kind : Int
  user : Int
  file : Int
  to : Int

def inR (n lo hi : Int) : Bool := decide (lo ≤ n ∧ n ≤ hi)
def askOut (b : Bell) (a : Ask) : Bool :=
  !(inR a.kind 0 3 && inR a.user 0 (b.users.length - 1) && inR a.file 0 (b.files.length - 1)) || (a.kind == 3 && !inR a.to 0 (b.files.length - 1))

/-- What is asked of the monitor: how it is behind it, and the number of the error. -/
def askBell (b : Bell) (a : Ask) : Bell × Int :=
  if askOut b a then (b, 1) else
  let u := a.user.toNat
  let f := a.file.toNat
  let lf := b.files.getD f (0, 0)
  if a.kind = 0 then
    if labBelow lf (b.users.getD u (0, 0)) && allBits (b.writes.getD u 0) b.files (labBelow lf ·) then ({ b with reads := b.reads.set u (Qw.setBit (b.reads.getD u 0) f) }, 0) else (b, 7)
  else if a.kind = 1 then
    if allBits (b.reads.getD u 0) b.files (labBelow · lf) then ({ b with writes := b.writes.set u (Qw.setBit (b.writes.getD u 0) f) }, 0) else (b, 7)
  else if a.kind = 2 then
    ({ b with reads := b.reads.set u (Qw.clrBit (b.reads.getD u 0) f), writes := b.writes.set u (Qw.clrBit (b.writes.getD u 0) f) }, 0)
  else
    if (b.reads.getD u 0).testBit f && (b.writes.getD u 0).testBit a.to.toNat then
      ({ b with holds := b.holds.set a.to.toNat (b.holds.getD a.to.toNat 0 ||| b.holds.getD f 0) }, 0) else (b, 8)

/-- What holds of a monitor at all times. -/
structure BellOk (b : Bell) : Prop where
  users : b.users.length ≤ 8
  files : b.files.length ≤ 8
  usersP : b.users.all labP = true
  filesP : b.files.all labP = true
  readsL : b.reads.length = b.users.length
  writesL : b.writes.length = b.users.length
  holdsL : b.holds.length = b.files.length
  reads : ∀ x ∈ b.reads, x < 2 ^ b.files.length
  writes : ∀ x ∈ b.writes, x < 2 ^ b.files.length
  holds : ∀ x ∈ b.holds, x < 2 ^ b.files.length

theorem labsErr_zero {xs : List (Int × Int)} (h : labsErr 8 xs = 0) : xs.length ≤ 8 ∧ xs.all labP = true := by
  unfold labsErr at h
  split at h
  · omega
  · split at h
    · rename_i h1 h2
      exact ⟨by omega, h2⟩
    · omega

theorem bellErr_zero {us fs : List (Int × Int)} (h : bellErr us fs = 0) : labsErr 8 us = 0 ∧ labsErr 8 fs = 0 := by
  unfold bellErr at h
  split at h
  · rename_i h1
    exact ⟨h1, h⟩
  · rename_i h1
    exact absurd h h1

theorem newBell_ok {us fs : List (Int × Int)} (h : bellErr us fs = 0) : BellOk (newBell us fs) := by
  obtain ⟨h1, h2⟩ := bellErr_zero h
  obtain ⟨a1, a2⟩ := labsErr_zero h1
  obtain ⟨b1, b2⟩ := labsErr_zero h2
  refine ⟨a1, b1, a2, b2, by simp [newBell], by simp [newBell], by simp [newBell], ?_, ?_, ?_⟩
  · intro x hx
    simp only [newBell, List.mem_replicate] at hx
    rw [hx.2]
    exact Nat.two_pow_pos _
  · intro x hx
    simp only [newBell, List.mem_replicate] at hx
    rw [hx.2]
    exact Nat.two_pow_pos _
  · intro x hx
    simp only [newBell, List.mem_map, List.mem_range] at hx
    obtain ⟨i, hi, rfl⟩ := hx
    exact Nat.pow_lt_pow_right (by decide) hi

theorem mem_set {l : List Nat} {i x y : Nat} (h : x ∈ l.set i y) : x ∈ l ∨ x = y := by
  rcases List.mem_or_eq_of_mem_set h with h | h
  · exact .inl h
  · exact .inr h

theorem getD_lt {l : List Nat} {N : Nat} (h : ∀ x ∈ l, x < 2 ^ N) (i : Nat) : l.getD i 0 < 2 ^ N := by
  rcases Nat.lt_or_ge i l.length with hi | hi
  · rw [List.getD_eq_getElem?_getD, List.getElem?_eq_getElem hi]
    exact h _ (List.getElem_mem hi)
  · rw [List.getD_eq_getElem?_getD, List.getElem?_eq_none hi]
    exact Nat.two_pow_pos _

theorem setBit_lt {a f N : Nat} (ha : a < 2 ^ N) (hf : f < N) : Qw.setBit a f < 2 ^ N :=
  Nat.or_lt_two_pow ha (Nat.pow_lt_pow_right (by decide) hf)
theorem clrBit_lt {a f N : Nat} (ha : a < 2 ^ N) : Qw.clrBit a f < 2 ^ N := by
  unfold Qw.clrBit
  split
  · exact Nat.lt_of_le_of_lt (Nat.sub_le _ _) ha
  · exact ha

theorem askOut_false {b : Bell} {a : Ask} (h : askOut b a = false) :
    0 ≤ a.kind ∧ a.kind ≤ 3 ∧ 0 ≤ a.user ∧ a.user < b.users.length ∧ 0 ≤ a.file ∧ a.file < b.files.length ∧ (a.kind = 3 → 0 ≤ a.to ∧ a.to < b.files.length) := by
  unfold askOut inR at h
  simp only [Bool.or_eq_false_iff, Bool.not_eq_false', Bool.and_eq_true, decide_eq_true_eq, Bool.and_eq_false_iff, beq_eq_false_iff_ne, Bool.not_eq_false'] at h
  obtain ⟨⟨⟨h1, h2⟩, h3⟩, h4⟩ := h
  refine ⟨h1.1, h1.2, h2.1, by omega, h3.1, by omega, fun hk => ?_⟩
  rcases h4 with h4 | h4
  · exact absurd hk h4
  · omega

theorem askBell_ok {b : Bell} (hb : BellOk b) (a : Ask) : BellOk (askBell b a).1 := by
  unfold askBell
  split
  · exact hb
  · rename_i ho
    have ho' := askOut_false (Bool.eq_false_iff.2 ho)
    simp only []
    have hf : a.file.toNat < b.files.length := by omega
    split
    · split
      · refine ⟨hb.users, hb.files, hb.usersP, hb.filesP, by simpa using hb.readsL, hb.writesL, hb.holdsL, ?_, hb.writes, hb.holds⟩
        intro x hx
        rcases mem_set hx with hx | rfl
        · exact hb.reads x hx
        · exact setBit_lt (getD_lt hb.reads _) hf
      · exact hb
    · split
      · split
        · refine ⟨hb.users, hb.files, hb.usersP, hb.filesP, hb.readsL, by simpa using hb.writesL, hb.holdsL, hb.reads, ?_, hb.holds⟩
          intro x hx
          rcases mem_set hx with hx | rfl
          · exact hb.writes x hx
          · exact setBit_lt (getD_lt hb.writes _) hf
        · exact hb
      · split
        · refine ⟨hb.users, hb.files, hb.usersP, hb.filesP, by simpa using hb.readsL, by simpa using hb.writesL, hb.holdsL, ?_, ?_, hb.holds⟩
          · intro x hx
            rcases mem_set hx with hx | rfl
            · exact hb.reads x hx
            · exact clrBit_lt (getD_lt hb.reads _)
          · intro x hx
            rcases mem_set hx with hx | rfl
            · exact hb.writes x hx
            · exact clrBit_lt (getD_lt hb.writes _)
        · split
          · refine ⟨hb.users, hb.files, hb.usersP, hb.filesP, hb.readsL, hb.writesL, by simpa using hb.holdsL, hb.reads, hb.writes, ?_⟩
            intro x hx
            rcases mem_set hx with hx | rfl
            · exact hb.holds x hx
            · exact Nat.or_lt_two_pow (getD_lt hb.holds _) (getD_lt hb.holds _)
          · exact hb

theorem askBell_users (b : Bell) (a : Ask) : (askBell b a).1.users = b.users ∧ (askBell b a).1.files = b.files := by
  unfold askBell
  split
  · exact ⟨rfl, rfl⟩
  · simp only []
    split
    · split <;> exact ⟨rfl, rfl⟩
    · split
      · split <;> exact ⟨rfl, rfl⟩
      · split
        · exact ⟨rfl, rfl⟩
        · split <;> exact ⟨rfl, rfl⟩
end Go.Proofs.YtpppfiagaiaggaaDoor
