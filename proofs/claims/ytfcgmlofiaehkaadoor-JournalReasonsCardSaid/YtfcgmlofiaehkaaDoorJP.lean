/- Layer 9, plain: what the bytes of a slot hold. -/
import Derived.Test.YtfcgmlofiaehkaaDoorJV
namespace Go.Proofs.YtfcgmlofiaehkaaDoor
open Go.RowKit

def magic : List Int := [83, 72, 74, 49]
def genB (b : List Int) : Int := get4 (b.drop 4) * 4294967296 + get4 (b.drop 8)
def lenB (b : List Int) : Int := get4 (b.drop 12)
def headRot (b : List Int) (which : Int) : Bool := decide (b.take 4 ≠ magic ∨ get4 (b.drop 16) ≠ crcM 0 (b.take 16) ∨ genB b = 0 ∨ genB b % 2 = which ∨ 4194304 < lenB b)
/-- what is wrong with a slot's head: none, or the end of the bytes (false), or rot (true) -/
def headBad (b : List Int) (which : Int) : Option Bool := if b.length < 20 then some false else if headRot b which = true then some true else none

def headG (b : List Int) (which : Int) : Int := if headBad b which = none then genB b else 0
def headN (b : List Int) (which : Int) : Int := if headBad b which = none then lenB b else 0
theorem magic_eq {l : List Int} (h : ∀ x ∈ l, isB x) : ((toStr l).toList == [83, 72, 74, 49]) = decide (l = magic) := by
  rw [ByteArray.toList_eq]
  by_cases e : l = magic
  · rw [e]; rfl
  · have : (toStr l).data.toList ≠ [83, 72, 74, 49] := fun h2 => by
      refine e (toStr_inj h (by intro x hx; simp only [magic, List.mem_cons, List.not_mem_nil, or_false] at hx; rcases hx with rfl | rfl | rfl | rfl <;> exact ⟨by omega, by omega⟩) ?_)
      apply ByteArray.ext
      apply Array.ext'
      rw [h2]; rfl
    simp [this, e]
/-- what a slot's bytes hold, so far -/
structure SlotL where
  whole : Bool
  gen : Int
  state : List Int
  recs : List (List Int)
  good : Nat
  sum : Int
def SlotL.none : SlotL := ⟨false, 0, [], [], 0, 0⟩
/-- where the bytes end: the place, and whether it is rot -/
abbrev EndL := Nat × Bool
/-- the size that a record's head says -/
def sizeB (b : List Int) (good : Nat) : Int := get4 (b.drop good)
def recSum (b : List Int) (good : Nat) (sum : Int) : Int := crcM sum ((b.drop good).take 4)
def recBody (b : List Int) (good : Nat) : List Int := (b.drop (good + 8)).take (sizeB b good).toNat
/-- one record: what is behind it, or the end -/
def recStep (b : List Int) (good : Nat) (sum : Int) : EndL ⊕ (List Int × Nat × Int) :=
  if b.length < good + 8 then .inl (good, false)
  else if get4 (b.drop (good + 4)) ≠ recSum b good sum ∨ sizeB b good = 0 ∨ 8192 < sizeB b good then .inl (good, true)
  else if (b.length : Int) < good + 8 + sizeB b good + 4 then .inl (good + 8, false)
  else if get4 (b.drop (good + 8 + (sizeB b good).toNat)) ≠ crcM (recSum b good sum) (recBody b good) then .inl (good + 8, true)
  else .inr (recBody b good, good + 12 + (sizeB b good).toNat, crcM (recSum b good sum) (recBody b good))
def recsL (b : List Int) : Nat → List (List Int) → Nat → Int → (List (List Int) × Nat × Int) × EndL
  | 0, acc, good, sum => ((acc, good, sum), (good, false))
  | f + 1, acc, good, sum => match recStep b good sum with
    | .inl e => ((acc, good, sum), e)
    | .inr (r, good', sum') => recsL b f (acc ++ [r]) good' sum'
def stateB (b : List Int) : List Int := (b.drop 20).take (lenB b).toNat
def stateSum (b : List Int) : Int := crcM (crcM 0 (b.take 16)) (stateB b)
def scanL (b : List Int) (which : Int) : SlotL × EndL :=
  match headBad b which with
  | some r => (.none, (0, r))
  | .none =>
    if (b.length : Int) - 20 < lenB b + 4 then (.none, (20, false))
    else if get4 (b.drop (20 + (lenB b).toNat)) ≠ stateSum b then (.none, (20, true))
    else
      let x := recsL b b.length [] (24 + (lenB b).toNat) (stateSum b)
      (⟨true, genB b, stateB b, x.1.1, x.1.2.1, x.1.2.2⟩, x.2)

theorem get4_W {l : List Int} (h : ∀ x ∈ l, isB x) : isW (get4 l) := by
  have key : ∀ i : Nat, isB (l[i]?.getD 0) := fun i => by
    cases e : l[i]? with
    | none => exact ⟨by simp, by simp⟩
    | some x => simpa using h x (List.mem_of_getElem? e)
  obtain ⟨a0, a1⟩ := key 0
  obtain ⟨b0, b1⟩ := key 1
  obtain ⟨c0, c1⟩ := key 2
  obtain ⟨d0, d1⟩ := key 3
  unfold get4
  exact ⟨by omega, by omega⟩
theorem lenB_W {b : List Int} (h : ∀ x ∈ b, isB x) : isW (lenB b) := get4_W fun x hx => h x (List.mem_of_mem_drop hx)
theorem sizeB_W {b : List Int} (h : ∀ x ∈ b, isB x) (g : Nat) : isW (sizeB b g) := get4_W fun x hx => h x (List.mem_of_mem_drop hx)
theorem genB_range {b : List Int} (h : ∀ x ∈ b, isB x) : 0 ≤ genB b ∧ genB b ≤ 18446744073709551615 := by
  obtain ⟨a0, a1⟩ := get4_W (l := b.drop 4) fun x hx => h x (List.mem_of_mem_drop hx)
  obtain ⟨b0, b1⟩ := get4_W (l := b.drop 8) fun x hx => h x (List.mem_of_mem_drop hx)
  unfold genB
  exact ⟨by omega, by omega⟩
/-- each record takes bytes -/
theorem recStep_good {b : List Int} (hb : ∀ x ∈ b, isB x) {good : Nat} {sum : Int} {r : List Int} {g : Nat} {s : Int} (h : recStep b good sum = .inr (r, g, s)) : good + 12 < g ∧ g ≤ b.length ∧ s = crcM (recSum b good sum) r ∧ r = recBody b good ∧ (r.length : Int) = sizeB b good ∧ g = good + 12 + r.length ∧ 1 ≤ r.length ∧ r.length ≤ 8192 ∧
    get4 (b.drop (good + 4)) = recSum b good sum ∧ get4 (b.drop (good + 8 + r.length)) = s := by
  unfold recStep at h
  split at h
  · cases h
  rename_i h1
  split at h
  · cases h
  rename_i h2
  split at h
  · cases h
  rename_i h3
  split at h
  · cases h
  rename_i h4
  have h2a : get4 (b.drop (good + 4)) = recSum b good sum := Decidable.byContradiction fun h => h2 (.inl h)
  have h2b : sizeB b good ≠ 0 := fun h => h2 (.inr (.inl h))
  have h2c : ¬ 8192 < sizeB b good := fun h => h2 (.inr (.inr h))
  have h4' := Decidable.not_not.1 h4
  simp only [Sum.inr.injEq, Prod.mk.injEq] at h
  obtain ⟨rfl, rfl, rfl⟩ := h
  have hw := sizeB_W hb good
  have hl : (recBody b good).length = (sizeB b good).toNat := by
    unfold recBody
    rw [List.length_take, List.length_drop]
    have := hw.1
    omega
  have := hw.1
  refine ⟨by omega, by omega, rfl, rfl, by omega, by omega, by omega, by omega, h2a, ?_⟩
  rw [hl]; exact h4'
/-- enough fuel: a step is a step -/
theorem recsL_step {b : List Int} {f : Nat} {acc : List (List Int)} {good : Nat} {sum : Int} (hf : b.length ≤ good + f) : recsL b f acc good sum = match recStep b good sum with
    | .inl e => ((acc, good, sum), e)
    | .inr (r, good', sum') => recsL b (f - 1) (acc ++ [r]) good' sum' := by
  cases f with
  | zero =>
    have : recStep b good sum = .inl (good, false) := by unfold recStep; rw [if_pos (by omega)]
    rw [this]; rfl
  | succ f => rfl
end Go.Proofs.YtfcgmlofiaehkaaDoor
