/- Layer 7: rank, floor and ceil of a level tree, in plain Lean. -/
import Derived.Test.YtfjeagffdijcoaaTr
namespace Go.Proofs.Ytfjeagffdijcoaa

section
variable {κ ν : Type} {c : κ → κ → Int}
/-- how many keys lie ahead of one -/
def rankL (c : κ → κ → Int) (key : κ) (l : List (κ × ν)) : Nat := l.countP fun x => decide (c x.1 key < 0)
/-- the last one that is not behind a key -/
def floorL (c : κ → κ → Int) (key : κ) (l : List (κ × ν)) : Option (κ × ν) := (l.filter fun x => decide (c x.1 key ≤ 0)).getLast?
/-- the first one that is not ahead of a key -/
def ceilL (c : κ → κ → Int) (key : κ) (l : List (κ × ν)) : Option (κ × ν) := l.find? fun x => decide (0 ≤ c x.1 key)
end

namespace Tr
variable {κ ν : Type} {c : κ → κ → Int}
def rank (c : κ → κ → Int) (key : κ) : Tr κ ν → Nat
  | nil => 0
  | node _ l k _ r => if c k key < 0 then 1 + l.many + rank c key r else rank c key l
def floor (c : κ → κ → Int) (key : κ) : Tr κ ν → Option (κ × ν)
  | nil => none
  | node _ l k v r => if 0 < c k key then floor c key l else (floor c key r).or (some (k, v))
def ceil (c : κ → κ → Int) (key : κ) : Tr κ ν → Option (κ × ν)
  | nil => none
  | node _ l k v r => if c k key < 0 then ceil c key r else (ceil c key l).or (some (k, v))

theorem rank_pairs (ho : WOrd c) (key : κ) {t : Tr κ ν} (h : Up c t.pairs) : rank c key t = rankL c key t.pairs := by
  induction t with
  | nil => rfl
  | node b l k v r hl hr =>
    obtain ⟨u1, u2, u3, u4, u5⟩ := up_mid.1 h
    show (if c k key < 0 then 1 + l.many + rank c key r else rank c key l) = rankL c key (l.pairs ++ (k, v) :: r.pairs)
    unfold rankL
    rw [List.countP_append, List.countP_cons]
    split
    · rename_i g
      rw [hr u2, many_pairs]
      have : l.pairs.countP (fun x => decide (c x.1 key < 0)) = l.pairs.length := List.countP_eq_length.2 fun x hx => by simpa using ho.lt_lt (u3 x hx) g
      rw [this]
      simp only [g, decide_true, if_true]
      unfold rankL
      omega
    · rename_i g
      have : r.pairs.countP (fun x => decide (c x.1 key < 0)) = 0 := List.countP_eq_zero.2 fun x hx => by
        simp only [decide_eq_true_eq]
        intro hlt
        exact g (ho.lt_lt (u4 x hx) hlt)
      rw [this, hl u1]
      simp [g, rankL]

theorem floor_pairs (ho : WOrd c) (key : κ) {t : Tr κ ν} (h : Up c t.pairs) : floor c key t = floorL c key t.pairs := by
  induction t with
  | nil => rfl
  | node b l k v r hl hr =>
    obtain ⟨u1, u2, u3, u4, u5⟩ := up_mid.1 h
    show (if 0 < c k key then floor c key l else (floor c key r).or (some (k, v))) = floorL c key (l.pairs ++ (k, v) :: r.pairs)
    unfold floorL
    rw [List.filter_append, List.filter_cons]
    split
    · rename_i g
      have : r.pairs.filter (fun x => decide (c x.1 key ≤ 0)) = [] := List.filter_eq_nil_iff.2 fun x hx => by
        simp only [decide_eq_true_eq]
        intro hlt
        have := ho.lt_le (u4 x hx) hlt
        simp only at this
        omega
      rw [this, hl u1, if_neg (by simp; omega), List.append_nil]
      rfl
    · rename_i g
      rw [if_pos (by simp; omega), hr u2, List.getLast?_append, List.getLast?_cons]
      unfold floorL
      cases (r.pairs.filter fun x => decide (c x.1 key ≤ 0)).getLast? <;> rfl

theorem ceil_pairs (ho : WOrd c) (key : κ) {t : Tr κ ν} (h : Up c t.pairs) : ceil c key t = ceilL c key t.pairs := by
  induction t with
  | nil => rfl
  | node b l k v r hl hr =>
    obtain ⟨u1, u2, u3, u4, u5⟩ := up_mid.1 h
    show (if c k key < 0 then ceil c key r else (ceil c key l).or (some (k, v))) = ceilL c key (l.pairs ++ (k, v) :: r.pairs)
    unfold ceilL
    rw [List.find?_append, List.find?_cons]
    split
    · rename_i g
      have : l.pairs.find? (fun x => decide (0 ≤ c x.1 key)) = none := List.find?_eq_none.2 fun x hx => by
        simp only [decide_eq_true_eq]
        have := ho.lt_lt (u3 x hx) g
        omega
      rw [this, hr u2]
      simp only [show decide (0 ≤ c k key) = false by simp; omega, Option.none_or]
      rfl
    · rename_i g
      rw [hl u1]
      simp only [show decide (0 ≤ c k key) = true by simp; omega]
      rfl
end Tr
end Go.Proofs.Ytfjeagffdijcoaa
