/- Layer 7: trees that are level, in plain Lean: what put, first, cut and level make of one. -/
import Derived.Test.YtfjeagffdijcoaaMem
namespace Go.Proofs.Ytfjeagffdijcoaa

/-- an order of keys: below 0, 0, above 0 -/
structure WOrd {κ : Type} (c : κ → κ → Int) : Prop where
  anti : ∀ a b, c a b < 0 ↔ 0 < c b a
  trans : ∀ a b d, c a b ≤ 0 → c b d ≤ 0 → c a d ≤ 0

namespace WOrd
variable {κ : Type} {c : κ → κ → Int}
theorem refl (h : WOrd c) (a : κ) : c a a = 0 := by have := h.anti a a; omega
theorem flip (h : WOrd c) (a b : κ) : c a b ≤ 0 ↔ 0 ≤ c b a := by
  have h1 := h.anti a b
  have h2 := h.anti b a
  omega
theorem zero (h : WOrd c) {a b : κ} (e : c a b = 0) : c b a = 0 := by
  have h1 := h.anti a b
  have h2 := h.anti b a
  omega
theorem lt_le (h : WOrd c) {a b d : κ} (h1 : c a b < 0) (h2 : c b d ≤ 0) : c a d < 0 := by
  refine Int.not_le.1 fun hn => ?_
  have h3 := (h.flip d a).2 hn
  have h4 := h.trans b d a h2 h3
  have := (h.anti a b).1 h1
  omega
theorem le_lt (h : WOrd c) {a b d : κ} (h1 : c a b ≤ 0) (h2 : c b d < 0) : c a d < 0 := by
  refine Int.not_le.1 fun hn => ?_
  have h3 := (h.flip d a).2 hn
  have h4 := h.trans d a b h3 h1
  have := (h.anti b d).1 h2
  omega
theorem lt_lt (h : WOrd c) {a b d : κ} (h1 : c a b < 0) (h2 : c b d < 0) : c a d < 0 := h.lt_le h1 (Int.le_of_lt h2)
end WOrd

/-- a list of pairs whose keys rise -/
def Up {κ ν : Type} (c : κ → κ → Int) (l : List (κ × ν)) : Prop := l.Pairwise fun a b => c a.1 b.1 < 0

/-- what a map's list of pairs is behind a Put -/
def putL {κ ν : Type} (c : κ → κ → Int) (key : κ) (val : ν) : List (κ × ν) → List (κ × ν)
  | [] => [(key, val)]
  | (k, v) :: r => if c key k < 0 then (key, val) :: (k, v) :: r else if 0 < c key k then (k, v) :: putL c key val r else (k, val) :: r
/-- .. behind a Delete -/
def cutP {κ ν : Type} (c : κ → κ → Int) (key : κ) : List (κ × ν) → List (κ × ν)
  | [] => []
  | (k, v) :: r => if c key k < 0 then (k, v) :: r else if 0 < c key k then (k, v) :: cutP c key r else r
/-- what a key has -/
def getL {κ ν : Type} (c : κ → κ → Int) (key : κ) : List (κ × ν) → Option ν
  | [] => none
  | (k, v) :: r => if c key k < 0 then none else if 0 < c key k then getL c key r else some v

section lists
variable {κ ν : Type} {c : κ → κ → Int}

theorem up_append {a b : List (κ × ν)} : Up c (a ++ b) ↔ Up c a ∧ Up c b ∧ ∀ x ∈ a, ∀ y ∈ b, c x.1 y.1 < 0 := List.pairwise_append
theorem up_mid {a b : List (κ × ν)} {p : κ × ν} : Up c (a ++ p :: b) ↔ Up c a ∧ Up c b ∧ (∀ x ∈ a, c x.1 p.1 < 0) ∧ (∀ y ∈ b, c p.1 y.1 < 0) ∧ (∀ x ∈ a, ∀ y ∈ b, c x.1 y.1 < 0) := by
  rw [up_append]
  constructor
  · rintro ⟨h1, h2, h3⟩
    have h2' := List.pairwise_cons.1 h2
    exact ⟨h1, h2'.2, fun x hx => h3 x hx p (by simp), h2'.1, fun x hx y hy => h3 x hx y (by simp [hy])⟩
  · rintro ⟨h1, h2, h3, h4, h5⟩
    refine ⟨h1, List.pairwise_cons.2 ⟨h4, h2⟩, fun x hx y hy => ?_⟩
    rcases List.mem_cons.1 hy with rfl | hy
    · exact h3 x hx
    · exact h5 x hx y hy

theorem putL_left (key : κ) (val : ν) (a b : List (κ × ν)) (k : κ) (v : ν) (h : c key k < 0) : putL c key val (a ++ (k, v) :: b) = putL c key val a ++ (k, v) :: b := by
  induction a with
  | nil => simp [putL, h]
  | cons p r ih =>
    obtain ⟨k', v'⟩ := p
    simp only [List.cons_append, putL]
    split
    · rfl
    · split
      · rw [ih]; rfl
      · rfl
theorem putL_mid (key : κ) (val : ν) (a b : List (κ × ν)) (k : κ) (v : ν) (h : c key k = 0) (ha : ∀ x ∈ a, 0 < c key x.1) : putL c key val (a ++ (k, v) :: b) = a ++ (k, val) :: b := by
  induction a with
  | nil => simp [putL, h]
  | cons p r ih =>
    obtain ⟨k', v'⟩ := p
    have hp := ha (k', v') (by simp)
    simp only at hp
    simp only [List.cons_append, putL]
    rw [if_neg (by omega), if_pos hp, ih (fun x hx => ha x (by simp [hx]))]
theorem putL_right (key : κ) (val : ν) (a b : List (κ × ν)) (h : ∀ x ∈ a, 0 < c key x.1) : putL c key val (a ++ b) = a ++ putL c key val b := by
  induction a with
  | nil => rfl
  | cons p r ih =>
    obtain ⟨k', v'⟩ := p
    have hp := h (k', v') (by simp)
    simp only at hp
    simp only [List.cons_append, putL]
    rw [if_neg (by omega), if_pos hp, ih (fun x hx => h x (by simp [hx]))]
theorem cutP_left (key : κ) (a b : List (κ × ν)) (k : κ) (v : ν) (h : c key k < 0) : cutP c key (a ++ (k, v) :: b) = cutP c key a ++ (k, v) :: b := by
  induction a with
  | nil => simp [cutP, h]
  | cons p r ih =>
    obtain ⟨k', v'⟩ := p
    simp only [List.cons_append, cutP]
    split
    · rfl
    · split
      · rw [ih]; rfl
      · rfl
theorem cutP_right (key : κ) (a b : List (κ × ν)) (h : ∀ x ∈ a, 0 < c key x.1) : cutP c key (a ++ b) = a ++ cutP c key b := by
  induction a with
  | nil => rfl
  | cons p r ih =>
    obtain ⟨k', v'⟩ := p
    have hp := h (k', v') (by simp)
    simp only at hp
    simp only [List.cons_append, cutP]
    rw [if_neg (by omega), if_pos hp, ih (fun x hx => h x (by simp [hx]))]
theorem cutP_mid (key : κ) (a b : List (κ × ν)) (k : κ) (v : ν) (h : c key k = 0) (ha : ∀ x ∈ a, 0 < c key x.1) : cutP c key (a ++ (k, v) :: b) = a ++ b := by
  rw [cutP_right key a _ ha]; simp [cutP, h]
theorem getL_left (key : κ) (a b : List (κ × ν)) (k : κ) (v : ν) (h : c key k < 0) : getL c key (a ++ (k, v) :: b) = getL c key a := by
  induction a with
  | nil => simp [getL, h]
  | cons p r ih =>
    obtain ⟨k', v'⟩ := p
    simp only [List.cons_append, getL]
    rw [ih]
theorem getL_right (key : κ) (a b : List (κ × ν)) (h : ∀ x ∈ a, 0 < c key x.1) : getL c key (a ++ b) = getL c key b := by
  induction a with
  | nil => rfl
  | cons p r ih =>
    obtain ⟨k', v'⟩ := p
    have hp := h (k', v') (by simp)
    simp only at hp
    simp only [List.cons_append, getL]
    rw [if_neg (by omega), if_pos hp, ih (fun x hx => h x (by simp [hx]))]
theorem getL_mid (key : κ) (a b : List (κ × ν)) (k : κ) (v : ν) (h : c key k = 0) (ha : ∀ x ∈ a, 0 < c key x.1) : getL c key (a ++ (k, v) :: b) = some v := by
  rw [getL_right key a _ ha]; simp [getL, h]

theorem putL_mem {key : κ} {val : ν} {l : List (κ × ν)} {p : κ × ν} (h : p ∈ putL c key val l) : (p.1 = key ∨ ∃ q ∈ l, q.1 = p.1) ∧ (p.2 = val ∨ p ∈ l) := by
  induction l with
  | nil => simp [putL] at h; simp [h]
  | cons q r ih =>
    obtain ⟨k, v⟩ := q
    unfold putL at h
    split at h
    · rcases List.mem_cons.1 h with rfl | h
      · exact ⟨.inl rfl, .inl rfl⟩
      · exact ⟨.inr ⟨p, h, rfl⟩, .inr h⟩
    · split at h
      · rcases List.mem_cons.1 h with rfl | h
        · exact ⟨.inr ⟨_, by simp, rfl⟩, .inr (by simp)⟩
        · obtain ⟨h1, h2⟩ := ih h
          refine ⟨h1.imp id fun ⟨q, hq, e⟩ => ⟨q, List.mem_cons_of_mem _ hq, e⟩, h2.imp id fun hm => List.mem_cons_of_mem _ hm⟩
      · rcases List.mem_cons.1 h with rfl | h
        · exact ⟨.inr ⟨(k, v), List.mem_cons_self .., rfl⟩, .inl rfl⟩
        · exact ⟨.inr ⟨p, List.mem_cons_of_mem _ h, rfl⟩, .inr (List.mem_cons_of_mem _ h)⟩

theorem putL_up (ho : WOrd c) (key : κ) (val : ν) {l : List (κ × ν)} (h : Up c l) : Up c (putL c key val l) := by
  induction l with
  | nil => exact List.pairwise_singleton _ _
  | cons p r ih =>
    obtain ⟨k, v⟩ := p
    obtain ⟨h1, h2⟩ := List.pairwise_cons.1 h
    unfold putL
    split
    · rename_i hlt
      refine List.pairwise_cons.2 ⟨fun q hq => ?_, h⟩
      rcases List.mem_cons.1 hq with rfl | hq
      · exact hlt
      · exact ho.lt_lt hlt (h1 q hq)
    · split
      · rename_i hgt
        refine List.pairwise_cons.2 ⟨fun q hq => ?_, ih h2⟩
        rcases (putL_mem hq).1 with e | ⟨q', hq', e⟩
        · rw [e]; exact (ho.anti k key).2 hgt
        · rw [← e]; exact h1 q' hq'
      · exact List.pairwise_cons.2 ⟨h1, h2⟩
theorem cutP_sub (key : κ) (l : List (κ × ν)) : (cutP c key l).Sublist l := by
  induction l with
  | nil => exact List.Sublist.refl _
  | cons p r ih =>
    obtain ⟨k, v⟩ := p
    unfold cutP
    split
    · exact List.Sublist.refl _
    · split
      · exact ih.cons_cons _
      · exact List.sublist_cons_self _ _
theorem cutP_up (key : κ) {l : List (κ × ν)} (h : Up c l) : Up c (cutP c key l) := h.sublist (cutP_sub key l)
end lists

/-- a tree: its root's block, what lies left, its key and value, what lies right -/
inductive Tr (κ ν : Type) where
  | nil
  | node (b : Nat) (l : Tr κ ν) (k : κ) (v : ν) (r : Tr κ ν)

namespace Tr
variable {κ ν : Type} {c : κ → κ → Int}
def high : Tr κ ν → Nat
  | nil => 0
  | node _ l _ _ r => 1 + max l.high r.high
def many : Tr κ ν → Nat
  | nil => 0
  | node _ l _ _ r => 1 + l.many + r.many
def addr : Tr κ ν → Option Addr
  | nil => none
  | node b _ _ _ _ => some ⟨b, 0, none⟩
abbrev ptr (t : Tr κ ν) : Value := .pointer t.addr
def blocks : Tr κ ν → List Nat
  | nil => []
  | node b l _ _ r => b :: (l.blocks ++ r.blocks)
def pairs : Tr κ ν → List (κ × ν)
  | nil => []
  | node _ l k v r => l.pairs ++ (k, v) :: r.pairs
def bal : Tr κ ν → Prop
  | nil => True
  | node _ l _ _ r => l.bal ∧ r.bal ∧ l.high ≤ r.high + 1 ∧ r.high ≤ l.high + 1
def left : Tr κ ν → Tr κ ν
  | nil => nil
  | node _ l _ _ _ => l
def right : Tr κ ν → Tr κ ν
  | nil => nil
  | node _ _ _ _ r => r
def turnR : Tr κ ν → Tr κ ν
  | node b (node lb ll lk lv lr) k v r => node lb ll lk lv (node b lr k v r)
  | t => t
def turnL : Tr κ ν → Tr κ ν
  | node b l k v (node rb rl rk rv rr) => node rb (node b l k v rl) rk rv rr
  | t => t
def level (b : Nat) (l : Tr κ ν) (k : κ) (v : ν) (r : Tr κ ν) : Tr κ ν :=
  if r.high + 1 < l.high then turnR (node b (if l.left.high < l.right.high then l.turnL else l) k v r)
  else if l.high + 1 < r.high then turnL (node b l k v (if r.right.high < r.left.high then r.turnR else r))
  else node b l k v r

theorem many_pairs (t : Tr κ ν) : t.many = t.pairs.length := by
  induction t with
  | nil => rfl
  | node b l k v r hl hr => simp [many, pairs, hl, hr]; omega
theorem blocks_many (t : Tr κ ν) : t.blocks.length = t.many := by
  induction t with
  | nil => rfl
  | node b l k v r hl hr => simp [many, blocks, hl, hr]; omega
theorem high_many (t : Tr κ ν) : t.high ≤ t.many := by
  induction t with
  | nil => exact Nat.le_refl _
  | node b l k v r hl hr => simp [many, high]; omega
theorem turnR_pairs (t : Tr κ ν) : t.turnR.pairs = t.pairs := by
  unfold turnR; split <;> simp [pairs]
theorem turnL_pairs (t : Tr κ ν) : t.turnL.pairs = t.pairs := by
  unfold turnL; split <;> simp [pairs]
theorem turnR_blocks (t : Tr κ ν) : t.turnR.blocks.Perm t.blocks := by
  unfold turnR
  split
  · rename_i b lb ll lk lv lr k v r
    simp only [blocks, List.append_assoc, List.cons_append]
    refine List.Perm.trans ?_ (List.Perm.swap _ _ _)
    exact List.Perm.cons _ List.perm_middle
  · exact List.Perm.refl _
theorem turnL_blocks (t : Tr κ ν) : t.turnL.blocks.Perm t.blocks := by
  unfold turnL
  split
  · rename_i b l k v rb rl rk rv rr
    simp only [blocks, List.append_assoc, List.cons_append]
    refine List.Perm.trans (List.Perm.swap _ _ _) ?_
    exact List.Perm.cons _ List.perm_middle.symm
  · exact List.Perm.refl _
theorem level_pairs (b : Nat) (l : Tr κ ν) (k : κ) (v : ν) (r : Tr κ ν) : (level b l k v r).pairs = l.pairs ++ (k, v) :: r.pairs := by
  unfold level
  split
  · rw [turnR_pairs]; split <;> simp [pairs, turnL_pairs]
  · split
    · rw [turnL_pairs]; split <;> simp [pairs, turnR_pairs]
    · rfl
theorem level_blocks (b : Nat) (l : Tr κ ν) (k : κ) (v : ν) (r : Tr κ ν) : (level b l k v r).blocks.Perm (b :: (l.blocks ++ r.blocks)) := by
  unfold level
  split
  · refine (turnR_blocks _).trans ?_
    split
    · exact ((turnL_blocks l).append_right _).cons _
    · exact List.Perm.refl _
  · split
    · refine (turnL_blocks _).trans ?_
      split
      · exact ((turnR_blocks r).append_left _).cons _
      · exact List.Perm.refl _
    · exact List.Perm.refl _

theorem level_bal {b : Nat} {l : Tr κ ν} {k : κ} {v : ν} {r : Tr κ ν} (hl : l.bal) (hr : r.bal) (h1 : l.high ≤ r.high + 2) (h2 : r.high ≤ l.high + 2) :
    (level b l k v r).bal ∧ max l.high r.high ≤ (level b l k v r).high ∧ (level b l k v r).high ≤ max l.high r.high + 1 ∧ (l.high ≤ r.high + 1 → r.high ≤ l.high + 1 → (level b l k v r).high = max l.high r.high + 1) := by
  unfold level
  by_cases g : r.high + 1 < l.high
  · rw [if_pos g]
    cases l with
    | nil => simp [high] at g
    | node lb ll lk lv lr =>
      obtain ⟨b1, b2, b3, b4⟩ := hl
      by_cases g2 : (node lb ll lk lv lr).left.high < (node lb ll lk lv lr).right.high
      · rw [if_pos g2]
        cases lr with
        | nil => simp [high, right] at g2
        | node qb ql qk qv qr =>
          obtain ⟨c1, c2, c3, c4⟩ := b2
          simp only [left, right, turnL, turnR, bal, high] at *
          refine ⟨⟨⟨b1, c1, by omega, by omega⟩, ⟨c2, hr, by omega, by omega⟩, by omega, by omega⟩, by omega, by omega, by omega⟩
      · rw [if_neg g2]
        simp only [left, right, turnR, bal, high] at *
        refine ⟨⟨b1, ⟨b2, hr, by omega, by omega⟩, by omega, by omega⟩, by omega, by omega, by omega⟩
  · rw [if_neg g]
    by_cases g' : l.high + 1 < r.high
    · rw [if_pos g']
      cases r with
      | nil => simp [high] at g'
      | node rb rl rk rv rr =>
        obtain ⟨b1, b2, b3, b4⟩ := hr
        by_cases g2 : (node rb rl rk rv rr).right.high < (node rb rl rk rv rr).left.high
        · rw [if_pos g2]
          cases rl with
          | nil => simp [high, left] at g2
          | node qb ql qk qv qr =>
            obtain ⟨c1, c2, c3, c4⟩ := b1
            simp only [left, right, turnL, turnR, bal, high] at *
            refine ⟨⟨⟨hl, c1, by omega, by omega⟩, ⟨c2, b2, by omega, by omega⟩, by omega, by omega⟩, by omega, by omega, by omega⟩
        · rw [if_neg g2]
          simp only [left, right, turnL, bal, high] at *
          refine ⟨⟨⟨hl, b1, by omega, by omega⟩, b2, by omega, by omega⟩, by omega, by omega, by omega⟩
    · rw [if_neg g']
      simp only [bal, high]
      exact ⟨⟨hl, hr, by omega, by omega⟩, by omega, by omega, by omega⟩

/-- a key laid in; nb: the block of a new node -/
def put (c : κ → κ → Int) (key : κ) (val : ν) (nb : Nat) : Tr κ ν → Tr κ ν
  | nil => node nb nil key val nil
  | node b l k v r => if c key k < 0 then level b (put c key val nb l) k v r else if 0 < c key k then level b l k v (put c key val nb r) else node b l k val r

theorem put_bal (key : κ) (val : ν) (nb : Nat) {t : Tr κ ν} (h : t.bal) : (put c key val nb t).bal ∧ t.high ≤ (put c key val nb t).high ∧ (put c key val nb t).high ≤ t.high + 1 := by
  induction t with
  | nil => simp [put, bal, high]
  | node b l k v r hl hr =>
    obtain ⟨b1, b2, b3, b4⟩ := h
    have il := hl b1
    have ir := hr b2
    unfold put
    split
    · have := level_bal (b := b) (k := k) (v := v) il.1 b2 (by omega) (by omega)
      simp only [high]
      refine ⟨this.1, ?_, ?_⟩ <;> omega
    · split
      · have := level_bal (b := b) (k := k) (v := v) b1 ir.1 (by omega) (by omega)
        simp only [high]
        refine ⟨this.1, ?_, ?_⟩ <;> omega
      · exact ⟨⟨b1, b2, b3, b4⟩, Nat.le_refl _, Nat.le_succ _⟩

theorem put_pairs (ho : WOrd c) (key : κ) (val : ν) (nb : Nat) {t : Tr κ ν} (h : Up c t.pairs) : (put c key val nb t).pairs = putL c key val t.pairs := by
  induction t with
  | nil => rfl
  | node b l k v r hl hr =>
    obtain ⟨u1, u2, u3, u4, u5⟩ := up_mid.1 h
    unfold put
    split
    · rename_i g
      rw [level_pairs, hl u1]
      exact (putL_left key val _ _ k v g).symm
    · split
      · rename_i g1 g
        have hk : c k key < 0 := (ho.anti k key).2 g
        rw [level_pairs, hr u2]
        show _ = putL c key val (l.pairs ++ (k, v) :: r.pairs)
        rw [putL_right key val l.pairs _ (fun x hx => (ho.anti x.1 key).1 (ho.lt_lt (u3 x hx) hk))]
        simp [putL, g1, g]
      · rename_i g1 g2
        have e : c key k = 0 := by omega
        have e' := ho.zero e
        show _ = putL c key val (l.pairs ++ (k, v) :: r.pairs)
        rw [putL_mid key val _ _ k v e (fun x hx => (ho.anti x.1 key).1 (ho.lt_le (u3 x hx) (Int.le_of_eq e')))]
        rfl

theorem put_blocks (key : κ) (val : ν) (nb : Nat) {t : Tr κ ν} : (put c key val nb t).blocks.Perm t.blocks ∨ (put c key val nb t).blocks.Perm (nb :: t.blocks) := by
  induction t with
  | nil => exact .inr (by simp [put, blocks])
  | node b l k v r hl hr =>
    unfold put
    split
    · rcases hl with hl | hl
      · exact .inl ((level_blocks _ _ _ _ _).trans ((hl.append_right _).cons _))
      · exact .inr ((level_blocks _ _ _ _ _).trans (((hl.append_right _).cons _).trans (by simpa [blocks] using List.Perm.swap _ _ _)))
    · split
      · rcases hr with hr | hr
        · exact .inl ((level_blocks _ _ _ _ _).trans ((hr.append_left _).cons _))
        · refine .inr ((level_blocks _ _ _ _ _).trans (((hr.append_left _).cons _).trans ?_))
          simp only [blocks]
          exact (List.Perm.cons _ List.perm_middle).trans (List.Perm.swap _ _ _)
      · exact .inl (List.Perm.refl _)

/-- the first node of a tree that is not nil, and what is left -/
def least : Nat → Tr κ ν → κ → ν → Tr κ ν → (Nat × κ × ν) × Tr κ ν
  | b, nil, k, v, r => ((b, k, v), r)
  | b, node lb ll lk lv lr, k, v, r => ((least lb ll lk lv lr).1, level b (least lb ll lk lv lr).2 k v r)

theorem least_spec : ∀ (l : Tr κ ν) (b : Nat) (k : κ) (v : ν) (r : Tr κ ν), (node b l k v r).bal →
    (least b l k v r).2.bal ∧ (least b l k v r).2.high ≤ (node b l k v r).high ∧ (node b l k v r).high ≤ (least b l k v r).2.high + 1 ∧
    (node b l k v r).pairs = (least b l k v r).1.2 :: (least b l k v r).2.pairs ∧ ((least b l k v r).1.1 :: (least b l k v r).2.blocks).Perm (node b l k v r).blocks := by
  intro l
  induction l with
  | nil =>
    intro b k v r h
    obtain ⟨b1, b2, b3, b4⟩ := h
    simp only [high] at b3 b4
    refine ⟨b2, ?_, ?_, rfl, ?_⟩
    · simp only [least, high]; omega
    · simp only [least, high]; omega
    · simp only [least, blocks, List.nil_append]; exact List.Perm.refl _
  | node lb ll lk lv lr ihl _ =>
    intro b k v r h
    obtain ⟨b1, b2, b3, b4⟩ := h
    obtain ⟨i1, i2, i3, i4, i5⟩ := ihl lb lk lv lr b1
    have hL := level_bal (b := b) (k := k) (v := v) i1 b2 (by omega) (by omega)
    have e1 : (node b (node lb ll lk lv lr) k v r).high = 1 + max (node lb ll lk lv lr).high r.high := rfl
    have e2 : least b (node lb ll lk lv lr) k v r = ((least lb ll lk lv lr).1, level b (least lb ll lk lv lr).2 k v r) := rfl
    rw [e2, e1]
    refine ⟨hL.1, by simp only; omega, by simp only; omega, ?_, ?_⟩
    · simp only
      rw [level_pairs]
      show (node lb ll lk lv lr).pairs ++ (k, v) :: r.pairs = _
      rw [i4]; rfl
    · simp only
      refine ((level_blocks _ _ _ _ _).cons _).trans ?_
      show List.Perm _ (b :: ((node lb ll lk lv lr).blocks ++ r.blocks))
      refine (List.Perm.swap _ _ _).trans (List.Perm.cons _ ?_)
      exact i5.append_right _

/-- a node whose key is taken out -/
def join (l r : Tr κ ν) : Tr κ ν :=
  match r with
  | nil => l
  | node rb rl rk rv rr => level (least rb rl rk rv rr).1.1 l (least rb rl rk rv rr).1.2.1 (least rb rl rk rv rr).1.2.2 (least rb rl rk rv rr).2
def cut (c : κ → κ → Int) (key : κ) : Tr κ ν → Tr κ ν
  | nil => nil
  | node b l k v r => if c key k < 0 then level b (cut c key l) k v r else if 0 < c key k then level b l k v (cut c key r) else join l r

theorem join_spec {l r : Tr κ ν} (hl : l.bal) (hr : r.bal) (h3 : l.high ≤ r.high + 1) (h4 : r.high ≤ l.high + 1) :
    (join l r).bal ∧ (join l r).high ≤ 1 + max l.high r.high ∧ max l.high r.high ≤ (join l r).high ∧ (join l r).pairs = l.pairs ++ r.pairs ∧ (join l r).blocks.Perm (l.blocks ++ r.blocks) := by
  cases r with
  | nil => simp only [join, high, pairs, blocks, List.append_nil]; exact ⟨hl, by omega, by omega, trivial, List.Perm.refl _⟩
  | node rb rl rk rv rr =>
    obtain ⟨i1, i2, i3, i4, i5⟩ := least_spec rl rb rk rv rr hr
    have hL := level_bal (b := (least rb rl rk rv rr).1.1) (k := (least rb rl rk rv rr).1.2.1) (v := (least rb rl rk rv rr).1.2.2) hl i1 (by omega) (by omega)
    simp only [join]
    refine ⟨hL.1, by omega, ?_, ?_, ?_⟩
    · rcases Nat.lt_or_ge (least rb rl rk rv rr).2.high (node rb rl rk rv rr).high with g | g
      · by_cases g2 : l.high ≤ (least rb rl rk rv rr).2.high + 1
        · have := hL.2.2.2 g2 (by omega); omega
        · omega
      · omega
    · rw [level_pairs, i4]
    · refine (level_blocks _ _ _ _ _).trans ?_
      refine List.perm_middle.symm.trans ?_
      exact i5.append_left _

theorem cut_bal (key : κ) {t : Tr κ ν} (h : t.bal) : (cut c key t).bal ∧ (cut c key t).high ≤ t.high ∧ t.high ≤ (cut c key t).high + 1 := by
  induction t with
  | nil => simp [cut, bal]
  | node b l k v r hl hr =>
    obtain ⟨b1, b2, b3, b4⟩ := h
    have il := hl b1
    have ir := hr b2
    unfold cut
    split
    · have := level_bal (b := b) (k := k) (v := v) il.1 b2 (by omega) (by omega)
      simp only [high]
      refine ⟨this.1, ?_, ?_⟩ <;> omega
    · split
      · have := level_bal (b := b) (k := k) (v := v) b1 ir.1 (by omega) (by omega)
        simp only [high]
        refine ⟨this.1, ?_, ?_⟩ <;> omega
      · have := join_spec b1 b2 b3 b4
        simp only [high]
        refine ⟨this.1, ?_, ?_⟩ <;> omega

theorem cut_pairs (ho : WOrd c) (key : κ) {t : Tr κ ν} (hb : t.bal) (h : Up c t.pairs) : (cut c key t).pairs = cutP c key t.pairs := by
  induction t with
  | nil => rfl
  | node b l k v r hl hr =>
    obtain ⟨u1, u2, u3, u4, u5⟩ := up_mid.1 h
    obtain ⟨b1, b2, b3, b4⟩ := hb
    unfold cut
    split
    · rename_i g
      rw [level_pairs, hl b1 u1]
      exact (cutP_left key _ _ k v g).symm
    · split
      · rename_i g1 g
        have hk : c k key < 0 := (ho.anti k key).2 g
        rw [level_pairs, hr b2 u2]
        show _ = cutP c key (l.pairs ++ (k, v) :: r.pairs)
        rw [cutP_right key l.pairs _ (fun x hx => (ho.anti x.1 key).1 (ho.lt_lt (u3 x hx) hk))]
        simp [cutP, g1, g]
      · rename_i g1 g2
        have e : c key k = 0 := by omega
        have e' := ho.zero e
        rw [(join_spec b1 b2 b3 b4).2.2.2.1]
        show _ = cutP c key (l.pairs ++ (k, v) :: r.pairs)
        rw [cutP_mid key _ _ k v e (fun x hx => (ho.anti x.1 key).1 (ho.lt_le (u3 x hx) (Int.le_of_eq e')))]

theorem cut_blocks (key : κ) {t : Tr κ ν} (hb : t.bal) : ∀ x ∈ (cut c key t).blocks, x ∈ t.blocks := by
  induction t with
  | nil => intro x hx; exact hx
  | node b l k v r hl hr =>
    obtain ⟨b1, b2, b3, b4⟩ := hb
    intro x
    unfold cut
    split
    · intro hx
      have := (level_blocks _ _ _ _ _).mem_iff.1 hx
      simp only [blocks, List.mem_cons, List.mem_append] at this ⊢
      rcases this with h | h | h
      · exact .inl h
      · exact .inr (.inl (hl b1 x h))
      · exact .inr (.inr h)
    · split
      · intro hx
        have := (level_blocks _ _ _ _ _).mem_iff.1 hx
        simp only [blocks, List.mem_cons, List.mem_append] at this ⊢
        rcases this with h | h | h
        · exact .inl h
        · exact .inr (.inl h)
        · exact .inr (.inr (hr b2 x h))
      · intro hx
        have := (join_spec b1 b2 b3 b4).2.2.2.2.mem_iff.1 hx
        simp only [blocks, List.mem_cons]
        exact .inr this

theorem cut_nodup (key : κ) {t : Tr κ ν} (hb : t.bal) (hn : t.blocks.Nodup) : (cut c key t).blocks.Nodup := by
  induction t with
  | nil => exact hn
  | node b l k v r hl hr =>
    obtain ⟨b1, b2, b3, b4⟩ := hb
    obtain ⟨n0, n1⟩ := List.nodup_cons.1 hn
    obtain ⟨n2, n3, n4⟩ := List.nodup_append.1 n1
    unfold cut
    split
    · refine (level_blocks _ _ _ _ _).nodup_iff.2 (List.nodup_cons.2 ⟨fun hm => n0 ?_, List.nodup_append.2 ⟨hl b1 n2, n3, fun x hx y hy => n4 x (cut_blocks key b1 x hx) y hy⟩⟩)
      rcases List.mem_append.1 hm with hm | hm
      · exact List.mem_append_left _ (cut_blocks key b1 _ hm)
      · exact List.mem_append_right _ hm
    · split
      · refine (level_blocks _ _ _ _ _).nodup_iff.2 (List.nodup_cons.2 ⟨fun hm => n0 ?_, List.nodup_append.2 ⟨n2, hr b2 n3, fun x hx y hy => n4 x hx y (cut_blocks key b2 y hy)⟩⟩)
        rcases List.mem_append.1 hm with hm | hm
        · exact List.mem_append_left _ hm
        · exact List.mem_append_right _ (cut_blocks key b2 _ hm)
      · exact (join_spec b1 b2 b3 b4).2.2.2.2.nodup_iff.2 n1

/-- what a key has -/
def get (c : κ → κ → Int) (key : κ) : Tr κ ν → Option ν
  | nil => none
  | node _ l k v r => if c key k < 0 then get c key l else if 0 < c key k then get c key r else some v
theorem get_pairs (ho : WOrd c) (key : κ) {t : Tr κ ν} (h : Up c t.pairs) : get c key t = getL c key t.pairs := by
  induction t with
  | nil => rfl
  | node b l k v r hl hr =>
    obtain ⟨u1, u2, u3, u4, u5⟩ := up_mid.1 h
    show (if c key k < 0 then get c key l else if 0 < c key k then get c key r else some v) = getL c key (l.pairs ++ (k, v) :: r.pairs)
    split
    · rename_i g
      rw [getL_left key _ _ k v g, hl u1]
    · split
      · rename_i g1 g
        have hk : c k key < 0 := (ho.anti k key).2 g
        rw [getL_right key l.pairs _ (fun x hx => (ho.anti x.1 key).1 (ho.lt_lt (u3 x hx) hk)), hr u2]
        simp [getL, g1, g]
      · rename_i g1 g2
        have e : c key k = 0 := by omega
        have e' := ho.zero e
        rw [getL_mid key _ _ k v e (fun x hx => (ho.anti x.1 key).1 (ho.lt_le (u3 x hx) (Int.le_of_eq e')))]

/-- how many keys a level tree has at least, and one -/
def fewest : Nat → Nat
  | 0 => 1
  | 1 => 2
  | h + 2 => fewest (h + 1) + fewest h
theorem fewest_one (h : Nat) : fewest (h + 1) ≤ 2 * fewest h ∧ fewest h ≤ fewest (h + 1) := by
  induction h with
  | zero => simp [fewest]
  | succ h ih =>
    have e : fewest (h + 2) = fewest (h + 1) + fewest h := rfl
    exact ⟨by rw [e]; omega, by rw [e]; omega⟩
theorem fewest_two (h : Nat) : fewest (h + 1) ≤ 2 * fewest h ∧ fewest h ≤ fewest (h + 1) ∧ 2 ^ h ≤ fewest h * fewest h := by
  induction h with
  | zero => simp [fewest]
  | succ h ih =>
    obtain ⟨i1, i2, i3⟩ := ih
    have e : fewest (h + 2) = fewest (h + 1) + fewest h := rfl
    refine ⟨by rw [e]; omega, by rw [e]; omega, ?_⟩
    cases h with
    | zero => simp [fewest]
    | succ h =>
      have e : fewest (h + 2) = fewest (h + 1) + fewest h := rfl
      have g : 2 ^ (h + 1 + 1) = 2 * 2 ^ (h + 1) := by rw [Nat.pow_succ]; omega
      have h3 := (fewest_one h).1
      have e3 : fewest (h + 1 + 1) = fewest (h + 1) + fewest h := rfl
      rw [g, e3] at *
      generalize fewest (h + 1) = x at *
      generalize fewest h = y at *
      generalize 2 ^ (h + 1) = p at *
      have m1 : x * x ≤ (2 * y) * x := Nat.mul_le_mul_right _ h3
      have m2 : x * x ≤ 2 * y * (2 * y) := Nat.le_trans m1 (Nat.mul_le_mul_left _ h3)
      have x2 : (x + y) * (x + y) = x * x + 2 * (x * y) + y * y := by
        simp only [Nat.add_mul, Nat.mul_add, Nat.mul_comm y x]; omega
      have x3 : 2 * y * x = 2 * (x * y) := by rw [Nat.mul_assoc, Nat.mul_comm y x]
      have x4 : 2 * y * (2 * y) = 4 * (y * y) := by rw [Nat.mul_assoc, Nat.mul_left_comm y 2 y]; omega
      omega
theorem fewest_mono {a b : Nat} (h : a ≤ b) : fewest a ≤ fewest b := by
  induction b with
  | zero => rw [Nat.le_zero.1 h]; exact Nat.le_refl _
  | succ b ih =>
    rcases Nat.lt_or_ge a (b + 1) with g | g
    · exact Nat.le_trans (ih (by omega)) (fewest_two b).2.1
    · rw [show a = b + 1 by omega]; exact Nat.le_refl _
/-- as high as the document lets a tree be -/
theorem many_high {t : Tr κ ν} (h : t.bal) : fewest t.high ≤ t.many + 1 ∧ t.many < 2 ^ t.high := by
  induction t with
  | nil => simp [high, many, fewest]
  | node b l k v r hl hr =>
    obtain ⟨b1, b2, b3, b4⟩ := h
    obtain ⟨l1, l2⟩ := hl b1
    obtain ⟨r1, r2⟩ := hr b2
    simp only [high, many]
    have p1 := Nat.pow_le_pow_right (show 0 < 2 by omega) (Nat.le_max_left l.high r.high)
    have p2 := Nat.pow_le_pow_right (show 0 < 2 by omega) (Nat.le_max_right l.high r.high)
    have e : 2 ^ (1 + max l.high r.high) = 2 * 2 ^ (max l.high r.high) := by rw [Nat.add_comm, Nat.pow_succ]; omega
    refine ⟨?_, by rw [e]; omega⟩
    rcases Nat.lt_trichotomy l.high r.high with g | g | g
    · obtain ⟨x, hx⟩ : ∃ x, r.high = l.high + 1 ∧ x = l.high := ⟨_, by omega, rfl⟩
      rw [show 1 + max l.high r.high = l.high + 2 by omega]
      show fewest (l.high + 1) + fewest l.high ≤ _
      rw [← hx.1]; omega
    · rw [show 1 + max l.high r.high = l.high + 1 by omega]
      have := (fewest_two l.high).1
      rw [← g] at r1; omega
    · rw [show 1 + max l.high r.high = r.high + 2 by omega]
      show fewest (r.high + 1) + fewest r.high ≤ _
      rw [show r.high + 1 = l.high by omega]; omega
theorem high_le {t : Tr κ ν} (h : t.bal) : 2 ^ t.high ≤ (t.many + 1) * (t.many + 1) :=
  Nat.le_trans (fewest_two _).2.2 (Nat.mul_le_mul (many_high h).1 (many_high h).1)
end Tr
end Go.Proofs.Ytfjeagffdijcoaa
