/- Layer 15: keys; within; sameKeys. -/
import Derived.Test.YtpkcccphoolapaaProg
import Derived.Test.YtpkcccphoolapaaMem
import Derived.Test.YtpkcccphoolapaaSearch
import Derived.Test.YtpkcccphoolapaaTab
import Derived.RangeFuncBox
namespace Go.Proofs.Ytpkcccphoolapaa
open Go.RowKit

def encKey (k : Int) : List Value := [.int .u64 k]
theorem encKey_len (k : Int) : (encKey k).length = 1 := rfl
abbrev Keys (B : Nat) (w : World) (A : Option Addr) (l : List Int) : Prop := Reads B w encKey 1 A l

theorem Keys.at1 {B : Nat} {w : World} {A : Option Addr} {l : List Int} (h : Keys B w A l) (i : Nat) (hi : i < l.length) :
    ∃ b off x, Hid (l[i]? = some x) ∧ A = some ⟨b, off, none⟩ ∧ b < B ∧ w.cell? ⟨b, off + i, none⟩ = some (.int .u64 x) := by
  obtain ⟨b, off, x, hx, hA, hb, hc⟩ := h.at i hi
  have := hc 0 _ rfl
  rw [Nat.mul_one] at this
  exact ⟨b, off, x, hx, hA, hb, this⟩

/-- rising -/
def Inc (l : List Int) : Prop := ∀ (i j : Nat) (a b : Int), i < j → l[i]? = some a → l[j]? = some b → a < b
def cntLt (l : List Int) (x : Int) : Nat := l.countP (fun k => decide (k < x))
def cntLe (l : List Int) (x : Int) : Nat := l.countP (fun k => decide (k ≤ x))

theorem countP_range {α : Type} (l : List α) (p : Nat → Bool) (f : α → Bool) (hp : ∀ i s, l[i]? = some s → p i = f s) : (List.range l.length).countP (fun i => !p i) = l.countP (fun s => !f s) := by
  have : ∀ (l : List α) (k : Nat), (∀ i s, l[i]? = some s → p (k + i) = f s) → (List.range' k l.length).countP (fun i => !p i) = l.countP (fun s => !f s) := by
    intro l
    induction l with
    | nil => intro k _; rfl
    | cons s r ih =>
      intro k h
      rw [List.length_cons, List.range'_succ, List.countP_cons, List.countP_cons, ih (k + 1) (fun i t ht => by rw [show k + 1 + i = k + (i + 1) by omega]; exact h (i + 1) t (by simpa using ht))]
      have := h 0 s rfl
      rw [Nat.add_zero] at this
      rw [this]
  rw [List.range_eq_range']
  exact this l 0 (fun i s hs => by rw [Nat.zero_add]; exact hp i s hs)

set_option maxHeartbeats 400000 in
theorem within1_any (w : World) (B1 B2 b off cap n i : Nat) (lo x : Int) (hB1 : w.cell? ⟨B1, 0, none⟩ = some (.slice (some ⟨b, off, none⟩) n cap))
    (hB2 : w.cell? ⟨B2, 0, none⟩ = some (.int .u64 lo)) (hi' : (i : Int) < n) (hc : w.cell? ⟨b, off + i, none⟩ = some (.int .u64 x)) :
    Calls Try.prog 78 #[.int .i64 i, .pointer (some ⟨B1, 0, none⟩), .pointer (some ⟨B2, 0, none⟩)] w fun e w' => e = .returned (.bool (decide (lo ≤ x))) ∧ ∃ q, w' = w.drewN q := by
  go_enter Try.func78, Try.ntmps78
  go_wp2
  go_quiet (fail)
  go_wp2
  go_ret
  exact ⟨rfl, _, rfl⟩

set_option maxHeartbeats 400000 in
theorem within2_any (w : World) (B1 B2 b off cap n i : Nat) (lo x : Int) (hB1 : w.cell? ⟨B1, 0, none⟩ = some (.slice (some ⟨b, off, none⟩) n cap))
    (hB2 : w.cell? ⟨B2, 0, none⟩ = some (.int .u64 lo)) (hi' : (i : Int) < n) (hc : w.cell? ⟨b, off + i, none⟩ = some (.int .u64 x)) :
    Calls Try.prog 79 #[.int .i64 i, .pointer (some ⟨B1, 0, none⟩), .pointer (some ⟨B2, 0, none⟩)] w fun e w' => e = .returned (.bool (decide (lo < x))) ∧ ∃ q, w' = w.drewN q := by
  go_enter Try.func79, Try.ntmps79
  go_wp2
  go_quiet (fail)
  go_wp2
  go_ret
  exact ⟨rfl, _, rfl⟩

set_option maxHeartbeats 1000000 in
/-- how many keys lie ahead of a range; how many ahead of its end -/
theorem withinKeys_any (w : World) (A : Option Addr) (n c : Nat) (l : List Int) (lo hi : Int) (hl : l.length = n) (hm : n < 4611686018427387904) (hR : Keys w.heap.size w A l) (hI : Inc l) :
    Calls Try.prog 62 #[.slice A n c, .int .u64 lo, .int .u64 hi] w fun e w' => e = .returned (.tuple #[.int .i64 (cntLt l lo : Nat), .int .i64 (cntLe l hi : Nat)]) ∧ Below w.heap.size w w' := by
  subst hl
  have eg1 : ∀ args w, (callFunc 78 args).run Try.prog w = .ok (.enter 78 args) w := enters_fn Try.func78 (by kernel_rfl) rfl
  have eg2 : ∀ args w, (callFunc 79 args).run Try.prog w = .ok (.enter 79 args) w := enters_fn Try.func79 (by kernel_rfl) rfl
  obtain ⟨W, hW⟩ : ∃ W, W = ((w.alloc (.cells #[.slice A l.length c] 33)).alloc (.cells #[.int .u64 lo] 59)).alloc (.cells #[.int .u64 hi] 59) := ⟨_, rfl⟩
  have hBW : Below w.heap.size w W := by rw [hW]; exact (((Below.refl _ w).alloc (Nat.le_refl _) _).alloc (by simp) _).alloc (by simp; omega) _
  have b1 : W.cell? ⟨w.heap.size, 0, none⟩ = some (.slice A l.length c) := by rw [hW]; exact (((Boxed.new w _ _).alloc _).alloc _).cell
  have b2 : W.cell? ⟨w.heap.size + 1, 0, none⟩ = some (.int .u64 lo) := by rw [hW]; have := ((Boxed.new (w.alloc (.cells #[.slice A l.length c] 33)) 59 (.int .u64 lo)).alloc (.cells #[.int .u64 hi] 59)).cell; rw [World.size_alloc] at this; exact this
  have b3 : W.cell? ⟨w.heap.size + 1 + 1, 0, none⟩ = some (.int .u64 hi) := by rw [hW]; have := (Boxed.new ((w.alloc (.cells #[.slice A l.length c] 33)).alloc (.cells #[.int .u64 lo] 59)) 59 (.int .u64 hi)).cell; rw [World.size_alloc, World.size_alloc] at this; exact this
  have mono : ∀ (f : Int → Bool), (∀ x y, x ≤ y → f x = true → f y = true) → ∀ a b, a ≤ b → b < l.length → (match l[a]? with | some x => f x | none => true) = true → (match l[b]? with | some x => f x | none => true) = true := by
    intro f hf a b hab hb hp
    have e1 := List.getElem?_eq_getElem (show a < l.length by omega)
    have e2 := List.getElem?_eq_getElem hb
    simp only [e1, e2] at hp ⊢
    rcases Nat.lt_or_ge a b with h | h
    · exact hf _ _ (Int.le_of_lt (hI a b _ _ h e1 e2)) hp
    · obtain rfl : a = b := by omega
      exact hp
  have hs1 : ∀ q, _ := fun q => search_any 78 #[.pointer (some ⟨w.heap.size, 0, none⟩), .pointer (some ⟨w.heap.size + 1, 0, none⟩)] l.length (fun i => match l[i]? with | some x => decide (lo ≤ x) | none => true) (W.drewN q) eg1 hm
    (fun m i hi' => by
      obtain ⟨b, off, x, hx, rfl, hb, hc⟩ := hR.at1 i hi'
      have hx' := hx.out
      simp only [hx']
      exact within1_any ((W.drewN q).drewN m) w.heap.size (w.heap.size + 1) b off c l.length i lo x b1 b2 (by omega) (by show W.cell? _ = _; rw [hBW.cell (p := ⟨b, _, none⟩) hb]; exact hc))
    (mono (fun x => decide (lo ≤ x)) (fun x y h1 h2 => by simp only [decide_eq_true_eq] at *; omega))
  have hs2 : ∀ q, _ := fun q => search_any 79 #[.pointer (some ⟨w.heap.size, 0, none⟩), .pointer (some ⟨w.heap.size + 1 + 1, 0, none⟩)] l.length (fun i => match l[i]? with | some x => decide (hi < x) | none => true) (W.drewN q) eg2 hm
    (fun m i hi' => by
      obtain ⟨b, off, x, hx, rfl, hb, hc⟩ := hR.at1 i hi'
      have hx' := hx.out
      simp only [hx']
      exact within2_any ((W.drewN q).drewN m) w.heap.size (w.heap.size + 1 + 1) b off c l.length i hi x b1 b3 (by omega) (by show W.cell? _ = _; rw [hBW.cell (p := ⟨b, _, none⟩) hb]; exact hc))
    (mono (fun x => decide (hi < x)) (fun x y h1 h2 => by simp only [decide_eq_true_eq] at *; omega))
  have e1 : (List.range l.length).countP (fun i => !(match l[i]? with | some x => decide (lo ≤ x) | none => true)) = cntLt l lo := by
    rw [countP_range l _ (fun x => decide (lo ≤ x)) (fun i s hs => by simp only [hs])]
    unfold cntLt
    congr 1; funext x; by_cases h : lo ≤ x <;> simp [h] <;> omega
  have e2 : (List.range l.length).countP (fun i => !(match l[i]? with | some x => decide (hi < x) | none => true)) = cntLe l hi := by
    rw [countP_range l _ (fun x => decide (hi < x)) (fun i s hs => by simp only [hs])]
    unfold cntLe
    congr 1; funext x; by_cases h : hi < x <;> simp [h] <;> omega
  simp only [e1] at hs1
  simp only [e2] at hs2
  have HB := hid hBW
  have HS1 := hid hs1
  have HS2 := hid hs2
  have HW := hid hW
  clear hBW hs1 hs2 hW mono e1 e2 eg1 eg2 hR hI
  generalize cntLt l lo = r1 at *
  generalize cntLe l hi = r2 at *
  go_enter Try.func62, Try.ntmps62
  go_wp2_with fail
  rw [← HW.out]
  refine (HS1.out 0).mono ?_
  rintro e w' ⟨rfl, q, rfl⟩
  go_wp2_with fail
  refine (HS2.out _).mono ?_
  rintro e w' ⟨rfl, q2, rfl⟩
  go_wp2
  go_ret2
  exact ⟨rfl, below_drewN' HB.out _⟩

set_option maxHeartbeats 1000000 in
/-- two slices of keys that read alike are the same. -/
theorem sameKeys_any (B B' : Nat) (w : World) (A A' : Option Addr) (n c n' c' : Nat) (l : List Int) (hl : l.length = n) (hl' : l.length = n') (hm : n ≤ 9223372036854775807) (hR : Keys B w A l) (hR' : Keys B' w A' l) :
    Calls Try.prog 20 #[.slice A n c, .slice A' n' c'] w fun e w' => e = .returned (.bool true) ∧ ∃ q, w' = w.drewN q := by
  subst hl
  subst hl'
  go_enter Try.func20, Try.ntmps20
  go_wp2
  go_loopw [5] (fun i wr => ∃ k : Nat, k ≤ l.length ∧ i = .int .i64 k ∧ ∃ q, wr = w.drewN q) (fun i _ => l.length - (intOf i).toNat)
  case atStart => exact ⟨0, Nat.zero_le _, rfl, 0, rfl⟩
  case round =>
    obtain ⟨k, hk, rfl, q, rfl⟩ := hrel
    by_cases hlt : k < l.length
    · obtain ⟨b, off, s, hs, rfl, hb, c0⟩ := Keys.at1 hR k hlt
      obtain ⟨b', off', s', hs', rfl, hb', d0⟩ := Keys.at1 hR' k hlt
      obtain rfl : s' = s := by have := hs.out.symm.trans hs'.out; injection this with this; exact this.symm
      have hi : (k : Int) < (l.length : Int) := by omega
      have hb1 : (s' != s') = false := by simp
      go_wp2
      go_quiet (fail)
      go_wp2
      go_roundw
      case rel => exact ⟨k + 1, by omega, by go_num, by first | exact ⟨_, rfl⟩ | exact ⟨_, World.drewN_drewN ..⟩⟩
      case measure => simp [intOf]; omega
    · go_wp2
      go_ret
      exact ⟨rfl, _, rfl⟩
end Go.Proofs.Ytpkcccphoolapaa
