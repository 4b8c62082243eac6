/- Layer 6: (*Table).at and its closure. -/
import Derived.Test.YtpkcccphoolapaaRngA
import Derived.Test.YtpkcccphoolapaaSearch
namespace Go.Proofs.Ytpkcccphoolapaa
open Go.RowKit

set_option maxHeartbeats 400000 in
theorem atFn_any (w : World) (B1 B2 T b off cap n i : Nat) (key hi : Int) (hB1 : w.cell? ⟨B1, 0, none⟩ = some (.pointer (some ⟨T, 0, none⟩)))
    (hT : w.cell? ⟨T, 1, none⟩ = some (.slice (some ⟨b, off, none⟩) n cap)) (hB2 : w.cell? ⟨B2, 0, none⟩ = some (.int .u64 key)) (hi' : (i : Int) < n)
    (hc : w.cell? ⟨b, off + i * 3 + 1, none⟩ = some (.int .u64 hi)) :
    Calls Try.prog 99 #[.int .i64 i, .pointer (some ⟨B1, 0, none⟩), .pointer (some ⟨B2, 0, none⟩)] w fun e w' => e = .returned (.bool (decide (key ≤ hi))) ∧ ∃ q, w' = w.drewN q := by
  go_enter Try.func99, Try.ntmps99
  go_wp2
  go_quiet (fail)
  go_wp2
  go_ret
  exact ⟨rfl, _, rfl⟩

theorem his_mono {l : List Seg} {a b : Int} (h : Rng.tile a l b) : ∀ (i j : Nat) (s t : Seg), i ≤ j → l[i]? = some s → l[j]? = some t → s.hi ≤ t.hi := by
  induction l generalizing a with
  | nil => intro i j s t _ h1; simp at h1
  | cons x r ih =>
    obtain ⟨h1, h2, h3⟩ := h
    intro i j s t hij hs ht
    cases i with
    | zero =>
      simp at hs
      subst hs
      cases j with
      | zero => simp at ht; subst ht; omega
      | succ j =>
        simp at ht
        have := Rng.tile_mem h3 t (List.mem_of_getElem? ht)
        omega
    | succ i =>
      cases j with
      | zero => omega
      | succ j => simp at hs ht; exact ih h3 i j s t (by omega) hs ht

theorem at_countP (l : List Seg) (key : Int) (p : Nat → Bool) (hp : ∀ i s, l[i]? = some s → p i = decide (key ≤ s.hi)) : (List.range l.length).countP (fun i => !p i) = Rng.at' l key := by
  unfold Rng.at'
  have : ∀ (l : List Seg) (k : Nat), (∀ i s, l[i]? = some s → p (k + i) = decide (key ≤ s.hi)) → (List.range' k l.length).countP (fun i => !p i) = l.countP (fun s => decide (s.hi < key)) := by
    intro l
    induction l with
    | nil => intro k _; rfl
    | cons s r ih =>
      intro k h
      rw [List.length_cons, List.range'_succ, List.countP_cons, List.countP_cons, ih (k + 1) (fun i t ht => by rw [show k + 1 + i = k + (i + 1) by omega]; exact h (i + 1) t (by simpa using ht))]
      have := h 0 s rfl
      rw [Nat.add_zero] at this
      rw [this]
      by_cases hk : key ≤ s.hi
      · simp [hk, show ¬ s.hi < key by omega]
      · simp [hk, show s.hi < key by omega]
  rw [List.range_eq_range']
  exact this l 0 (fun i s hs => by rw [Nat.zero_add]; exact hp i s hs)

set_option maxHeartbeats 1000000 in
theorem at_any (w : World) (T : Nat) (A : Option Addr) (n c : Nat) (l : List Seg) (key : Int) (hl : l.length = n) (hm : n < 4611686018427387904)
    (hT : w.cell? ⟨T, 1, none⟩ = some (.slice A n c)) (hR : Segs w.heap.size w A l) {a b : Int} (ht : Rng.tile a l b) :
    Calls Try.prog 96 #[.pointer (some ⟨T, 0, none⟩), .int .u64 key] w fun e w' => e = .returned (.int .i64 (Rng.at' l key : Nat)) ∧ Below w.heap.size w w' := by
  subst hl
  have hTl := World.block_lt_of_cell? _ _ hT
  have eg : ∀ args w, (callFunc 99 args).run Try.prog w = .ok (.enter 99 args) w := enters_fn Try.func99 (by kernel_rfl) rfl
  let W := (w.alloc (.cells #[.pointer (some ⟨T, 0, none⟩)] 86)).alloc (.cells #[.int .u64 key] 59)
  have hBW : Below w.heap.size w W := ((Below.refl _ w).alloc (Nat.le_refl _) _).alloc (by simp) _
  have hs := search_any 99 #[.pointer (some ⟨w.heap.size, 0, none⟩), .pointer (some ⟨w.heap.size + 1, 0, none⟩)] l.length (fun i => match l[i]? with | some s => decide (key ≤ s.hi) | none => true) W eg hm
    (fun m i hi => by
      obtain ⟨b, off, s, hs, rfl, hb, h0, h1, h2⟩ := Segs.at3 hR i hi
      have hs' := hs.out
      simp only [hs']
      have := atFn_any (W.drewN m) w.heap.size (w.heap.size + 1) T b off c l.length i key s.hi
        (by show W.cell? _ = _; simp [W])
        (by show W.cell? _ = _; rw [hBW.cell (p := ⟨T, 1, none⟩) hTl]; exact hT)
        (by show W.cell? _ = _; simp [W])
        (by omega)
        (by show W.cell? _ = _; rw [hBW.cell (p := ⟨b, _, none⟩) hb]; exact h1)
      exact this)
    (fun a b hab hb hp => by
      have e1 := List.getElem?_eq_getElem (show a < l.length by omega)
      have e2 := List.getElem?_eq_getElem hb
      simp only [e1, e2, decide_eq_true_eq] at hp ⊢
      have := his_mono ht a b _ _ hab e1 e2
      omega)
  rw [at_countP l key _ (fun i s hs => by simp only [hs])] at hs
  clear hR ht
  generalize Rng.at' l key = r at hs ⊢
  have hW : W = (w.alloc (.cells #[.pointer (some ⟨T, 0, none⟩)] 86)).alloc (.cells #[.int .u64 key] 59) := rfl
  have HB := hid hBW
  clear hBW
  clear_value W
  go_enter Try.func96, Try.ntmps96
  subst hW
  go_wp2_with fail
  refine hs.mono ?_
  rintro e w' ⟨rfl, q, rfl⟩
  go_wp2
  go_ret
  exact ⟨rfl, below_drewN' HB.out _⟩
end Go.Proofs.Ytpkcccphoolapaa
