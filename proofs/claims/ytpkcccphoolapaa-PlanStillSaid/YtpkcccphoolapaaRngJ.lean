/- Layer 6: joined. -/
import Derived.Test.YtpkcccphoolapaaRngA
import Derived.Test.YtpkcccphoolapaaRngL
namespace Go.Proofs.Ytpkcccphoolapaa
open Go.RowKit

theorem beq_maxK (x : Int) : (x == 18446744073709551615) = decide (x = maxK) := rfl

theorem fault_step {next : Int} {full : Bool} {k : Nat} {l : List Seg} {s : Seg} (hs : l[k]? = some s) (h1 : ¬ (full = true ∨ s.lo ≠ next)) (h2 : ¬ s.hi < s.lo) (h3 : ¬ 16 ≤ s.host) :
    Rng.fault next full k (l.drop k) = Rng.fault (IntKind.u64.wrap (s.hi + 1)) (decide (s.hi = maxK)) (k + 1) (l.drop (k + 1)) := by
  have : l.drop k = s :: l.drop (k + 1) := by
    obtain ⟨hk, rfl⟩ := List.getElem?_eq_some_iff.1 hs
    exact List.drop_eq_getElem_cons hk
  rw [this]
  conv => lhs; unfold Rng.fault
  rw [if_neg h1, if_neg h2, if_neg h3]
theorem fault_stop {next : Int} {full : Bool} {k : Nat} {l : List Seg} {s : Seg} (hs : l[k]? = some s) :
    Rng.fault next full k (l.drop k) = if full = true ∨ s.lo ≠ next then (k, 62) else if s.hi < s.lo then (k, 60) else if 16 ≤ s.host then (k, 2) else Rng.fault (IntKind.u64.wrap (s.hi + 1)) (decide (s.hi = maxK)) (k + 1) (l.drop (k + 1)) := by
  have : l.drop k = s :: l.drop (k + 1) := by
    obtain ⟨hk, rfl⟩ := List.getElem?_eq_some_iff.1 hs
    exact List.drop_eq_getElem_cons hk
  rw [this]
  conv => lhs; unfold Rng.fault

set_option maxHeartbeats 2000000 in
theorem joined_any (w : World) (A : Option Addr) (n c : Nat) (l : List Seg) (hl : l.length = n) (hbytes : n * 24 ≤ 140737488351232) (hR : Segs w.heap.size w A l) :
    Calls Try.prog 64 #[.slice A n c] w fun e w' =>
      ∃ v, e = .returned (.tuple #[v, .int .i64 ((Rng.faultL l).1 : Nat), .int .i64 (Rng.faultL l).2]) ∧ ((Rng.faultL l).2 = 0 → OwnSegs w' w.heap.size v (Rng.joinL l)) ∧ ((Rng.faultL l).2 ≠ 0 → v = .slice none 0 0) ∧ Below w.heap.size w w' := by
  subst hl
  have hmk := make_run (P := Try.prog) 32 67 _ 3 24 Try.underlying32 infoSeg l.length (l.length : Int) rfl (by omega) (by omega)
  go_enter Try.func64, Try.ntmps64
  go_wp2
  have hown0 : OwnSegs (w.alloc (.cells (madeCells (Value.agg #[Value.int .u64 0, .int .u64 0, .int .u8 0]).cells (l.length * 3)) 67)) w.heap.size (.slice (some ⟨w.heap.size, 0, none⟩) 0 l.length) [] :=
    World.ownsRow_made _ _ _ (Nat.le_refl _) (by simp only [maxLen]; omega) (size_madeCells _ _)
  have hB0 : Below w.heap.size w (w.alloc (.cells (madeCells (Value.agg #[Value.int .u64 0, .int .u64 0, .int .u8 0]).cells (l.length * 3)) 67)) := (Below.refl _ _).alloc (Nat.le_refl _) _
  clear hmk
  go_loopw [5, 6, 7, 15] (fun o nx fu i wr => ∃ (k : Nat) (next : Int) (full : Bool), k ≤ l.length ∧ i = .int .i64 k ∧ nx = .int .u64 next ∧ fu = .bool full ∧ Hid (Rng.faultL l = Rng.fault next full k (l.drop k)) ∧ OwnSegs wr w.heap.size o ((l.take k).foldl Rng.push []) ∧ Below w.heap.size w wr) (fun _ _ _ i _ => l.length - (intOf i).toNat)
  case atStart => exact ⟨0, 0, false, Nat.zero_le _, rfl, rfl, rfl, by show _ = _; rfl, hown0, hB0⟩
  case round =>
    obtain ⟨k, next, full, hk, rfl, rfl, rfl, HF, hown, hB⟩ := hrel
    by_cases hlt : k < l.length
    · obtain ⟨b, off, s, hs, rfl, hb, c0, c1, c2⟩ := Segs.at3 hR k hlt
      have hbr : b < wr.heap.size := Nat.lt_of_lt_of_le hb hB.size
      replace c0 := Tfact hB (a := ⟨b, _, none⟩) hb c0
      replace c1 := Tfact hB (a := ⟨b, _, none⟩) hb c1
      replace c2 := Tfact hB (a := ⟨b, _, none⟩) hb c2
      have hkn : (k : Int) < l.length := by omega
      have HS := hid (fault_stop (next := next) (full := full) hs.out)
      have hB1 := hB.alloc hB.size (.cells #[.int .u64 s.lo, .int .u64 s.hi, .int .u8 s.host] 67)
      by_cases h1 : full = true ∨ s.lo ≠ next
      · have e : Hid (Rng.faultL l = (k, 62)) := by show _ = _; rw [HF.out, HS.out, if_pos h1]
        cases full with
        | true =>
          go_wp2
          refine bodyPost_ret (results_tmp3 rfl _ _ _) rfl ?_
          exact ⟨_, by rw [e.out]; rfl, by rw [e.out]; simp, fun _ => rfl, hB1⟩
        | false =>
          have hne : (s.lo != next) = true := by simpa using h1
          go_wp2
          refine bodyPost_ret (results_tmp3 rfl _ _ _) rfl ?_
          exact ⟨_, by rw [e.out]; rfl, by rw [e.out]; simp, fun _ => rfl, hB1⟩
      have hf : full = false := by cases full <;> simp_all
      have hlo : s.lo = next := Classical.byContradiction fun e => h1 (.inr e)
      subst hf
      have hne : (s.lo != next) = false := by simp [hlo]
      by_cases h2 : s.hi < s.lo
      · have e : Hid (Rng.faultL l = (k, 60)) := by show _ = _; rw [HF.out, HS.out, if_neg h1, if_pos h2]
        clear hlo h1
        go_wp2
        refine bodyPost_ret (results_tmp3 rfl _ _ _) rfl ?_
        exact ⟨_, by rw [e.out]; rfl, by rw [e.out]; simp, fun _ => rfl, hB1⟩
      by_cases h3 : 16 ≤ s.host
      · have e : Hid (Rng.faultL l = (k, 2)) := by show _ = _; rw [HF.out, HS.out, if_neg h1, if_neg h2, if_pos h3]
        have hh : decide (s.host < 16) = false := by simp; omega
        clear hlo h1
        go_wp2_with (go_at_call 80; refine (isHost_any _ _).mono ?_; rintro e w' ⟨rfl, rfl⟩)
        refine bodyPost_ret (results_tmp3 rfl _ _ _) rfl ?_
        exact ⟨_, by rw [e.out]; rfl, by rw [e.out]; simp, fun _ => rfl, hB1⟩
      have e : Hid (Rng.faultL l = Rng.fault (IntKind.u64.wrap (s.hi + 1)) (decide (s.hi = maxK)) (k + 1) (l.drop (k + 1))) := by show _ = _; rw [HF.out, HS.out, if_neg h1, if_neg h2, if_neg h3]
      have hh : decide (s.host < 16) = true := by simp; omega
      have hlk : ((l.take k).foldl Rng.push []).length ≤ 5864062014700 := by
        have h2 := foldl_push_len (l.take k) []
        have h3 : (l.take k).length ≤ l.length := List.length_take_le' ..
        simp at h2
        omega
      clear hlo h1 h3
      have hp := push_any w.heap.size _ _ _ s (hown.alloc (.cells #[.int .u64 s.lo, .int .u64 s.hi, .int .u8 s.host] 67)) (by have := hB1.size; simp at this ⊢; omega) hlk
      have hRow := Row.new wr [.int .u64 s.lo, .int .u64 s.hi, .int .u8 s.host] 67
      have hne' : some wr.heap.size ≠ _ := fun e => absurd ((hown.lt _ e.symm).2) (Nat.lt_irrefl _)
      go_wp2_with (first | (go_at_call 80; refine (isHost_any _ _).mono ?_; rintro e w' ⟨rfl, rfl⟩) | fail)
      refine hp.mono ?_
      rintro e' w2 ⟨v2, rfl, hown2, hg2, _⟩
      have hB2 := hB1.grown hg2 hB1.size (own_ge hown)
      have hR2 := hRow.grown hg2 hne'
      have r1 := hR2.2 1 _ rfl
      have hEN := hid (show (l.take (k + 1)).foldl Rng.push [] = Rng.push ((l.take k).foldl Rng.push []) s by rw [List.take_add_one, hs.out, List.foldl_append]; rfl)
      clear hp hown hg2 hRow hB1
      go_upto_region 13 with fail
      go_quiet (fail)
      go_wp2
      go_roundw
      case rel => exact ⟨k + 1, _, _, by omega, by go_num, rfl, by rw [beq_maxK], e, by rw [hEN.out]; exact hown2, below_drewN' hB2 _⟩
      case measure => simp [intOf]; omega
    · obtain rfl : k = l.length := by omega
      have hd : Hid (l.drop l.length = []) := by show _ = _; simp
      cases full with
      | true =>
        have e : Hid (Rng.faultL l = (0, 0)) := by show _ = _; rw [HF.out, hd.out]; rfl
        go_wp2
        refine bodyPost_ret (results_tmp3 rfl _ _ _) rfl ?_
        exact ⟨_, by rw [e.out]; rfl, fun _ => by rw [List.take_length] at hown; exact hown, by rw [e.out]; simp, hB⟩
      | false =>
        have e : Hid (Rng.faultL l = (l.length, 62)) := by show _ = _; rw [HF.out, hd.out]; rfl
        go_wp2
        refine bodyPost_ret (results_tmp3 rfl _ _ _) rfl ?_
        exact ⟨_, by rw [e.out]; rfl, by rw [e.out]; simp, fun _ => rfl, hB⟩
end Go.Proofs.Ytpkcccphoolapaa
