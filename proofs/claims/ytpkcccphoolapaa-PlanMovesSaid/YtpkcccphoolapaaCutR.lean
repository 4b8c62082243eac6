/- Layer 15: the reference's cut. -/
import Derived.Test.YtpkcccphoolapaaPushP
import Derived.Test.YtpkcccphoolapaaPlayL
import Derived.Test.YtpkcccphoolapaaList
namespace Go.Proofs.Ytpkcccphoolapaa
open Go.RowKit

theorem pieces_len (lo hi o : Int) (s : Seg) : (Rng.cutPieces lo hi o s).length ≤ 3 := by
  unfold Rng.cutPieces Rng.pre Rng.post
  split
  · simp
  · split <;> split <;> simp

theorem ne_join {w1 : World} {v2 v1 : Value} {B7 : Nat} (hne : v1.ownBlock ≠ some B7) (hlt : B7 < w1.heap.size) (h : v2.ownBlock = v1.ownBlock ∨ ∃ b, v2.ownBlock = some b ∧ w1.heap.size ≤ b) : v2.ownBlock ≠ some B7 := by
  rcases h with h | ⟨b, h, hb⟩
  · rw [h]; exact hne
  · rw [h]; intro e; cases e; omega

set_option maxRecDepth 100000 in
set_option maxHeartbeats 4000000 in
theorem cutRef_any (w : World) (A : Option Addr) (n c : Nat) (l : List Seg) (lo hi o : Int) (hl : l.length = n) (hm : n ≤ 1000000000) (hR : Segs w.heap.size w A l) (hW : Rng.WF l) (h0 : 0 ≤ lo) (h2 : hi ≤ maxK) (h1 : lo ≤ hi) :
    Calls Try.prog 52 #[.slice A n c, .int .u64 lo, .int .u64 hi, .int .u8 o] w fun e w' => ∃ v, e = .returned v ∧ OwnSegs w' w.heap.size v (Rng.cutL l lo hi o) ∧ Below w.heap.size w w' := by
  subst hl
  have HR := hid hR
  have HW := hid hW
  clear hR hW
  go_enter Try.func52, Try.ntmps52
  go_wp2
  go_loopw [9, 10] (fun v i wr => ∃ (k : Nat) (ol : List Seg), k ≤ l.length ∧ i = .int .i64 k ∧ Hid (ol = ((l.take k).flatMap (Rng.cutPieces lo hi o)).foldl Rng.push []) ∧ ol.length ≤ 3 * k ∧ OwnSegs wr w.heap.size v ol ∧ Below w.heap.size w wr) (fun _ i _ => l.length - (intOf i).toNat)
  case atStart => exact ⟨0, [], Nat.zero_le _, rfl, hid rfl, Nat.le_refl _, World.ownsRow_nil _ _ _ _, Below.refl _ _⟩
  case round =>
    obtain ⟨k, ol, hk, rfl, HOL, hok, hown, hB⟩ := hrel
    by_cases hlt : k < l.length
    · obtain ⟨b, off, s, hs, rfl, hb, c0, c1, c2⟩ := Segs.at3 HR.out k hlt
      have hbr : b < wr.heap.size := Nat.lt_of_lt_of_le hb hB.size
      replace c0 := Tfact hB (a := ⟨b, _, none⟩) hb c0
      replace c1 := Tfact hB (a := ⟨b, _, none⟩) hb c1
      replace c2 := Tfact hB (a := ⟨b, _, none⟩) hb c2
      have hkn : (k : Int) < l.length := by omega
      have hsm := HW.out.seg s (List.mem_of_getElem? hs.out)
      have HN : Hid (∀ pcs, Rng.cutPieces lo hi o s = pcs → pcs.foldl Rng.push ol = ((l.take (k + 1)).flatMap (Rng.cutPieces lo hi o)).foldl Rng.push []) := by
        rintro pcs rfl
        rw [List.take_add_one, hs.out, List.flatMap_append, List.foldl_append, ← HOL.out]
        simp
      have hRow := Row.new wr [.int .u64 s.lo, .int .u64 s.hi, .int .u8 s.host] 67
      have hB1 := hB.alloc hB.size (.cells #[.int .u64 s.lo, .int .u64 s.hi, .int .u8 s.host] 67)
      have hown1 : OwnSegs (wr.alloc (.cells #[.int .u64 s.lo, .int .u64 s.hi, .int .u8 s.host] 67)) w.heap.size u9 ol := hown.alloc _
      have hne1 : (u9 : Value).ownBlock ≠ some wr.heap.size := fun e => absurd ((hown.lt _ e).2) (Nat.lt_irrefl _)
      obtain ⟨W1, hW1⟩ : ∃ W1, W1 = wr.alloc (.cells #[.int .u64 s.lo, .int .u64 s.hi, .int .u8 s.host] 67) := ⟨_, rfl⟩
      have HW1 := hid hW1
      rw [← hW1] at hRow hB1 hown1
      clear hW1 hown hB
      have hgen : ∃ B7, B7 = wr.heap.size := ⟨_, rfl⟩
      obtain ⟨B7, hB7⟩ := hgen
      have HB7 := hid hB7
      rw [← hB7] at hRow hne1
      clear hB7
      have r0 := hRow.2 0 _ rfl
      have r1 := hRow.2 1 _ rfl
      have r2 := hRow.2 2 _ rfl
      have hlt7 := hRow.1
      have hol : ol.length ≤ 3000000000 := by omega
      go_upto_region 6 with fail
      rw [← HW1.out, ← HB7.out]
      by_cases hc : s.hi < lo ∨ hi < s.lo
      · have hN := HN.out [s] (by unfold Rng.cutPieces; rw [if_pos hc])
        have HN2 := hid hN
        have hp := joinP_any w.heap.size W1 u9 ol s hown1 hB1.size (by omega)
        have hpl := (Rng.push_length ol s).1
        clear HN hN
        by_cases hc1 : s.hi < lo
        · go_wp2_with fail
          refine hp.mono ?_
          rintro e w2 ⟨v2, rfl, hown2, hg2, hat2⟩
          have hB2 := hB1.grown hg2 hB1.size (own_ge hown1)
          clear hp hown1 hg2 hat2 hB1 hRow r0 r1 r2
          go_wp2_with fail
          go_roundw
          case rel => exact ⟨k + 1, Rng.push ol s, by omega, by go_num, HN2, by omega, hown2, hB2⟩
          case measure => simp [intOf]; omega
        · have hc2 : hi < s.lo := by omega
          go_wp2_with fail
          refine hp.mono ?_
          rintro e w2 ⟨v2, rfl, hown2, hg2, hat2⟩
          have hB2 := hB1.grown hg2 hB1.size (own_ge hown1)
          clear hp hown1 hg2 hat2 hB1 hRow r0 r1 r2
          go_wp2_with fail
          go_roundw
          case rel => exact ⟨k + 1, Rng.push ol s, by omega, by go_num, HN2, by omega, hown2, hB2⟩
          case measure => simp [intOf]; omega
      · have hN := HN.out _ (by unfold Rng.cutPieces; rw [if_neg hc])
        rw [List.foldl_append, List.foldl_append] at hN
        simp only [List.foldl_cons, List.foldl_nil] at hN
        have HN2 := hid hN
        have hc1 : ¬ s.hi < lo := fun h => hc (.inl h)
        have hc2 : ¬ hi < s.lo := fun h => hc (.inr h)
        clear HN hN hc
        go_upto_if 38 with fail
        go_cut [9] (fun v wc => OwnSegs wc w.heap.size v ((Rng.pre s lo).foldl Rng.push ol) ∧ ((Rng.pre s lo).foldl Rng.push ol).length ≤ 3 * k + 1 ∧ Row wc B7 [.int .u64 s.lo, .int .u64 s.hi, .int .u8 s.host] ∧ v.ownBlock ≠ some B7 ∧ Below w.heap.size w wc)
        case first =>
          by_cases hp1 : s.lo < lo
          · have e : Hid (Rng.pre s lo = [⟨s.lo, lo - 1, s.host⟩]) := by show _ = _; unfold Rng.pre; rw [if_pos hp1]
            have hwl : IntKind.u64.wrap (lo - 1) = lo - 1 := wrap_u64_in (by omega) (by have := maxK_eq; omega)
            have hp := joinP_any w.heap.size W1 u9 ol ⟨s.lo, lo - 1, s.host⟩ hown1 hB1.size (by omega)
            have hpl := (Rng.push_length ol ⟨s.lo, lo - 1, s.host⟩).1
            go_wp2_with fail
            refine hp.mono ?_
            rintro e' w2 ⟨v2, rfl, hown2, hg2, hat2⟩
            go_wp2_with fail
            go_meet
            rw [e.out]
            exact ⟨hown2, by simp only [List.foldl_cons, List.foldl_nil]; omega, hRow.grown hg2 (fun e => hne1 e.symm), ne_join hne1 hlt7 hat2, hB1.grown hg2 hB1.size (own_ge hown1)⟩
          · have e : Hid (Rng.pre s lo = []) := by show _ = _; unfold Rng.pre; rw [if_neg hp1]
            go_wp2_with fail
            go_meet
            rw [e.out]
            exact ⟨hown1, by simp only [List.foldl_nil]; omega, hRow, hne1, hB1⟩
        case rest =>
        obtain ⟨hown3, hl3, hRow3, hne3, hB3⟩ := hcut
        clear hown1 hRow hne1 hB1 r0 r1 r2
        generalize (Rng.pre s lo).foldl Rng.push ol = X3 at *
        have hp := joinP_any w.heap.size wc _ X3 ⟨lo, hi, o⟩ hown3 hB3.size (by omega)
        have hpl := (Rng.push_length X3 ⟨lo, hi, o⟩).1
        have hlt3 := hRow3.1
        go_wp2_with fail
        refine hp.mono ?_
        rintro e' w4 ⟨v4, rfl, hown4, hg4, hat4⟩
        have hB4 := hB3.grown hg4 hB3.size (own_ge hown3)
        have hRow4 := hRow3.grown hg4 (fun e => hne3 e.symm)
        clear hp hown3 hg4 hat4 hB3 hRow3 hne3
        generalize Rng.push X3 ⟨lo, hi, o⟩ = X4 at *
        have r0 := hRow4.2 0 _ rfl
        have r1 := hRow4.2 1 _ rfl
        have r2 := hRow4.2 2 _ rfl
        by_cases hp3 : hi < s.hi
        · have e : Hid (Rng.post s hi = [⟨hi + 1, s.hi, s.host⟩]) := by show _ = _; unfold Rng.post; rw [if_pos hp3]
          have hwl : IntKind.u64.wrap (hi + 1) = hi + 1 := wrap_u64_in (by omega) (by have := maxK_eq; omega)
          have hp := joinP_any w.heap.size w4 v4 X4 ⟨hi + 1, s.hi, s.host⟩ hown4 hB4.size (by omega)
          have hpl4 := (Rng.push_length X4 ⟨hi + 1, s.hi, s.host⟩).1
          go_wp2_with fail
          refine hp.mono ?_
          rintro e' w5 ⟨v5, rfl, hown5, hg5, hat5⟩
          have hB5 := hB4.grown hg5 hB4.size (own_ge hown4)
          clear hp hown4 hg5 hat5 hB4 hRow4 r0 r1 r2
          go_wp2_with fail
          go_roundw
          case rel => exact ⟨k + 1, Rng.push X4 ⟨hi + 1, s.hi, s.host⟩, by omega, by go_num, hid (by rw [← HN2.out, e.out]; rfl), by omega, hown5, hB5⟩
          case measure => simp [intOf]; omega
        · have e : Hid (Rng.post s hi = []) := by show _ = _; unfold Rng.post; rw [if_neg hp3]
          go_wp2_with fail
          go_roundw
          case rel => exact ⟨k + 1, X4, by omega, by go_num, hid (by rw [← HN2.out, e.out]; rfl), by omega, hown4, hB4⟩
          case measure => simp [intOf]; omega
    · obtain rfl : k = l.length := by omega
      go_wp2
      go_ret
      exact ⟨_, rfl, by have := HOL.out; rw [List.take_length] at this; show OwnSegs _ _ _ (Rng.cutL l lo hi o); unfold Rng.cutL; rw [← this]; exact hown, hB⟩
end Go.Proofs.Ytpkcccphoolapaa
