/- Layer 6: the reference's Owns. -/
import Derived.Test.YtpkcccphoolapaaPlayL
import Derived.Test.YtpkcccphoolapaaList
namespace Go.Proofs.Ytpkcccphoolapaa
open Go.RowKit

set_option maxRecDepth 100000 in
set_option maxHeartbeats 2000000 in
theorem ownsRef_any (w : World) (lm : Int) (A : Option Addr) (n c : Nat) (l : List Seg) (lo hi x : Int) (hl : l.length = n) (hm : n ≤ 1000000000) (hR : Segs w.heap.size w A l) (hpos : 0 < l.length) :
    Calls Try.prog 51 #[.agg #[.int .i64 lm, .slice A n c], .int .u64 lo, .int .u64 hi, .int .u8 x] w fun e w' => ∃ b : Bool, e = .returned (.bool b) ∧ (b = true ↔ (lo ≤ hi ∧ Rng.ownsAll l lo hi x)) ∧ Below w.heap.size w w' := by
  subst hl
  obtain ⟨b, off, rfl, hb, hcells⟩ := Segs.open' hR hpos
  obtain ⟨W, hWd⟩ : ∃ W, W = w.alloc (.cells #[.int .i64 lm, .slice (some ⟨b, off, none⟩) l.length c] 65) := ⟨_, rfl⟩
  have hRow : Row W w.heap.size [.int .i64 lm, .slice (some ⟨b, off, none⟩) l.length c] := by rw [hWd]; exact Row.new w [.int .i64 lm, .slice (some ⟨b, off, none⟩) l.length c] _
  have hB1 : Below w.heap.size w W := by rw [hWd]; exact (Below.refl _ w).alloc (Nat.le_refl _) _
  have HC := hid (show ∀ i s, l[i]? = some s → W.cell? ⟨b, off + i * 3, none⟩ = some (.int .u64 s.lo) ∧ W.cell? ⟨b, off + i * 3 + 1, none⟩ = some (.int .u64 s.hi) ∧ W.cell? ⟨b, off + i * 3 + 2, none⟩ = some (.int .u8 s.host) from fun i s hs => by
    have h := hcells i s hs
    exact ⟨Tfact hB1 (a := ⟨b, _, none⟩) hb h.1, Tfact hB1 (a := ⟨b, _, none⟩) hb h.2.1, Tfact hB1 (a := ⟨b, _, none⟩) hb h.2.2⟩)
  have HWD := hid hWd
  have HB := hid hB1
  have r1 := hRow.2 1 _ rfl
  have hlw := hRow.1
  have hbW : b < W.heap.size := Nat.lt_of_lt_of_le hb hB1.size
  clear hcells hR hWd hB1 hRow
  by_cases h1 : lo ≤ hi
  case neg =>
    have h1' : hi < lo := by omega
    have hn := hid (show (false = true ↔ (lo ≤ hi ∧ Rng.ownsAll l lo hi x)) from ⟨fun h => (by cases h), fun h => absurd h.1 h1⟩)
    clear h1
    go_enter Try.func51, Try.ntmps51
    go_upto_region 1 with fail
    rw [← HWD.out]
    go_wp2
    go_ret
    exact ⟨false, rfl, hn.out, HB.out⟩
  case pos =>
  go_enter Try.func51, Try.ntmps51
  go_upto_region 1 with fail
  rw [← HWD.out]
  go_wp2
  go_loopw [9] (fun i wr => ∃ k : Nat, k ≤ l.length ∧ i = .int .i64 k ∧ Hid (∀ t ∈ l.take k, lo ≤ t.hi → t.lo ≤ hi → t.host = x) ∧ wr = W) (fun i _ => l.length - (intOf i).toNat)
  case atStart => exact ⟨0, Nat.zero_le _, rfl, hid (by simp), rfl⟩
  case round =>
    obtain ⟨k, hk, rfl, HH, rfl⟩ := hrel
    by_cases hlt : k < l.length
    · obtain ⟨s, hs⟩ : ∃ s, l[k]? = some s := ⟨_, List.getElem?_eq_getElem hlt⟩
      obtain ⟨c0, c1, c2⟩ := HC.out k s hs
      have hkn : (k : Int) < l.length := by omega
      have HS := hid hs
      clear hs
      have go : ∀ y ∈ l.take (k + 1), (lo ≤ s.hi → s.lo ≤ hi → s.host = x) → lo ≤ y.hi → y.lo ≤ hi → y.host = x := by
        intro y hy hp
        rw [List.take_add_one, HS.out] at hy
        simp at hy
        rcases hy with hy | rfl
        · exact HH.out y hy
        · exact hp
      have HGO := hid go
      clear go
      by_cases d1 : lo ≤ s.hi
      case neg =>
        have d1' : s.hi < lo := by omega
        go_wp2
        go_roundw
        case rel => exact ⟨k + 1, by omega, by go_num, hid (fun y hy => HGO.out y hy (fun h => absurd h (by omega))), by first | rfl | trivial⟩
        case measure => simp [intOf]; omega
      case pos =>
      by_cases d2 : s.lo ≤ hi
      case neg =>
        have d2' : hi < s.lo := by omega
        go_wp2
        go_roundw
        case rel => exact ⟨k + 1, by omega, by go_num, hid (fun y hy => HGO.out y hy (fun _ h => absurd h (by omega))), by first | rfl | trivial⟩
        case measure => simp [intOf]; omega
      case pos =>
      by_cases d3 : s.host = x
      · have d3' : (s.host != x) = false := by simp [d3]
        have D3 := hid d3
        clear d3
        go_wp2
        go_roundw
        case rel => exact ⟨k + 1, by omega, by go_num, hid (fun y hy => HGO.out y hy (fun _ _ => D3.out)), by first | rfl | trivial⟩
        case measure => simp [intOf]; omega
      · have d3' : (s.host != x) = true := by simpa using d3
        have hn := hid (show (false = true ↔ (lo ≤ hi ∧ Rng.ownsAll l lo hi x)) from ⟨fun h => (by cases h), fun h => absurd (h.2 s (List.mem_of_getElem? HS.out) d1 d2) d3⟩)
        clear d3
        go_wp2
        go_ret
        exact ⟨false, rfl, hn.out, HB.out⟩
    · obtain rfl : k = l.length := by omega
      have hp1 : (0 : Int) < l.length := by omega
      have HA : Hid (Rng.ownsAll l lo hi x) := by have := HH.out; rw [List.take_length] at this; exact this
      go_wp2
      go_ret
      exact ⟨true, rfl, ⟨fun _ => ⟨h1, HA.out⟩, fun _ => rfl⟩, HB.out⟩
end Go.Proofs.Ytpkcccphoolapaa
