/- Layer 6: Segment, Lookup, Owns. -/
import Derived.Test.YtefdbhmjbfpeoaaRngF
namespace Go.Proofs.Ytefdbhmjbfpeoaa
open Go.RowKit

set_option maxHeartbeats 1000000 in
theorem segment_any (w : World) (T : Nat) (limit : Int) (l : List Seg) (key : Int) (h : IsTab w T limit l) (hW : Rng.WF l) (hm : l.length ≤ 1000000000) (s : Seg) (hs : l[Rng.at' l key]? = some s) :
    Calls Try.prog 15 #[.pointer (some ⟨T, 0, none⟩), .int .u64 key] w fun e w' =>
      e = .returned (.agg #[.int .u64 s.lo, .int .u64 s.hi, .int .u8 s.host]) ∧ Below w.heap.size w w' := by
  have hT := h.lt
  obtain ⟨b, off, c, h1, hc, hne, hbl, hR⟩ := h.segs
  have hpos : Hid (0 < l.length) := hW.pos
  have hnz : ((l.length : Int) == 0) = false := by have := hpos.out; rw [beq_eq_false_iff_ne]; omega
  obtain ⟨b', off', e', _, hcells⟩ := Segs.open' hR hW.pos
  cases e'
  obtain ⟨c0, c1, c2⟩ := hcells _ s hs
  have hatl : ((Rng.at' l key : Nat) : Int) < l.length := by have := (List.getElem?_eq_some_iff.1 hs).1; omega
  have hS := hid hs
  have HW := hid hW
  clear hs hcells hW h
  go_enter Try.func15, Try.ntmps15
  have hBW : Below w.heap.size w (w.alloc (.cells #[.int .u64 0, .int .u64 0, .int .u8 0] 40)) := (Below.refl _ w).alloc (Nat.le_refl _) _
  have hT1 := Tfact hBW hT h1
  have hR1 := (hR.below hBW).mono hBW.size
  have hRow : Row (w.alloc (.cells #[.int .u64 0, .int .u64 0, .int .u8 0] 40)) w.heap.size [.int .u64 0, .int .u64 0, .int .u8 0] := Row.new w [.int .u64 0, .int .u64 0, .int .u8 0] _
  have hfr : ∀ j, (w.alloc (.cells #[.int .u64 0, .int .u64 0, .int .u8 0] 40)).frozen? ⟨w.heap.size, j, none⟩ = false := fun j => World.frozen?_alloc_new w _ _ j
  have HFR := hid hfr
  have HBW := hid hBW
  have HRW := hid hRow
  clear hfr hBW hRow
  go_upto_region 3 with fail
  go_region_with (go_at_call 28; go_loud (refine (at_any (w.alloc (.cells #[.int .u64 0, .int .u64 0, .int .u8 0] 40)).drew T _ l.length c l key rfl (by omega) hT1 hR1 HW.out.tiles).mono ?_); rintro e w' ⟨rfl, hb⟩; have hB2 := HBW.out.trans (show Below w.heap.size (w.alloc (.cells #[.int .u64 0, .int .u64 0, .int .u8 0] 40)) w' from ⟨hb.os, hb.tape, hb.output, hb.size, fun k hk => hb.block k (Nat.lt_of_lt_of_le hk HBW.out.size)⟩); have t1 := Tfact hB2 hT h1; have t2 := Tfact hB2 (a := ⟨b, _, none⟩) hbl c0; have t3 := Tfact hB2 (a := ⟨b, _, none⟩) hbl c1; have t4 := Tfact hB2 (a := ⟨b, _, none⟩) hbl c2; have r3 := (hb.cell (p := ⟨w.heap.size, 0, none⟩) HRW.out.1).trans (HRW.out.2 0 _ rfl); have r4 := (hb.cell (p := ⟨w.heap.size, 1, none⟩) HRW.out.1).trans (HRW.out.2 1 _ rfl); have r5 := (hb.cell (p := ⟨w.heap.size, 2, none⟩) HRW.out.1).trans (HRW.out.2 2 _ rfl); have z0 := (hb.frozen (p := ⟨w.heap.size, 0, none⟩) HRW.out.1).trans (HFR.out 0); have z1 := (hb.frozen (p := ⟨w.heap.size, 1, none⟩) HRW.out.1).trans (HFR.out 1); have z2 := (hb.frozen (p := ⟨w.heap.size, 2, none⟩) HRW.out.1).trans (HFR.out 2); go_wp2)
  all_goals go_wp2
  all_goals refine bodyPost_ret (v := .agg #[.int .u64 s.lo, .int .u64 s.hi, .int .u8 s.host]) (by simp [results, Try.results15, go_sem, r3, r4, r5]) rfl ⟨rfl, ?_⟩
  all_goals exact ((hB2.setCell (p := ⟨w.heap.size, 0, none⟩) (Nat.le_refl _) _).setCell (p := ⟨w.heap.size, 1, none⟩) (Nat.le_refl _) _).setCell (p := ⟨w.heap.size, 2, none⟩) (Nat.le_refl _) _

set_option maxHeartbeats 400000 in
theorem lookup_any (w : World) (T : Nat) (limit : Int) (l : List Seg) (key : Int) (h : IsTab w T limit l) (hW : Rng.WF l) (hm : l.length ≤ 1000000000) (s : Seg) (hs : l[Rng.at' l key]? = some s) :
    Calls Try.prog 14 #[.pointer (some ⟨T, 0, none⟩), .int .u64 key] w fun e w' =>
      e = .returned (.int .u8 s.host) ∧ Below w.heap.size w w' := by
  have hc := segment_any w T limit l key h hW hm s hs
  clear hs hW h
  obtain ⟨slo, shi, sh⟩ := s
  simp only at hc ⊢
  have hfield : ∀ (x y z : Int) (w : World), (Instr.field 40 (.agg #[.int .u64 x, .int .u64 y, .int .u8 z]) 2).run Try.prog w = .ok (.int .u8 z) w := fun x y z w => by kernel_rfl
  go_enter Try.func14, Try.ntmps14
  go_wp2_with fail
  refine hc.mono ?_
  rintro e w' ⟨rfl, hb⟩
  go_wp2
  go_ret
  exact ⟨rfl, hb⟩

def ownsL (s : Seg) (lo hi owner : Int) : Bool := decide (lo ≤ hi) && (decide (owner < 16) && (decide (s.host = owner) && decide (hi ≤ s.hi)))

set_option maxHeartbeats 1000000 in
theorem owns_any (w : World) (T : Nat) (limit : Int) (l : List Seg) (lo hi owner : Int) (h : IsTab w T limit l) (hW : Rng.WF l) (hm : l.length ≤ 1000000000) (s : Seg) (hs : l[Rng.at' l lo]? = some s) :
    Calls Try.prog 16 #[.pointer (some ⟨T, 0, none⟩), .int .u64 lo, .int .u64 hi, .int .u8 owner] w fun e w' =>
      e = .returned (.bool (ownsL s lo hi owner)) ∧ Below w.heap.size w w' := by
  have hc := segment_any w T limit l lo h hW hm s hs
  clear hs hW h
  obtain ⟨slo, shi, sh⟩ := s
  unfold ownsL
  simp only at hc ⊢
  by_cases h1 : hi < lo
  · have e : Hid (decide (lo ≤ hi) = false) := by show _ = _; simp; omega
    go_enter Try.func16, Try.ntmps16
    go_wp2
    go_ret
    exact ⟨by rw [e.out]; rfl, Below.refl _ _⟩
  by_cases h2 : owner < 16
  · have e : Hid (decide (lo ≤ hi) = true) := by show _ = _; simp; omega
    have e2 : Hid (decide (owner < 16) = true) := by show _ = _; simp; omega
    have e2' := e2.out
    by_cases h3 : sh = owner
    · have e3 : Hid (decide (sh = owner) = true) := by show _ = _; simp [h3]
      have b3 : (sh == owner) = true := by simp [h3]
      clear h3
      go_enter Try.func16, Try.ntmps16
      go_wp2_with (first | (go_at_call 26; refine (isHost_any _ _).mono ?_; rintro e w' ⟨rfl, rfl⟩) | (go_at_call 15; refine hc.mono ?_; rintro e w1 ⟨rfl, hb⟩))
      go_ret
      exact ⟨by rw [e.out, e2.out, e3.out]; simp, hb.alloc hb.size _⟩
    · have e3 : Hid (decide (sh = owner) = false) := by show _ = _; simp [h3]
      have b3 : (sh == owner) = false := by simp [h3]
      clear h3
      go_enter Try.func16, Try.ntmps16
      go_wp2_with (first | (go_at_call 26; refine (isHost_any _ _).mono ?_; rintro e w' ⟨rfl, rfl⟩) | (go_at_call 15; refine hc.mono ?_; rintro e w1 ⟨rfl, hb⟩))
      go_ret
      exact ⟨by rw [e.out, e2.out, e3.out]; simp, hb.alloc hb.size _⟩
  · have e2 : Hid (decide (owner < 16) = false) := by show _ = _; simp; omega
    have e2' := e2.out
    go_enter Try.func16, Try.ntmps16
    go_wp2_with (go_at_call 26; refine (isHost_any _ _).mono ?_; rintro e w' ⟨rfl, rfl⟩)
    go_ret
    exact ⟨by rw [e2.out]; simp, Below.refl _ _⟩
end Go.Proofs.Ytefdbhmjbfpeoaa
