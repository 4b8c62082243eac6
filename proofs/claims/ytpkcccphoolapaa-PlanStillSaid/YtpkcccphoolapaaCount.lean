/- Layer 15: count. -/
import Derived.Test.YtpkcccphoolapaaList
import Derived.Test.YtpkcccphoolapaaCnt
namespace Go.Proofs.Ytpkcccphoolapaa
open Go.RowKit

theorem infoInt : (Try.prog.info? 3).map (fun i => (i.zero, i.size, i.bytes)) = some (some (.int .i64 0), 1, 8) := by kernel_rfl
abbrev OwnInts (w : World) (base : Nat) (v : Value) (n : Nat) (l : List Int) : Prop := w.ownsRow base 3 1 v n (l.flatMap i64)
theorem i64_len (x : Int) : (i64 x).length = 1 := rfl
theorem i64_one (x : Int) : ∀ u ∈ i64 x, u.oneCell' = true := by intro u hu; simp [i64] at hu; subst hu; rfl

theorem flatMap_i64 (l : List Int) : l.flatMap i64 = l.map (Value.int .i64) := by
  induction l with
  | nil => rfl
  | cons x r ih => rw [List.flatMap_cons, ih]; rfl

theorem OwnInts.at1 {w : World} {base g cap n : Nat} {l : List Int} (h : OwnInts w base (.slice (some ⟨g, 0, none⟩) n cap) n l) (i : Nat) (x : Int) (hx : l[i]? = some x) : w.cell? ⟨g, i, none⟩ = some (.int .i64 x) := by
  have hc := h.cells (g := g) rfl i (.int .i64 x) (by rw [flatMap_i64, List.getElem?_map, hx]; rfl)
  rw [addr_add, Nat.zero_add] at hc
  exact hc

theorem OwnInts.set {w : World} {base g cap n : Nat} {l : List Int} (h : OwnInts w base (.slice (some ⟨g, 0, none⟩) n cap) n l) (i : Nat) (y : Int) :
    OwnInts (w.setCell ⟨g, i, none⟩ (.int .i64 y)) base (.slice (some ⟨g, 0, none⟩) n cap) n (l.set i y) ∧ w.grownBy (w.setCell ⟨g, i, none⟩ (.int .i64 y)) (some g) := by
  obtain ⟨h1, h2⟩ := h.stored i (.int .i64 y)
  refine ⟨?_, h2⟩
  rw [flatMap_i64] at h1
  unfold OwnInts
  rw [flatMap_i64, List.map_set]
  exact h1

/-- make([]int, n): laid ahead of the walk. -/
theorem makeInts_run (H : Nat) (hH : H ≤ 1000000) : ∀ W : World, (Instr.makeSlice 22 (.int .i64 (H : Int)) (.int .i64 (H : Int))).run Try.prog W = .ok (.slice (some ⟨W.heap.size, 0, none⟩) H H) (W.alloc (.cells (madeCells #[.int .i64 0] H) 3)) := by
  intro W
  obtain ⟨i0, hi, hzz⟩ := Option.map_eq_some_iff.1 infoInt
  simp only [Prod.mk.injEq] at hzz
  obtain ⟨hz0, hz1, hz2⟩ := hzz
  have h := run_make (P := Try.prog) W 22 3 i0 _ Try.underlying22 hi hz0 .i64 .i64 H H (by omega) (by omega) (by rw [hz2]; omega) (by omega)
  rw [hz1] at h
  simp only [Int.toNat_natCast, Nat.mul_one] at h
  exact h

theorem makeInts_own (W : World) (H : Nat) (hH : H ≤ 1000000) (base : Nat) (hb : base ≤ W.heap.size) : OwnInts (W.alloc (.cells (madeCells #[.int .i64 0] H) 3)) base (.slice (some ⟨W.heap.size, 0, none⟩) H H) H (List.replicate H 0) := by
  have h := World.ownsRow_lit (e := 3) (size := 1) W (madeCells #[.int .i64 0] H) H hb (by simp only [maxLen]; omega) (by rw [size_madeCells]; omega)
  rw [toList_madeCells_one] at h
  unfold OwnInts
  rw [flatMap_i64, List.map_replicate]
  exact h

set_option maxHeartbeats 2000000 in
theorem count_any (w : World) (H : Nat) (A : Option Addr) (n c : Nat) (l : List Seg) (A' : Option Addr) (n' c' : Nat) (ks : List Int) (hH : H ≤ 16) (hl : l.length = n) (hm : n ≤ 9223372036854775807) (hR : Segs w.heap.size w A l) (hW : Rng.WF l) (hhs : ∀ s ∈ l, s.host < H)
    (hl' : ks.length = n') (hbytes' : n' * 8 ≤ 140737488351232) (hR' : Keys w.heap.size w A' ks) (hI : Inc ks) (hks : ∀ k ∈ ks, 0 ≤ k ∧ k ≤ maxK) :
    Calls Try.prog 41 #[.int .i64 (H : Int), .slice A n c, .slice A' n' c'] w fun e w' =>
      ∃ v, e = .returned v ∧ OwnInts w' w.heap.size v H (countsOf H l ks) ∧ Below w.heap.size w w' := by
  subst hl
  subst hl'
  have hmk := makeInts_run H (by omega)
  have HO0 := hid (makeInts_own w H (by omega) w.heap.size (Nat.le_refl _))
  have hB0 : Below w.heap.size w (w.alloc (.cells (madeCells #[.int .i64 0] H) 3)) := (Below.refl _ w).alloc (Nat.le_refl _) _
  have HR := hid hR
  have HR' := hid hR'
  have HI := hid hI
  have HW := hid hW
  have HHS := hid hhs
  have HK := hid hks
  clear hR hR' hI hW hhs hks
  go_enter Try.func41, Try.ntmps41
  go_wp2
  clear hmk
  have hz0 := hid (partsOf_zero H l ks)
  go_loopw [16] (fun i wr => ∃ k : Nat, k ≤ l.length ∧ i = .int .i64 k ∧ Hid (OwnInts wr w.heap.size (.slice (some ⟨w.heap.size, 0, none⟩) H H) H (partsOf H l ks k)) ∧ w.heap.size < wr.heap.size ∧ Below w.heap.size w wr) (fun i _ => l.length - (intOf i).toNat)
  case atStart => exact ⟨0, Nat.zero_le _, rfl, hid (by rw [hz0.out]; exact HO0.out), by simp, hB0⟩
  case round =>
    obtain ⟨k, hk, rfl, HO, hsz, hB⟩ := hrel
    by_cases hlt : k < l.length
    · obtain ⟨b, off, s, hs, rfl, hb, c0, c1, c2⟩ := Segs.at3 HR.out k hlt
      have hbr : b < wr.heap.size := Nat.lt_of_lt_of_le hb hB.size
      replace c0 := Tfact hB (a := ⟨b, _, none⟩) hb c0
      replace c1 := Tfact hB (a := ⟨b, _, none⟩) hb c1
      replace c2 := Tfact hB (a := ⟨b, _, none⟩) hb c2
      have hkn : (k : Int) < l.length := by omega
      have hm := List.mem_of_getElem? hs.out
      obtain ⟨v1, v2, v3, v4, v5⟩ := HW.out.seg s hm
      have v6 := HHS.out s hm
      have hps := fun hh hst => partsOf_set HW.out.tiles ks (H := H) (hh := hh) hs.out v2 hst
      obtain ⟨sl, sg, sh⟩ := s
      simp only at c0 c1 c2 v1 v2 v3 v4 v5 v6 hps
      obtain ⟨hh, rfl⟩ : ∃ hh : Nat, sh = (hh : Int) := ⟨sh.toNat, by omega⟩
      have hps := hid (hps hh rfl)
      have hp0 : (partsOf H l ks k)[hh]? = some ((part l ks k (hh : Int) : Nat) : Int) := by
        have : hh < H := by omega
        simp [partsOf, this]
      have d0 := OwnInts.at1 HO.out hh _ hp0
      have hpl := part_le l ks k (hh : Int)
      have hr2 : cntLe ks sg ≤ ks.length := List.countP_le_length
      have hr12 : cntLt ks sl ≤ cntLe ks sg := by have := cnt_between ks v2; omega
      have hw1 : IntKind.i64.wrap (((cntLe ks sg : Nat) : Int) - ((cntLt ks sl : Nat) : Int)) = ((cntLe ks sg : Nat) : Int) - ((cntLt ks sl : Nat) : Int) := wrap_small _ (by omega) (by omega)
      have hw2 : IntKind.i64.wrap (((part l ks k (hh : Int) : Nat) : Int) + (((cntLe ks sg : Nat) : Int) - ((cntLt ks sl : Nat) : Int))) = ((part l ks k (hh : Int) : Nat) : Int) + (((cntLe ks sg : Nat) : Int) - ((cntLt ks sl : Nat) : Int)) := wrap_small _ (by omega) (by omega)
      have hwi : ∀ w', Below w.heap.size w w' → _ := fun w' hb => withinKeys_any w' A' ks.length c' ks sl sg rfl (by omega) ((HR'.out.below hb).mono hb.size) HI.out
      have HWI := hid hwi
      have hhH : hh < H := by omega
      have hhI : (hh : Int) < (H : Int) := by omega
      have hB1 := hB.alloc hB.size (.cells #[.int .u64 sl, .int .u64 sg, .int .u8 (hh : Int)] 67)
      have hRow := Row.new wr [.int .u64 sl, .int .u64 sg, .int .u8 (hh : Int)] 67
      have HO1 : Hid (OwnInts (wr.alloc (.cells #[.int .u64 sl, .int .u64 sg, .int .u8 (hh : Int)] 67)) w.heap.size (.slice (some ⟨w.heap.size, 0, none⟩) H H) H (partsOf H l ks k)) := HO.out.alloc _
      clear hwi hp0 hm
      generalize part l ks k (hh : Int) = p0 at *
      generalize cntLe ks sg = r2 at *
      generalize cntLt ks sl = r1 at *
      go_wp2_with fail
      refine (HWI.out _ hB1).mono ?_
      rintro e w2 ⟨rfl, hb2⟩
      have hRow2 := hRow.below hb2
      have hB2 := hB1.trans (hb2.mono hB1.size)
      have HO2 := hid (HO1.out.kept (grown_below hb2 none) (.inr (by simp [Value.ownBlock])))
      have d2 : w2.cell? ⟨w.heap.size, hh, none⟩ = some (.int .i64 (p0 : Int)) := (hb2.cell (by simp; omega)).trans (Tfact ((Below.refl wr.heap.size wr).alloc (Nat.le_refl _) _) hsz d0)
      have f2 : w2.frozen? ⟨w.heap.size, hh, none⟩ = false := HO2.out.frozenAt hh
      have r0 := hRow2.2 0 _ rfl
      have r1' := hRow2.2 1 _ rfl
      have r2' := hRow2.2 2 _ rfl
      have hs2 : w.heap.size < w2.heap.size := by have := hb2.size; simp at this; omega
      clear hb2 hRow hRow2 d0 hB1 c0 c1 c2
      have hst := OwnInts.set HO2.out hh ((p0 : Int) + ((r2 : Int) - (r1 : Int)))
      rw [hps.out] at hst
      have HST := hid hst
      clear hst
      go_wp2
      go_roundw
      case rel => exact ⟨k + 1, by omega, by go_num, HST.out.1, by rw [size_setCell]; exact hs2, hB2.setCell (p := ⟨w.heap.size, hh, none⟩) (Nat.le_refl _) _⟩
      case measure => simp [intOf]; omega
    · obtain rfl : k = l.length := by omega
      have he := partsOf_end (H := H) HW.out HK.out
      have HO3 := HO.out
      rw [he] at HO3
      have HO4 := hid HO3
      clear he HO3
      go_wp2
      go_ret
      exact ⟨_, rfl, HO4.out, hB⟩
end Go.Proofs.Ytpkcccphoolapaa
