/- Layer 15: cutTop. -/
import Derived.Test.YtpkcccphoolapaaMvQ
import Derived.Test.YtpkcccphoolapaaCount
import Derived.Test.YtpkcccphoolapaaTg
namespace Go.Proofs.Ytpkcccphoolapaa
open Go.RowKit

theorem topSeg_step {ks : List Int} {h : Int} {l : List Seg} {k : Nat} {s : Seg} (hs : l[k]? = some s) : topSeg ks h (l.take (k + 1)) = if hasKey ks h s = true then some s else topSeg ks h (l.take k) := by
  have hk := (List.getElem?_eq_some_iff.1 hs).1
  rw [topSeg_take (i := k) (s := s) (by rw [List.getElem?_take, if_pos (by omega)]; exact hs) (fun t ht => by
    rw [List.drop_of_length_le (by simp; omega)] at ht; cases ht), List.take_take, Nat.min_eq_left (by omega)]

theorem move_box {W : World} {g : Nat} (h : W.heap[g]? = some (.cells #[.int .u8 0, .int .u8 0, .int .u64 0, .int .u64 0, .int .i64 0] 62 (0, 0))) (a b c d e : Value) :
    (((((W.setCell ⟨g, 0, none⟩ a).setCell ⟨g, 1, none⟩ b).setCell ⟨g, 2, none⟩ c).setCell ⟨g, 3, none⟩ d).setCell ⟨g, 4, none⟩ e).heap[g]? = some (.cells #[a, b, c, d, e] 62 (0, 0)) :=
  heap_setCell_at e (heap_setCell_at d (heap_setCell_at c (heap_setCell_at b (heap_setCell_at a h))))
theorem move_below {B g : Nat} {w W : World} (h : Below B w W) (hg : B ≤ g) (a b c d e : Value) :
    Below B w (((((W.setCell ⟨g, 0, none⟩ a).setCell ⟨g, 1, none⟩ b).setCell ⟨g, 2, none⟩ c).setCell ⟨g, 3, none⟩ d).setCell ⟨g, 4, none⟩ e) :=
  ((((h.setCell (p := ⟨g, 0, none⟩) hg _).setCell (p := ⟨g, 1, none⟩) hg _).setCell (p := ⟨g, 2, none⟩) hg _).setCell (p := ⟨g, 3, none⟩) hg _).setCell (p := ⟨g, 4, none⟩) hg _

set_option maxRecDepth 100000 in
set_option maxHeartbeats 4000000 in
theorem cutTop_any (w : World) (A : Option Addr) (nl c : Nat) (l : List Seg) (A' : Option Addr) (nk c' : Nat) (ks : List Int) (h n : Int) (s0 : Seg) (hl : l.length = nl) (hm : nl ≤ 1000000000) (hR : Segs w.heap.size w A l) (hW : Rng.WF l)
    (hl' : ks.length = nk) (hm' : nk ≤ 1000000000) (hR' : Keys w.heap.size w A' ks) (hI : Inc ks) (h1 : 1 ≤ n) (ht : topSeg ks h l = some s0) :
    Calls Try.prog 56 #[.slice A nl c, .slice A' nk c', .int .u8 h, .int .i64 n] w fun e w' =>
      e = .returned (.agg (encMove (cutMove ks s0 h 0 n)).toArray) ∧ Below w.heap.size w w' := by
  subst hl
  subst hl'
  obtain ⟨N, rfl⟩ : ∃ N : Nat, n = (N : Int) := ⟨n.toNat, by omega⟩
  have HR := hid hR
  have HR' := hid hR'
  have HI := hid hI
  have HT := hid ht
  have HW := hid hW
  obtain ⟨X, hX⟩ : ∃ X, X = w.alloc (.cells #[.int .u8 0, .int .u8 0, .int .u64 0, .int .u64 0, .int .i64 0] 62) := ⟨_, rfl⟩
  have hX0 : X.heap[w.heap.size]? = some (.cells #[.int .u8 0, .int .u8 0, .int .u64 0, .int .u64 0, .int .i64 0] 62 (0, 0)) := by rw [hX]; exact heap_alloc_new w _
  have hXB : Below w.heap.size w X := by rw [hX]; exact (Below.refl _ w).alloc (Nat.le_refl _) _
  have HX0 := hid hX0
  have HXB := hid hXB
  have HX := hid hX
  have hws : IntKind.i64.wrap ((l.length : Int) - 1) = (l.length : Int) - 1 := IntWalk.i64_in _ ⟨by omega, by omega⟩
  clear hR hR' hI ht hX0 hXB hX hW
  go_enter Try.func56, Try.ntmps56
  go_wp2_with fail
  rw [← HX.out]
  clear hws
  go_loopg [9] (l.length + 1) (fun gx si wr => ∃ k : Nat, si = .int .i64 ((k : Int) - 1) ∧ k ≤ l.length ∧ k + 1 ≤ gx ∧ Hid (wr.heap[w.heap.size]? = some (.cells #[.int .u8 0, .int .u8 0, .int .u64 0, .int .u64 0, .int .i64 0] 62 (0, 0))) ∧ Hid (topSeg ks h (l.take k) = some s0) ∧ Hid (Below w.heap.size w wr))
  case atStart => exact ⟨l.length, rfl, Nat.le_refl _, Nat.le_refl _, HX0, hid (by rw [List.take_length]; exact HT.out), HXB⟩
  case round =>
    obtain ⟨k, rfl, hkl, hgx, HM, HK, HB⟩ := hrel
    cases k with
    | zero => exact absurd HK.out (by simp [topSeg])
    | succ k =>
      have e : ((k + 1 : Nat) : Int) - 1 = (k : Int) := by omega
      rw [e]
      have hk0 : (0 : Int) ≤ (k : Int) := by omega
      have hkn : (k : Int) < (l.length : Int) := by omega
      have hw1 : IntKind.i64.wrap ((k : Int) - 1) = (k : Int) - 1 := IntWalk.i64_in _ ⟨by omega, by omega⟩
      obtain ⟨b, off, s, hs, rfl, hb, c0, c1, c2⟩ := Segs.at3 HR.out k (by omega)
      replace c0 := Tfact HB.out (a := ⟨b, _, none⟩) hb c0
      replace c1 := Tfact HB.out (a := ⟨b, _, none⟩) hb c1
      replace c2 := Tfact HB.out (a := ⟨b, _, none⟩) hb c2
      have hst := topSeg_step (ks := ks) (h := h) hs.out
      rw [HK.out] at hst
      have HST := hid hst
      have hrow := Row.new wr [.int .u64 s.lo, .int .u64 s.hi, .int .u8 s.host] 67
      have r0 := hrow.2 0 _ rfl
      have r1 := hrow.2 1 _ rfl
      have r2 := hrow.2 2 _ rfl
      have hBA := HB.out.alloc HB.out.size (.cells #[.int .u64 s.lo, .int .u64 s.hi, .int .u8 s.host] 67)
      have hmlt : w.heap.size < wr.heap.size := (Array.getElem?_eq_some_iff.1 HM.out).1
      have HMA : Hid ((wr.alloc (.cells #[.int .u64 s.lo, .int .u64 s.hi, .int .u8 s.host] 67)).heap[w.heap.size]? = some (.cells #[.int .u8 0, .int .u8 0, .int .u64 0, .int .u64 0, .int .i64 0] 62 (0, 0))) := hid ((heap_alloc_old _ _ hmlt).trans HM.out)
      have HBA := hid hBA
      have HRW := hid hrow
      clear hst e hBA hrow
      by_cases hh : s.host = h
      · have bh : (s.host != h) = false := by simpa using hh
        have hwt := withinKeys_any (wr.alloc (.cells #[.int .u64 s.lo, .int .u64 s.hi, .int .u8 s.host] 67)) A' ks.length c' ks s.lo s.hi rfl (by omega) ((HR'.out.below HBA.out).mono HBA.out.size) HI.out
        have HWT := hid hwt
        have HH := hid hh
        clear hh hwt
        go_wp2_with fail
        refine HWT.out.mono ?_
        rintro e w2 ⟨rfl, hb2⟩
        have hrow2 := HRW.out.below hb2
        have q0 := hrow2.2 0 _ rfl
        have q1 := hrow2.2 1 _ rfl
        have hB2 := HBA.out.trans (hb2.mono HBA.out.size)
        have HM2 : Hid (w2.heap[w.heap.size]? = some (.cells #[.int .u8 0, .int .u8 0, .int .u64 0, .int .u64 0, .int .i64 0] 62 (0, 0))) := hid ((hb2.block _ (by simp; omega)).trans HMA.out)
        have HB2 := hid hB2
        have hal : cntLe ks s.hi ≤ ks.length := cntLe_len ks s.hi
        have hal2 : cntLt ks s.lo ≤ ks.length := List.countP_le_length
        have hsm := HW.out.seg s (List.mem_of_getElem? hs.out)
        have hab := cntLt_le ks (x := s.lo) (y := s.hi) (by omega)
        clear hb2 hrow2 hB2 r0 r1 r2 c0 c1 c2 HRW hsm
        by_cases heq : cntLt ks s.lo = cntLe ks s.hi
        · have be : (((cntLt ks s.lo : Nat) : Int) == ((cntLe ks s.hi : Nat) : Int)) = true := by rw [heq]; simp
          have HK2 : Hid (topSeg ks h (l.take k) = some s0) := by
            have := HST.out
            rw [if_neg (fun hc => by have := (hasKey_iff.1 hc).2; omega)] at this
            exact hid this.symm
          clear heq
          go_wp2_with fail
          go_roundg (k + 1)
          case measure => omega
          case rel => exact ⟨k, rfl, by omega, Nat.le_refl _, HM2, HK2, HB2⟩
        · have be : (((cntLt ks s.lo : Nat) : Int) == ((cntLe ks s.hi : Nat) : Int)) = false := by rw [beq_eq_false_iff_ne]; omega
          have hs0 : s0 = s := by
            have := HST.out
            rw [if_pos (hasKey_iff.2 ⟨HH.out, by omega⟩)] at this
            exact Option.some.inj this
          have hwd : IntKind.i64.wrap (((cntLe ks s.hi : Nat) : Int) - ((cntLt ks s.lo : Nat) : Int)) = ((cntLe ks s.hi : Nat) : Int) - ((cntLt ks s.lo : Nat) : Int) := IntWalk.i64_in _ ⟨by omega, by omega⟩
          subst hs0
          have m0 : w2.cell? ⟨w.heap.size, 0, none⟩ = some (.int .u8 0) := by simp [World.cell?, HM2.out]
          have m1 : w2.cell? ⟨w.heap.size, 1, none⟩ = some (.int .u8 0) := by simp [World.cell?, HM2.out]
          have m2 : w2.cell? ⟨w.heap.size, 2, none⟩ = some (.int .u64 0) := by simp [World.cell?, HM2.out]
          have m3 : w2.cell? ⟨w.heap.size, 3, none⟩ = some (.int .u64 0) := by simp [World.cell?, HM2.out]
          have m4 : w2.cell? ⟨w.heap.size, 4, none⟩ = some (.int .i64 0) := by simp [World.cell?, HM2.out]
          have g0 : w2.frozen? ⟨w.heap.size, 0, none⟩ = false := by simp [World.frozen?, HM2.out]
          have g1 : w2.frozen? ⟨w.heap.size, 1, none⟩ = false := by simp [World.frozen?, HM2.out]
          have g2 : w2.frozen? ⟨w.heap.size, 2, none⟩ = false := by simp [World.frozen?, HM2.out]
          have g3 : w2.frozen? ⟨w.heap.size, 3, none⟩ = false := by simp [World.frozen?, HM2.out]
          have g4 : w2.frozen? ⟨w.heap.size, 4, none⟩ = false := by simp [World.frozen?, HM2.out]
          by_cases hc : ((cntLe ks s0.hi : Nat) : Int) - ((cntLt ks s0.lo : Nat) : Int) ≤ (N : Int)
          · have dl : decide (((cntLe ks s0.hi : Nat) : Int) - ((cntLt ks s0.lo : Nat) : Int) ≤ (N : Int)) = true := by simpa using hc
            have HCM : Hid (cutMove ks s0 h 0 (N : Int) = ⟨h, 0, s0.lo, s0.hi, (cntLe ks s0.hi : Int) - cntLt ks s0.lo⟩) := hid (by unfold cutMove; rw [if_pos hc])
            clear hc heq
            generalize cntLe ks s0.hi = bb at *
            generalize cntLt ks s0.lo = aa at *
            go_wp2_with fail
            refine bodyPost_ret (results_cell_row rfl _ _ _ _ _ _ _ rfl (move_box HM2.out _ _ _ _ _) Try.underlying62 rfl (by kernel_rfl)) rfl ?_
            exact ⟨by rw [HCM.out]; rfl, move_below HB2.out (Nat.le_refl _) _ _ _ _ _⟩
          · have dl : decide (((cntLe ks s0.hi : Nat) : Int) - ((cntLt ks s0.lo : Nat) : Int) ≤ (N : Int)) = false := by simpa using hc
            obtain ⟨bk, ok, x, hx, rfl, hbk, ck⟩ := Keys.at1 HR'.out (cntLe ks s0.hi - N) (by omega)
            replace ck := Tfact HB2.out (a := ⟨bk, _, none⟩) hbk ck
            have HCM : Hid (cutMove ks s0 h 0 (N : Int) = ⟨h, 0, x, s0.hi, N⟩) := hid (by unfold cutMove; rw [if_neg hc, Int.toNat_natCast, hx.out]; rfl)
            have hwn : IntKind.i64.wrap (((cntLe ks s0.hi : Nat) : Int) - (N : Int)) = ((cntLe ks s0.hi - N : Nat) : Int) := by rw [IntWalk.i64_in _ ⟨by omega, by omega⟩]; omega
            have hin : ((cntLe ks s0.hi - N : Nat) : Int) < (ks.length : Int) := by omega
            clear hc heq
            generalize cntLe ks s0.hi = bb at *
            generalize cntLt ks s0.lo = aa at *
            go_wp2_with fail
            go_region
            go_wp2_with fail
            refine bodyPost_ret (results_cell_row rfl _ _ _ _ _ _ _ rfl (move_box HM2.out _ _ _ _ _) Try.underlying62 rfl (by kernel_rfl)) rfl ?_
            exact ⟨by rw [HCM.out]; rfl, below_drewT (move_below HB2.out (Nat.le_refl _) _ _ _ _ _) 1⟩
      · have bh : (s.host != h) = true := by simpa using hh
        have HK2 : Hid (topSeg ks h (l.take k) = some s0) := by
          have := HST.out
          rw [if_neg (fun hc => hh (hasKey_iff.1 hc).1)] at this
          exact hid this.symm
        clear hh
        go_wp2_with fail
        go_roundg (k + 1)
        case measure => omega
        case rel => exact ⟨k, rfl, by omega, Nat.le_refl _, HMA, HK2, HBA⟩
end Go.Proofs.Ytpkcccphoolapaa
