/- Layers 6 and 15: the reference's SegmentAt and Lookup; the law's counted. -/
import Derived.Test.YtpkcccphoolapaaMvE
import Derived.StillTailTactics
namespace Go.Proofs.Ytpkcccphoolapaa
open Go.RowKit

theorem seg_box {W : World} {g : Nat} (h : W.heap[g]? = some (.cells #[.int .u64 0, .int .u64 0, .int .u8 0] 67 (0, 0))) (a b c : Value) :
    (((W.setCell ⟨g, 0, none⟩ a).setCell ⟨g, 1, none⟩ b).setCell ⟨g, 2, none⟩ c).heap[g]? = some (.cells #[a, b, c] 67 (0, 0)) :=
  heap_setCell_at c (heap_setCell_at b (heap_setCell_at a h))

/-- segments that tile the keys, coalesced or not -/
structure Tl (l : List Seg) : Prop where
  tiles : Rng.tile 0 l (maxK + 1)
  hosts : ∀ s ∈ l, 0 ≤ s.host ∧ s.host < 16
theorem Rng.WF.tl {l : List Seg} (h : Rng.WF l) : Tl l := ⟨h.tiles, h.hosts⟩
theorem Tl.at {l : List Seg} (h : Tl l) {key : Int} (h0 : 0 ≤ key) (h1 : key ≤ maxK) : ∃ s ∈ l, s.lo ≤ key ∧ key ≤ s.hi ∧ hostOf l key = s.host := by
  obtain ⟨s, s1, s2, s3, _⟩ := Rng.at_split h.tiles h0 (show key < maxK + 1 by omega)
  exact ⟨s, List.mem_of_getElem? s1, s2, s3, by unfold hostOf; rw [s1]⟩

set_option maxRecDepth 100000 in
set_option maxHeartbeats 4000000 in
theorem segAtT_any (w : World) (lm : Int) (A : Option Addr) (n c : Nat) (l : List Seg) (key : Int) (s0 : Seg) (hl : l.length = n) (hm : n ≤ 1000000000) (hR : Segs w.heap.size w A l) (hW : Tl l) (h0 : 0 ≤ key) (h1 : key ≤ maxK) (hs0 : l[Rng.at' l key]? = some s0) :
    Calls Try.prog 31 #[.agg #[.int .i64 lm, .slice A n c], .int .u64 key] w fun e w' => e = .returned (.agg #[.int .u64 s0.lo, .int .u64 s0.hi, .int .u8 s0.host]) ∧ Below w.heap.size w w' := by
  subst hl
  obtain ⟨s', a1, a2, a3, a4, a5, a6⟩ := Rng.at_split hW.tiles h0 (show key < maxK + 1 by omega)
  obtain rfl : s0 = s' := Option.some.inj (hs0.symm.trans a1)
  have hatl := (List.getElem?_eq_some_iff.1 hs0).1
  have HR := hid hR
  have HS := hid hs0
  have H5 := hid a5
  obtain ⟨X, hX⟩ : ∃ X, X = (w.alloc (.cells #[.int .i64 lm, .slice A l.length c] 65)).alloc (.cells #[.int .u64 0, .int .u64 0, .int .u8 0] 67) := ⟨_, rfl⟩
  have hXB : Below w.heap.size w X := by rw [hX]; exact ((Below.refl _ w).alloc (Nat.le_refl _) _).alloc (by simp) _
  have hX1 : X.cell? ⟨w.heap.size, 1, none⟩ = some (.slice A l.length c) := by rw [hX, World.cell?_alloc_past _ _ _ (by simp)]; simp
  have hX2 : X.heap[w.heap.size + 1]? = some (.cells #[.int .u64 0, .int .u64 0, .int .u8 0] 67 (0, 0)) := by
    have := heap_alloc_new (w.alloc (.cells #[.int .i64 lm, .slice A l.length c] 65)) (.cells #[.int .u64 0, .int .u64 0, .int .u8 0] 67)
    rw [hX]; simpa using this
  have HXB := hid hXB
  have HX2 := hid hX2
  have HX := hid hX
  clear hR hW hs0 a1 a4 a5 a6 hXB hX2 hX
  generalize hI : Rng.at' l key = I at *
  have HA := hid (And.intro a2 a3)
  have HX1 := hid hX1
  clear hI a2 a3 h0 h1 hX1
  go_enter Try.func31, Try.ntmps31
  go_wp2_with fail
  rw [← HX.out]
  go_loopg [5] (I + 1) (fun gx si wr => ∃ i : Nat, si = .int .i64 i ∧ i ≤ I ∧ I + 1 - i ≤ gx ∧ wr = X)
  case atStart => exact ⟨0, rfl, Nat.zero_le _, by omega, rfl⟩
  case round =>
    obtain ⟨i, rfl, hiI, hgx, rfl⟩ := hrel
    have hii : (i : Int) < (l.length : Int) := by omega
    have hi0 : (0 : Int) ≤ (i : Int) := by omega
    have hwi : IntKind.i64.wrap ((i : Int) + 1) = (i : Int) + 1 := wrap_small _ (by omega) (by omega)
    obtain ⟨b, off, s, hs, rfl, hb, c0, c1, c2⟩ := Segs.at3 HR.out i (by omega)
    have a2 := HA.out.1
    have a3 := HA.out.2
    have hX1 := HX1.out
    replace c0 := Tfact HXB.out (a := ⟨b, _, none⟩) hb c0
    replace c1 := Tfact HXB.out (a := ⟨b, _, none⟩) hb c1
    replace c2 := Tfact HXB.out (a := ⟨b, _, none⟩) hb c2
    by_cases he : i = I
    · subst he
      obtain rfl : s0 = s := Option.some.inj (HS.out.symm.trans hs.out)
      have d0 : decide (s0.lo ≤ key) = true := by simpa using a2
      have d1 : decide (key ≤ s0.hi) = true := by simpa using a3
      have m0 : wr.cell? ⟨w.heap.size + 1, 0, none⟩ = some (.int .u64 0) := by simp [World.cell?, HX2.out]
      have m1 : wr.cell? ⟨w.heap.size + 1, 1, none⟩ = some (.int .u64 0) := by simp [World.cell?, HX2.out]
      have m2 : wr.cell? ⟨w.heap.size + 1, 2, none⟩ = some (.int .u8 0) := by simp [World.cell?, HX2.out]
      have g0 : wr.frozen? ⟨w.heap.size + 1, 0, none⟩ = false := by simp [World.frozen?, HX2.out]
      have g1 : wr.frozen? ⟨w.heap.size + 1, 1, none⟩ = false := by simp [World.frozen?, HX2.out]
      have g2 : wr.frozen? ⟨w.heap.size + 1, 2, none⟩ = false := by simp [World.frozen?, HX2.out]
      clear a2 a3
      go_wp2_with fail
      refine bodyPost_ret (results_cell_row rfl _ _ _ _ _ _ _ rfl (seg_box HX2.out _ _ _) Try.underlying67 rfl (by kernel_rfl)) rfl ?_
      exact ⟨rfl, ((HXB.out.setCell (p := ⟨w.heap.size + 1, 0, none⟩) (by show w.heap.size ≤ w.heap.size + 1; omega) _).setCell (p := ⟨w.heap.size + 1, 1, none⟩) (by show w.heap.size ≤ w.heap.size + 1; omega) _).setCell (p := ⟨w.heap.size + 1, 2, none⟩) (by show w.heap.size ≤ w.heap.size + 1; omega) _⟩
    · have hlt : s.hi < key := H5.out s (List.mem_take_iff_getElem.2 ⟨i, by omega, (List.getElem?_eq_some_iff.1 hs.out).2⟩)
      have d1 : decide (key ≤ s.hi) = false := by simpa using hlt
      clear a2 a3 hlt
      by_cases hlo : s.lo ≤ key
      · have d0 : decide (s.lo ≤ key) = true := by simpa using hlo
        clear hlo
        go_wp2_with fail
        go_roundg (I + 1 - (i + 1))
        case measure => omega
        case rel => exact ⟨i + 1, by go_num, by omega, Nat.le_refl _, rfl⟩
      · have d0 : decide (s.lo ≤ key) = false := by simpa using hlo
        clear hlo
        go_wp2_with fail
        go_roundg (I + 1 - (i + 1))
        case measure => omega
        case rel => exact ⟨i + 1, by go_num, by omega, Nat.le_refl _, rfl⟩

set_option maxHeartbeats 2000000 in
theorem lookupT_any (w : World) (lm : Int) (A : Option Addr) (n c : Nat) (l : List Seg) (key : Int) (hl : l.length = n) (hm : n ≤ 1000000000) (hR : Segs w.heap.size w A l) (hW : Tl l) (h0 : 0 ≤ key) (h1 : key ≤ maxK) :
    Calls Try.prog 32 #[.agg #[.int .i64 lm, .slice A n c], .int .u64 key] w fun e w' => e = .returned (.int .u8 (hostOf l key)) ∧ Below w.heap.size w w' := by
  obtain ⟨s0, hs0, hrest⟩ := Rng.at_split hW.tiles h0 (show key < maxK + 1 by omega)
  have hb : Below w.heap.size w (w.alloc (.cells #[.int .i64 lm, .slice A n c] 65)) := (Below.refl _ w).alloc (Nat.le_refl _) _
  have hsg := segAtT_any _ lm A n c l key s0 hl hm ((hR.below hb).mono hb.size) hW h0 h1 hs0
  have hho : Hid (hostOf l key = s0.host) := hid (by unfold hostOf; rw [hs0])
  have HSG := hid hsg
  have HB := hid hb
  clear hR hW hsg hb hs0 hrest
  go_enter Try.func32, Try.ntmps32
  go_wp2_with fail
  refine HSG.out.mono ?_
  rintro e w1 ⟨rfl, hb1⟩
  have HB1 := hid (HB.out.trans (hb1.mono HB.out.size))
  clear hb1
  go_wp2_with fail
  go_ret
  exact ⟨by rw [hho.out]; rfl, HB1.out.alloc HB1.out.size _⟩

theorem segAtRef_any (w : World) (lm : Int) (A : Option Addr) (n c : Nat) (l : List Seg) (key : Int) (s0 : Seg) (hl : l.length = n) (hm : n ≤ 1000000000) (hR : Segs w.heap.size w A l) (hW : Rng.WF l) (h0 : 0 ≤ key) (h1 : key ≤ maxK) (hs0 : l[Rng.at' l key]? = some s0) :
    Calls Try.prog 31 #[.agg #[.int .i64 lm, .slice A n c], .int .u64 key] w fun e w' => e = .returned (.agg #[.int .u64 s0.lo, .int .u64 s0.hi, .int .u8 s0.host]) ∧ Below w.heap.size w w' :=
  segAtT_any w lm A n c l key s0 hl hm hR hW.tl h0 h1 hs0
theorem lookupRef_any (w : World) (lm : Int) (A : Option Addr) (n c : Nat) (l : List Seg) (key : Int) (hl : l.length = n) (hm : n ≤ 1000000000) (hR : Segs w.heap.size w A l) (hW : Rng.WF l) (h0 : 0 ≤ key) (h1 : key ≤ maxK) :
    Calls Try.prog 32 #[.agg #[.int .i64 lm, .slice A n c], .int .u64 key] w fun e w' => e = .returned (.int .u8 (hostOf l key)) ∧ Below w.heap.size w w' :=
  lookupT_any w lm A n c l key hl hm hR hW.tl h0 h1

theorem counts_snoc {H : Nat} {l : List Seg} {ks : List Int} {i : Nat} {key : Int} {h : Nat} (hk : ks[i]? = some key) (hh : hostOf l key = (h : Int)) :
    ∃ x, (countsOf H l (ks.take i))[h]? = (if h < H then some x else none) ∧ (h < H → countsOf H l (ks.take (i + 1)) = (countsOf H l (ks.take i)).set h (x + 1)) ∧ 0 ≤ x ∧ x ≤ i := by
  refine ⟨cntH l (ks.take i) (h : Int), ?_, fun hH => ?_, ?_⟩
  · by_cases hH : h < H
    · rw [if_pos hH]; exact countsOf_get hH
    · rw [if_neg hH, List.getElem?_eq_none (by rw [countsOf_len]; omega)]
  · apply List.ext_getElem?
    intro j
    by_cases hj : j < H
    · rw [countsOf_get hj]
      have e : cntH l (ks.take (i + 1)) (j : Int) = cntH l (ks.take i) (j : Int) + if h = j then 1 else 0 := by
        unfold cntH
        rw [List.take_add_one, hk, Option.toList_some, List.countP_append]
        have : ((h : Int) = (j : Int)) ↔ h = j := by omega
        by_cases e2 : h = j <;> simp [hh, e2, this]
      rw [e, List.getElem?_set]
      by_cases e2 : h = j
      · subst e2; simp [countsOf_len, hH]
      · rw [if_neg e2, if_neg e2, countsOf_get hj]; simp
    · rw [List.getElem?_eq_none (by rw [countsOf_len]; omega), List.getElem?_eq_none (by rw [List.length_set, countsOf_len]; omega)]
  · have := cntH_range l (ks.take i) (h : Int)
    rw [List.length_take] at this
    omega

set_option maxRecDepth 100000 in
set_option maxHeartbeats 4000000 in
/-- the law's own count of the keys -/
theorem countedT_any (w : World) (H : Nat) (A : Option Addr) (n c : Nat) (l : List Seg) (A' : Option Addr) (n' c' : Nat) (ks : List Int) (hH : H ≤ 16) (hl : l.length = n) (hm : n ≤ 1000000000) (hR : Segs w.heap.size w A l) (hT : Tl l) (hhs : ∀ s ∈ l, s.host < (H : Int))
    (hl' : ks.length = n') (hm' : n' ≤ 1000000000) (hR' : Keys w.heap.size w A' ks) (hks : ∀ k ∈ ks, 0 ≤ k ∧ k ≤ maxK) :
    Calls Try.prog 29 #[.int .i64 (H : Int), .slice A n c, .slice A' n' c'] w fun e w' =>
      ∃ v, e = .returned v ∧ OwnInts w' w.heap.size v H (countsOf H l ks) ∧ Below w.heap.size w w' := by
  subst hl
  subst hl'
  have hmk := makeInts_run H (by omega)
  obtain ⟨X, hX⟩ : ∃ X, X = (w.alloc (.cells (madeCells #[.int .i64 0] H) 3)).alloc (.cells #[.int .i64 0, .slice A l.length c] 65) := ⟨_, rfl⟩
  have hO0 : OwnInts X w.heap.size (.slice (some ⟨w.heap.size, 0, none⟩) H H) H (countsOf H l (ks.take 0)) := by
    have h1 := makeInts_own w H (by omega) w.heap.size (Nat.le_refl _)
    have e : countsOf H l (ks.take 0) = List.replicate H 0 := by
      apply List.ext_getElem?
      intro j
      by_cases hj : j < H
      · rw [countsOf_get hj, List.getElem?_replicate, if_pos hj]; rfl
      · rw [List.getElem?_eq_none (by rw [countsOf_len]; omega), List.getElem?_eq_none (by simp; omega)]
    rw [hX, e]
    exact h1.alloc _
  have hXB : Below w.heap.size w X := by rw [hX]; exact ((Below.refl _ w).alloc (Nat.le_refl _) _).alloc (by simp) _
  have hr := Row.new (w.alloc (.cells (madeCells #[.int .i64 0] H) 3)) [.int .i64 0, .slice A l.length c] 65
  have hX1 : X.heap[w.heap.size + 1]? = some (.cells #[.int .i64 0, .slice A l.length c] 65 (0, 0)) := by
    have := heap_alloc_new (w.alloc (.cells (madeCells #[.int .i64 0] H) 3)) (.cells #[.int .i64 0, .slice A l.length c] 65)
    rw [hX]; simpa using this
  have HX := hid hX
  have HO0 := hid hO0
  have HXB := hid hXB
  have HX1 := hid hX1
  have HR := hid hR
  have HR' := hid hR'
  have HT := hid hT
  have HHS := hid hhs
  have HK := hid hks
  clear hX hO0 hXB hr hX1 hR hR' hT hhs hks
  go_enter Try.func29, Try.ntmps29
  go_wp2_with fail
  rw [← HX.out]
  clear hmk
  go_loopg [9] ks.length (fun gx si wr => ∃ i : Nat, si = .int .i64 i ∧ i ≤ ks.length ∧ ks.length - i ≤ gx ∧ Hid (wr.heap[w.heap.size + 1]? = some (.cells #[.int .i64 0, .slice A l.length c] 65 (0, 0))) ∧ Hid (OwnInts wr w.heap.size (.slice (some ⟨w.heap.size, 0, none⟩) H H) H (countsOf H l (ks.take i))) ∧ Hid (Below w.heap.size w wr))
  case atStart => exact ⟨0, rfl, Nat.zero_le _, Nat.le_refl _, HX1, HO0, HXB⟩
  case round =>
    obtain ⟨i, rfl, hil, hgx, HM, HO, HB⟩ := hrel
    by_cases hlt : i < ks.length
    · have hii : (i : Int) < (ks.length : Int) := by omega
      have hi0 : (0 : Int) ≤ (i : Int) := by omega
      have hwi : IntKind.i64.wrap ((i : Int) + 1) = (i : Int) + 1 := wrap_small _ (by omega) (by omega)
      obtain ⟨bk, ok, key, hk, rfl, hbk, ck⟩ := Keys.at1 HR'.out i hlt
      replace ck := Tfact HB.out (a := ⟨bk, _, none⟩) hbk ck
      obtain ⟨k0, k1⟩ := HK.out key (List.mem_of_getElem? hk.out)
      have t0 : wr.cell? ⟨w.heap.size + 1, 0, none⟩ = some (.int .i64 0) := by simp [World.cell?, HM.out]
      have t1 : wr.cell? ⟨w.heap.size + 1, 1, none⟩ = some (.slice A l.length c) := by simp [World.cell?, HM.out]
      have hlk := fun q => lookupT_any (wr.drewN q) 0 A l.length c l key rfl hm (((HR.out.below HB.out).mono HB.out.size).drewN q) HT.out k0 k1
      have HLK := hid hlk
      clear hlk
      go_wp2_with fail
      go_still_tail 5, (by kernel_rfl)
      change wpList _ _ _ _ _ (World.drew wr)
      go_wp2_with fail
      refine (HLK.out 1).mono ?_
      rintro e w2 ⟨rfl, hb2⟩
      obtain ⟨s, s1, s2, s3, s4⟩ := HT.out.at k0 k1
      have hh0 := (HT.out.hosts s s1).1
      have hhH := HHS.out s s1
      obtain ⟨h, hh⟩ : ∃ h : Nat, hostOf l key = (h : Int) := ⟨(hostOf l key).toNat, by omega⟩
      have hhlt : h < H := by omega
      obtain ⟨x, x1, x2, x3, x4⟩ := counts_snoc (H := H) hk.out hh
      rw [if_pos hhlt] at x1
      have hB2 : Below w.heap.size w w2 := (below_drewT HB.out 1).trans (hb2.mono (below_drewT HB.out 1).size)
      have hO2 : OwnInts w2 w.heap.size (.slice (some ⟨w.heap.size, 0, none⟩) H H) H (countsOf H l (ks.take i)) := own_under (HO.out.drewT 1) hb2
      have hM2 : w2.heap[w.heap.size + 1]? = some (.cells #[.int .i64 0, .slice A l.length c] 65 (0, 0)) := (hb2.block _ (Array.getElem?_eq_some_iff.1 HM.out).1).trans HM.out
      have d2 := OwnInts.at1 hO2 h _ x1
      have f2 := hO2.frozenAt h
      have hst := OwnInts.set hO2 h (x + 1)
      rw [← x2 hhlt] at hst
      have hwx : IntKind.i64.wrap (x + 1) = x + 1 := wrap_small _ (by omega) (by omega)
      have hhi : (h : Int) < (H : Int) := by omega
      have hwc : IntKind.i64.wrap (h : Int) = (h : Int) := wrap_small _ (by omega) (by omega)
      rw [hh]
      have HB2 := hid hB2
      have HM2 := hid hM2
      have HST := hid hst
      clear s1 s2 s3 s4 hh hst hB2 hO2 hM2 x1 x2 hb2 t0 t1 ck
      go_wp2_with fail
      go_roundg (ks.length - (i + 1))
      case measure => omega
      case rel => exact ⟨i + 1, by go_num, hlt, Nat.le_refl _, hid ((Below.heap_setCell _ _ _ _ (by show w.heap.size + 1 ≠ w.heap.size; omega)).trans HM2.out), hid HST.out.1, hid (HB2.out.setCell (p := ⟨w.heap.size, h, none⟩) (Nat.le_refl _) _)⟩
    · obtain rfl : i = ks.length := by omega
      have hii : ¬ (ks.length : Int) < (ks.length : Int) := by omega
      go_wp2_with fail
      go_ret
      exact ⟨_, rfl, by have h := HO.out; rw [List.take_length] at h; exact h, HB.out⟩

theorem countedLaw_any (w : World) (H : Nat) (A : Option Addr) (n c : Nat) (l : List Seg) (A' : Option Addr) (n' c' : Nat) (ks : List Int) (hH : H ≤ 16) (hl : l.length = n) (hm : n ≤ 1000000000) (hR : Segs w.heap.size w A l) (hT : TabOk H l)
    (hl' : ks.length = n') (hm' : n' ≤ 1000000000) (hR' : Keys w.heap.size w A' ks) (hks : ∀ k ∈ ks, 0 ≤ k ∧ k ≤ maxK) :
    Calls Try.prog 29 #[.int .i64 (H : Int), .slice A n c, .slice A' n' c'] w fun e w' =>
      ∃ v, e = .returned v ∧ OwnInts w' w.heap.size v H (countsOf H l ks) ∧ Below w.heap.size w w' :=
  countedT_any w H A n c l A' n' c' ks hH hl hm hR hT.wf.tl hT.hosts hl' hm' hR' hks

set_option maxHeartbeats 1000000 in
/-- the spread of loads that are all of two neighbouring numbers -/
theorem spread_any (w : World) (B : Nat) (A : Option Addr) (n c : Nat) (l : List Int) (q : Int) (hl : l.length = n) (hm : n ≤ 9223372036854775807) (hR : Ints B w A l) (h1 : 1 ≤ n) (hq : ∀ x ∈ l, x = q ∨ x = q + 1) :
    Calls Try.prog 33 #[.slice A n c] w fun e w' => ∃ d, e = .returned (.int .i64 d) ∧ d ≤ 1 ∧ w' = w := by
  subst hl
  have HR := hid hR
  have HQ := hid hq
  obtain ⟨b, off, x0, hx0, rfl, hb, hc0⟩ := Ints.at' hR 0 (by omega)
  have hq00 := hq x0 (List.mem_of_getElem? hx0.out)
  have hl0 : (0 : Int) < (l.length : Int) := by omega
  have HQ0 := hid hq00
  clear hR hq hq00
  simp only [Nat.add_zero] at hc0
  go_enter Try.func33, Try.ntmps33
  go_wp2_with fail
  go_loopg [3, 4, 5] l.length (fun gx sa sb si wr => ∃ (i : Nat) (a b : Int), si = .int .i64 i ∧ sa = .int .i64 a ∧ sb = .int .i64 b ∧ i ≤ l.length ∧ l.length - i ≤ gx ∧ Hid (a = q ∨ a = q + 1) ∧ Hid (b = q ∨ b = q + 1) ∧ wr = w)
  case atStart => exact ⟨0, x0, x0, rfl, rfl, rfl, Nat.zero_le _, Nat.le_refl _, HQ0, HQ0, rfl⟩
  case round =>
    obtain ⟨i, a, b', rfl, rfl, rfl, hil, hgx, HA, HB, rfl⟩ := hrel
    by_cases hlt : i < l.length
    · have hii : (i : Int) < (l.length : Int) := by omega
      have hi0 : (0 : Int) ≤ (i : Int) := by omega
      have hwi : IntKind.i64.wrap ((i : Int) + 1) = (i : Int) + 1 := wrap_small _ (by omega) (by omega)
      obtain ⟨b2, off2, x, hx, hbe, hb2, hc⟩ := Ints.at' HR.out i hlt
      obtain ⟨rfl, rfl⟩ : b = b2 ∧ off = off2 := by
        injection hbe with e; injection e with e1 e2; exact ⟨e1, e2⟩
      have hqx := HQ.out x (List.mem_of_getElem? hx.out)
      have HX := hid hqx
      clear hqx hbe
      by_cases c1 : x < a
      · have d1 : decide (x < a) = true := by simpa using c1
        by_cases c2 : b' < x
        · have d2 : decide (x > b') = true := by simpa using c2
          have d2' : decide (b' < x) = true := by simpa using c2
          clear c1 c2
          go_wp2_with fail
          go_roundg (l.length - (i + 1))
          case measure => omega
          case rel => exact ⟨i + 1, x, x, by go_num, rfl, rfl, hlt, Nat.le_refl _, HX, HX, rfl⟩
        · have d2 : decide (x > b') = false := by simpa using c2
          have d2' : decide (b' < x) = false := by simpa using c2
          clear c1 c2
          go_wp2_with fail
          go_roundg (l.length - (i + 1))
          case measure => omega
          case rel => exact ⟨i + 1, x, b', by go_num, rfl, rfl, hlt, Nat.le_refl _, HX, HB, rfl⟩
      · have d1 : decide (x < a) = false := by simpa using c1
        by_cases c2 : b' < x
        · have d2 : decide (x > b') = true := by simpa using c2
          have d2' : decide (b' < x) = true := by simpa using c2
          clear c1 c2
          go_wp2_with fail
          go_roundg (l.length - (i + 1))
          case measure => omega
          case rel => exact ⟨i + 1, a, x, by go_num, rfl, rfl, hlt, Nat.le_refl _, HA, HX, rfl⟩
        · have d2 : decide (x > b') = false := by simpa using c2
          have d2' : decide (b' < x) = false := by simpa using c2
          clear c1 c2
          go_wp2_with fail
          go_roundg (l.length - (i + 1))
          case measure => omega
          case rel => exact ⟨i + 1, a, b', by go_num, rfl, rfl, hlt, Nat.le_refl _, HA, HB, rfl⟩
    · have hii : ¬ (i : Int) < (l.length : Int) := by omega
      have hw : IntKind.i64.wrap (b' - a) = b' - a := IntWalk.i64_in _ ⟨by have := HA.out; have := HB.out; omega, by have := HA.out; have := HB.out; omega⟩
      go_wp2_with fail
      go_ret
      exact ⟨_, rfl, by have := HA.out; have := HB.out; omega, rfl⟩
end Go.Proofs.Ytpkcccphoolapaa
