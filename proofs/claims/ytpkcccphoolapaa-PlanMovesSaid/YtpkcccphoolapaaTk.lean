/- Layer 15: the reference's taken. -/
import Derived.Test.YtpkcccphoolapaaGr
import Derived.Test.YtpkcccphoolapaaLkp
import Derived.Deep.RegionHeld3
namespace Go.Proofs.Ytpkcccphoolapaa
open Go.RowKit

section
open Rng
theorem at_mem {l : List Seg} (h : WF l) {s : Seg} (hs : s ∈ l) {key : Int} (h0 : s.lo ≤ key) (h1 : key ≤ s.hi) : l[at' l key]? = some s := by
  have hsg := h.seg s hs
  obtain ⟨s', a1, a2, a3, a4, a5, a6⟩ := at_split h.tiles (key := key) (by omega) (by omega)
  rw [a4] at hs
  rcases List.mem_append.1 hs with h2 | h2
  · have := a5 s h2; omega
  · rcases List.mem_cons.1 h2 with rfl | h2
    · exact a1
    · have := a6 s h2; omega
theorem topSeg_above {l : List Seg} (h : WF l) {ks : List Int} {g : Int} {s u : Seg} (e : topSeg ks g l = some s) (hu : u ∈ l) (hk : hasKey ks g u = true) : u.lo ≤ s.lo := by
  unfold topSeg at e
  obtain ⟨_, xs, bs, e2, hn⟩ := List.find?_eq_some_iff_append.1 e
  have hl : l = bs.reverse ++ s :: xs.reverse := by
    have := congrArg List.reverse e2
    simpa using this
  have ht := h.tiles
  rw [hl] at hu ht
  rcases List.mem_append.1 hu with h2 | h2
  · obtain ⟨b, t1, t2⟩ := tile_append.1 ht
    have := tile_mem t1 u h2
    have hb : s.lo = b := t2.1
    omega
  · rcases List.mem_cons.1 h2 with rfl | h2
    · omega
    · have := hn u (List.mem_reverse.1 h2)
      rw [hk] at this; cases this
/-- the highest key of a host -/
theorem top_key {l : List Seg} (h : WF l) {ks : List Int} (hI : Inc ks) (hks : ∀ k ∈ ks, 0 ≤ k ∧ k ≤ maxK) {g : Int} {s : Seg} (e : topSeg ks g l = some s) :
    ∃ T key, cntLe ks s.hi = T + 1 ∧ cntLt ks s.lo ≤ T ∧ ks[T]? = some key ∧ s.lo ≤ key ∧ key ≤ s.hi ∧ hostOf l key = g ∧ l[at' l key]? = some s ∧ ∀ j x, T < j → ks[j]? = some x → hostOf l x ≠ g := by
  obtain ⟨s1, s2⟩ := topSeg_some e
  obtain ⟨s3, s4⟩ := hasKey_iff.1 s2
  have hle := cntLe_len ks s.hi
  have hT : cntLe ks s.hi - 1 < ks.length := by omega
  have hk : ks[cntLe ks s.hi - 1]? = some (ks[cntLe ks s.hi - 1]'hT) := List.getElem?_eq_getElem _
  have k1 := (idx_lo (lo := s.lo) hI hk).1 (by omega)
  have k2 := (idx_hi (hi := s.hi) hI hk).1 (by omega)
  refine ⟨cntLe ks s.hi - 1, _, by omega, by omega, hk, k1, k2, (hostOf_seg h s1 k1 k2).trans s3, at_mem h s1 k1 k2, fun j x hj hx hh => ?_⟩
  have hxr := hks x (List.mem_of_getElem? hx)
  have hxs : s.hi < x := by
    refine Classical.byContradiction fun hn => ?_
    have := (idx_hi (hi := s.hi) hI hx).2 (by omega)
    omega
  obtain ⟨u, u1, u2, u3, u4⟩ := (hostOf_eq h hxr.1 hxr.2).2 hh
  have q1 := (idx_lo (lo := u.lo) hI hx).2 u2
  have q2 := (idx_hi (hi := u.hi) hI hx).2 u3
  have := topSeg_above h e u1 (hasKey_iff.2 ⟨u4, by omega⟩)
  have hsg := h.seg s s1
  have hul : u.lo ≤ s.hi := by omega
  have husg := h.seg u u1
  have heq := tile_unique h.tiles (key := s.lo) (x := u.host) (y := s.host) ⟨u, u1, by omega, by omega, rfl⟩ ⟨s, s1, by omega, by omega, rfl⟩
  have a1 := at_mem h u1 (key := s.lo) (by omega) (by omega)
  have a2 := at_mem h s1 (key := s.lo) (by omega) (by omega)
  rw [a1] at a2
  injection a2 with a2
  subst a2
  omega
theorem cutMove_dst (ks : List Int) (s : Seg) (h d d' n : Int) : cutMove ks s h d n = { cutMove ks s h d' n with dst := d } := by
  unfold cutMove; split <;> rfl
end

theorem results_row_slot {P : Program} {fn : Func} {p q : Tmp} {ty : TypeId} (h : fn.results = #[.cell p ty, .tmp q]) (tmps : Array Value) (w : World) (g : Nat) (t : TypeId) (cs : Array Value) (fr : Nat × Nat) (d : TypeDesc) (v : Value)
    (hp : tmps.getD p undef = .pointer (some ⟨g, 0, none⟩)) (hq : tmps.getD q undef = v) (hg : w.heap[g]? = some (.cells cs t fr))
    (hu : P.underlying ty = some d) (hd : (match d with | .struct _ | .array _ _ => true | _ => false) = true) (hi : (P.info? ty).map (·.size) = some cs.size) :
    (results fn tmps).run P w = .ok (.tuple #[.agg cs, v]) w := by
  have hp' : tmps[p]?.getD undef = .pointer (some ⟨g, 0, none⟩) := by simpa using hp
  have hq' : tmps[q]?.getD undef = v := by simpa using hq
  have hl := run_loadVar_row (P := P) w g t ty cs fr d hg hu hd hi
  simp [results, h, hp', hq', asAddr, hl]

set_option maxRecDepth 100000 in
set_option maxHeartbeats 4000000 in
theorem taken_any (w : World) (A : Option Addr) (n c : Nat) (L : List Seg) (A' : Option Addr) (n' c' : Nat) (ks : List Int) (A'' : Option Addr) (c'' : Nat) (g N : Nat) (s : Seg) (hl : L.length = n) (hm : n ≤ 1000000000) (hR : Segs w.heap.size w A L) (hW : Rng.WF L)
    (hl' : ks.length = n') (hm' : n' ≤ 1000000000) (hR' : Keys w.heap.size w A' ks) (hI : Inc ks) (hks : ∀ k ∈ ks, 0 ≤ k ∧ k ≤ maxK) (hR'' : Ints w.heap.size w A'' (ks.map (hostOf L))) (hg : g < 16) (hN : 1 ≤ N) (hN2 : N ≤ 32) (e : topSeg ks (g : Int) L = some s) :
    Calls Try.prog 59 #[.slice A n c, .slice A' n' c', .slice A'' n' c'', .int .i64 (g : Int), .int .i64 (N : Int)] w fun e w' =>
      e = .returned (.tuple #[.agg #[.int .u8 (g : Int), .int .u8 0, .int .u64 (cutMove ks s g 0 N).lo, .int .u64 (cutMove ks s g 0 N).hi, .int .i64 (cutMove ks s g 0 N).pairs], .int .i64 ((cntLe ks s.hi : Int) - 1)]) ∧ Below w.heap.size w w' := by
  subst hl
  subst hl'
  obtain ⟨T, key, t1, t2, t3, t4, t5, t6, t7, t8⟩ := top_key hW hI hks e
  obtain ⟨hkr0, hkr1⟩ := hks key (List.mem_of_getElem? t3)
  have hTl := (List.getElem?_eq_some_iff.1 t3).1
  have HA := hid (fun (i : Nat) (x : Int) (hx : ks[i]? = some x) => idx_lo (lo := s.lo) hI hx)
  have HR := hid hR
  have HR' := hid hR'
  have HR'' := hid hR''
  have HT := hid (And.intro t3 (And.intro t6 t8))
  have HAT := hid t7
  have HW := hid hW
  have HCM : Hid (∀ (a : Nat), a = cntLt ks s.lo → cutMove ks s (g : Int) 0 (N : Int) = if (T : Int) + 1 - (a : Int) ≤ (N : Int) then ⟨(g : Int), 0, s.lo, s.hi, (T : Int) + 1 - (a : Int)⟩ else ⟨(g : Int), 0, ks[T + 1 - N]?.getD 0, s.hi, (N : Int)⟩) := hid (by
    rintro a rfl
    unfold cutMove
    rw [t1, Int.toNat_natCast, show ((T + 1 : Nat) : Int) = (T : Int) + 1 by omega])
  have HT1 := hid t1
  obtain ⟨a, ha⟩ : ∃ a, a = cntLt ks s.lo := ⟨_, rfl⟩
  rw [← ha] at t2 HA
  replace HCM := hid (HCM.out a ha)
  have hRk : Keys w.heap.size w A' ks := hR'
  obtain ⟨bk, okk, key', hk', rfl, hbk, ck⟩ := Keys.at1 hRk T hTl
  obtain rfl : key = key' := by have := t3.symm.trans hk'.out; injection this
  have hw1 : IntKind.i64.wrap ((ks.length : Int) - 1) = ((ks.length - 1 : Nat) : Int) := by rw [IntWalk.i64_in _ ⟨by omega, by omega⟩]; omega
  have hwg : IntKind.u8.wrap (g : Int) = (g : Int) := by rw [IntWalk.u8_in _ ⟨by omega, by omega⟩]
  have hT0 : decide (((T : Nat) : Int) < 0) = false := by simp
  obtain ⟨X0, hX0⟩ : ∃ X0, X0 = w.alloc (.cells #[.int .u8 0, .int .u8 0, .int .u64 0, .int .u64 0, .int .i64 0] 62) := ⟨_, rfl⟩
  have hXB : Below w.heap.size w X0 := by rw [hX0]; exact (Below.refl _ w).alloc (Nat.le_refl _) _
  have hXR : X0.heap[w.heap.size]? = some (.cells #[.int .u8 0, .int .u8 0, .int .u64 0, .int .u64 0, .int .i64 0] 62 (0, 0)) := by rw [hX0]; exact heap_alloc_new _ _
  have HX0 := hid hX0
  have HXB := hid hXB
  have HXR := hid hXR
  clear hR hR' hR'' hRk t1 t3 t6 t7 t8 hI hks hW e ha hX0 hXB hXR
  go_enter Try.func59, Try.ntmps59
  go_wp2_with fail
  rw [← HX0.out]
  go_loopg [12] ks.length (fun gx sj wr => ∃ j : Nat, sj = .int .i64 j ∧ T ≤ j ∧ j < ks.length ∧ j - T ≤ gx ∧ wr = X0)
  case atStart => exact ⟨ks.length - 1, rfl, by omega, by omega, by omega, rfl⟩
  case round =>
    obtain ⟨j, rfl, hTj, hjl, hgx, rfl⟩ := hrel
    have hjl2 : (j : Int) < (ks.length : Int) := by omega
    have hj0 : (0 : Int) ≤ (j : Int) := by omega
    obtain ⟨bo, oo, x, hx, rfl, hbo, co⟩ := Ints.at' HR''.out j (by rw [List.length_map]; exact hjl)
    replace co := Tfact HXB.out (a := ⟨bo, _, none⟩) hbo co
    obtain ⟨kx, hkx⟩ : ∃ kx, ks[j]? = some kx := ⟨_, List.getElem?_eq_getElem hjl⟩
    have hxe : x = hostOf L kx := by have := hx.out; rw [List.getElem?_map, hkx] at this; injection this with this; exact this.symm
    by_cases hj : j = T
    · subst hj
      have hxg : (x != (g : Int)) = false := by
        obtain ⟨h3, h6, _⟩ := HT.out
        rw [h3] at hkx
        injection hkx with hkx
        subst hkx
        rw [hxe, h6]; simp
      clear hxe hkx
      obtain ⟨X1, hX1⟩ : ∃ X1, X1 = wr.alloc (.cells #[.int .i64 0, .slice A L.length c] 65) := ⟨_, rfl⟩
      have hRow : Row X1 wr.heap.size [.int .i64 0, .slice A L.length c] := by rw [hX1]; exact Row.new wr _ _
      have hB0 : Below wr.heap.size wr X1 := by rw [hX1]; exact (Below.refl _ wr).alloc (Nat.le_refl _) _
      have hwz : wr.heap.size < X1.heap.size := hRow.1
      have hwz0 : w.heap.size < wr.heap.size := (Array.getElem?_eq_some_iff.1 HXR.out).1
      have hBX : Below w.heap.size w X1 := HXB.out.trans (hB0.mono HXB.out.size)
      have hbk1 : bk < X1.heap.size := Nat.lt_of_lt_of_le hbk hBX.size
      have hck1 := (hBX.cell (p := ⟨bk, _, none⟩) hbk).trans ck
      have hXR1 : X1.heap[w.heap.size]? = some (.cells #[.int .u8 0, .int .u8 0, .int .u64 0, .int .u64 0, .int .i64 0] 62 (0, 0)) := (hB0.block _ hwz0).trans HXR.out
      have hr0 := hRow.2 0 _ rfl
      have hr1 := hRow.2 1 _ rfl
      have KP := hid (show ∀ w', Below X1.heap.size X1 w' → w'.cell? ⟨wr.heap.size, 0, none⟩ = some (.int .i64 0) ∧ w'.cell? ⟨wr.heap.size, 1, none⟩ = some (.slice A L.length c) ∧ w'.cell? ⟨bk, okk + j, none⟩ = some (.int .u64 key) ∧ Below X1.heap.size X1 w' from
        fun w' hb' => ⟨(hb'.cell hwz).trans hr0, (hb'.cell hwz).trans hr1, (hb'.cell hbk1).trans hck1, hb'⟩)
      have hsg : ∀ W, Below X1.heap.size X1 W → Calls Try.prog 31 #[.agg #[.int .i64 0, .slice A L.length c], .int .u64 key] W fun e w' => e = .returned (.agg #[.int .u64 s.lo, .int .u64 s.hi, .int .u8 s.host]) ∧ Below W.heap.size W w' := fun W hW =>
        segAtRef_any W 0 A L.length c L key s rfl hm ((HR.out.below (hBX.trans (hW.mono hBX.size))).mono (hBX.trans (hW.mono hBX.size)).size) HW.out hkr0 hkr1 HAT.out
      have hsga : ∀ W, W.heap[X1.heap.size]? = some (.cells #[.int .u64 0, .int .u64 0, .int .u8 0] 67 (0, 0)) → Below X1.heap.size X1 W → Calls Try.prog 31 #[.agg #[.int .i64 0, .slice A L.length c], .int .u64 key] W fun e w' => e = .returned (.agg #[.int .u64 s.lo, .int .u64 s.hi, .int .u8 s.host]) ∧ Below X1.heap.size X1 w' ∧ w'.heap[X1.heap.size]? = some (.cells #[.int .u64 0, .int .u64 0, .int .u8 0] 67 (0, 0)) ∧ w'.frozen? ⟨X1.heap.size, 0, none⟩ = false ∧ w'.frozen? ⟨X1.heap.size, 1, none⟩ = false ∧ w'.frozen? ⟨X1.heap.size, 2, none⟩ = false ∧ w'.cell? ⟨X1.heap.size, 0, none⟩ = some (.int .u64 0) ∧ w'.cell? ⟨X1.heap.size, 1, none⟩ = some (.int .u64 0) ∧ w'.cell? ⟨X1.heap.size, 2, none⟩ = some (.int .u8 0) := fun W hz hW =>
        (hsg W hW).mono fun e w' h => by
          have hz' := (h.2.block _ (Array.getElem?_eq_some_iff.1 hz).1).trans hz
          exact ⟨h.1, hW.trans (h.2.mono hW.size), hz', by simp [World.frozen?, hz'], by simp [World.frozen?, hz'], by simp [World.frozen?, hz'], by simp [World.cell?, hz'], by simp [World.cell?, hz'], by simp [World.cell?, hz']⟩
      have HSGA := hid hsga
      have HSG := hid (fun W hW => (hsg W hW).mono fun e w' h => And.intro h.1 (hW.trans (h.2.mono hW.size)))
      have HX1 := hid hX1
      have HBX := hid hBX
      have HXR1 := hid hXR1
      clear hsg hsga hX1 hRow hB0 hBX hck1 hXR1 hr0 hr1
      obtain ⟨t0, t1, d3, hbx⟩ := KP.out X1 (Below.refl _ _)
      clear ck
      go_upto_region 7 with fail
      rw [← HX1.out]
      go_cut [14] (fun v wd => ∃ bg, v = .pointer (some ⟨bg, 0, none⟩) ∧ wd.heap[bg]? = some (.cells #[.int .u64 s.lo, .int .u64 s.hi, .int .u8 s.host] 67 (0, 0)) ∧ X1.heap.size ≤ bg ∧ Below X1.heap.size X1 wd)
      case first =>
        go_region_held3 (fun w' => w'.cell? ⟨wr.heap.size, 0, none⟩ = some (.int .i64 0) ∧ w'.cell? ⟨wr.heap.size, 1, none⟩ = some (.slice A L.length c) ∧ w'.cell? ⟨bk, okk + j, none⟩ = some (.int .u64 key) ∧ Below X1.heap.size X1 w')
          (first | (refine KP.out _ ?_; repeat' (first | assumption | exact Below.refl _ _ | refine Below.drew ?_ | refine below_drewN' ?_ _ | refine Below.alloc ?_ ?_ _ | refine Below.setCell ?_ ?_ _ | exact Nat.le_refl _ | exact Below.size (by assumption) | (simp; done) | (simp; omega))))
          (first
            | (go_simp; with_reducible refine (HSGA.out _ (by with_unfolding_all exact heap_alloc_new X1 _) (by repeat' (first | assumption | exact Below.refl _ _ | refine Below.drew ?_ | refine below_drewN' ?_ _ | refine Below.alloc ?_ ?_ _ | exact Nat.le_refl _ | exact Below.size (by assumption)))).mono ?_; rintro e w4 ⟨rfl, hb4, hz0, hz1, hz2, hz3, hz4, hz5, hz6⟩)
            | (go_simp; with_reducible refine (HSG.out _ (by repeat' (first | assumption | exact Below.refl _ _ | refine Below.drew ?_ | refine below_drewN' ?_ _ | refine Below.alloc ?_ ?_ _ | exact Nat.le_refl _ | exact Below.size (by assumption)))).mono ?_; rintro e w4 ⟨rfl, hb4⟩))
        all_goals go_wp2_with fail
        all_goals go_meet
        all_goals first
          | exact ⟨_, rfl, seg_box hz0 _ _ _, Nat.le_refl _, ((hb4.setCell (p := ⟨X1.heap.size, 0, none⟩) (Nat.le_refl _) _).setCell (p := ⟨X1.heap.size, 1, none⟩) (Nat.le_refl _) _).setCell (p := ⟨X1.heap.size, 2, none⟩) (Nat.le_refl _) _⟩
          | exact ⟨_, rfl, heap_alloc_new _ _, hb4.size, hb4.alloc hb4.size _⟩
          | exact ⟨_, rfl, heap_alloc_new _ _, hb4.size, hb4.drew.alloc hb4.size _⟩
      case rest =>
      obtain ⟨bg, rfl, hbg, hbgs, hbd⟩ := hcut
      clear t0 t1 d3 hbx
      have g0 : wc.cell? ⟨bg, 0, none⟩ = some (.int .u64 s.lo) := by simp [World.cell?, hbg]
      have g1 : wc.cell? ⟨bg, 1, none⟩ = some (.int .u64 s.hi) := by simp [World.cell?, hbg]
      have hBW := HBX.out.trans (hbd.mono HBX.out.size)
      have hRW := (hbd.block _ (Array.getElem?_eq_some_iff.1 HXR1.out).1).trans HXR1.out
      obtain ⟨X2, hX2⟩ : ∃ X2, X2 = wc.alloc (.cells #[.int .u8 (g : Int), .int .u8 0, .int .u64 s.lo, .int .u64 s.hi, .int .i64 0] 62) := ⟨_, rfl⟩
      have hM2 : X2.heap[wc.heap.size]? = some (.cells #[.int .u8 (g : Int), .int .u8 0, .int .u64 s.lo, .int .u64 s.hi, .int .i64 0] 62 (0, 0)) := by rw [hX2]; exact heap_alloc_new _ _
      have hG2 : X2.heap[bg]? = some (.cells #[.int .u64 s.lo, .int .u64 s.hi, .int .u8 s.host] 67 (0, 0)) := by rw [hX2, heap_alloc_old _ _ (Array.getElem?_eq_some_iff.1 hbg).1]; exact hbg
      have hR2 : X2.heap[w.heap.size]? = some (.cells #[.int .u8 0, .int .u8 0, .int .u64 0, .int .u64 0, .int .i64 0] 62 (0, 0)) := by rw [hX2, heap_alloc_old _ _ (Array.getElem?_eq_some_iff.1 hRW).1]; exact hRW
      have hB2 : Below w.heap.size w X2 := by rw [hX2]; exact hBW.alloc hBW.size _
      have hbgne : bg ≠ wc.heap.size := Nat.ne_of_lt (Array.getElem?_eq_some_iff.1 hbg).1
      have hwne : w.heap.size ≠ wc.heap.size := Nat.ne_of_lt (Array.getElem?_eq_some_iff.1 hRW).1
      have hwle : w.heap.size ≤ wc.heap.size := hBW.size
      have hbgw : bg ≠ w.heap.size := by omega
      obtain ⟨bm, hbm⟩ : ∃ bm, bm = wc.heap.size := ⟨_, rfl⟩
      rw [← hbm] at hM2 hbgne hwne hwle
      have HM2 := hid hM2
      have HG2 := hid hG2
      have HR2 := hid hR2
      have HB2 := hid hB2
      have HX2 := hid hX2
      have HBM := hid hbm
      clear hM2 hG2 hR2 hB2 hX2 hBW hRW hbg hbd hbm hbgs
      go_wp2_with fail
      rw [← HX2.out, ← HBM.out]
      go_loopg [16] (j + 2) (fun gx si wr => ∃ p : Nat, si = .int .i64 ((j : Int) - (p : Int)) ∧ p + a ≤ j + 1 ∧ p ≤ N ∧ j + 2 - p ≤ gx ∧ Hid (wr.heap[bm]? = some (.cells #[.int .u8 (g : Int), .int .u8 0, .int .u64 s.lo, .int .u64 s.hi, .int .i64 (p : Int)] 62 (0, 0))) ∧ Hid (wr.heap[bg]? = some (.cells #[.int .u64 s.lo, .int .u64 s.hi, .int .u8 s.host] 67 (0, 0))) ∧ Hid (wr.heap[w.heap.size]? = some (.cells #[.int .u8 0, .int .u8 0, .int .u64 0, .int .u64 0, .int .i64 0] 62 (0, 0))) ∧ Hid (Below w.heap.size w wr))
      case atStart => exact ⟨0, by simp, by omega, by omega, by omega, HM2, HG2, HR2, HB2⟩
      case round =>
        obtain ⟨p, rfl, hpa, hpN, hgx, HM, HG, HRR, HB⟩ := hrel
        have m0 : wr.cell? ⟨bm, 0, none⟩ = some (.int .u8 (g : Int)) := by simp [World.cell?, HM.out]
        have m1 : wr.cell? ⟨bm, 1, none⟩ = some (.int .u8 0) := by simp [World.cell?, HM.out]
        have m2 : wr.cell? ⟨bm, 2, none⟩ = some (.int .u64 s.lo) := by simp [World.cell?, HM.out]
        have m3 : wr.cell? ⟨bm, 3, none⟩ = some (.int .u64 s.hi) := by simp [World.cell?, HM.out]
        have m4 : wr.cell? ⟨bm, 4, none⟩ = some (.int .i64 (p : Int)) := by simp [World.cell?, HM.out]
        have mf : wr.frozen? ⟨bm, 4, none⟩ = false := by simp [World.frozen?, HM.out]
        have mf2 : wr.frozen? ⟨bm, 2, none⟩ = false := by simp [World.frozen?, HM.out]
        have g0 : wr.cell? ⟨bg, 0, none⟩ = some (.int .u64 s.lo) := by simp [World.cell?, HG.out]
        have q0 : wr.cell? ⟨w.heap.size, 0, none⟩ = some (.int .u8 0) := by simp [World.cell?, HRR.out]
        have q1 : wr.cell? ⟨w.heap.size, 1, none⟩ = some (.int .u8 0) := by simp [World.cell?, HRR.out]
        have q2 : wr.cell? ⟨w.heap.size, 2, none⟩ = some (.int .u64 0) := by simp [World.cell?, HRR.out]
        have q3 : wr.cell? ⟨w.heap.size, 3, none⟩ = some (.int .u64 0) := by simp [World.cell?, HRR.out]
        have q4 : wr.cell? ⟨w.heap.size, 4, none⟩ = some (.int .i64 0) := by simp [World.cell?, HRR.out]
        have f0 : wr.frozen? ⟨w.heap.size, 0, none⟩ = false := by simp [World.frozen?, HRR.out]
        have f1 : wr.frozen? ⟨w.heap.size, 1, none⟩ = false := by simp [World.frozen?, HRR.out]
        have f2 : wr.frozen? ⟨w.heap.size, 2, none⟩ = false := by simp [World.frozen?, HRR.out]
        have f3 : wr.frozen? ⟨w.heap.size, 3, none⟩ = false := by simp [World.frozen?, HRR.out]
        have f4 : wr.frozen? ⟨w.heap.size, 4, none⟩ = false := by simp [World.frozen?, HRR.out]
        have sd : ∀ (W : World) j x v, (W.drewN j).setCell x v = (W.setCell x v).drewN j := fun _ _ _ _ => rfl
        by_cases hin : p + a ≤ j
        · obtain ⟨i, rfl⟩ : ∃ i, j = i + p := ⟨j - p, by omega⟩
          have hsl : (((i + p : Nat) : Int) - (p : Int)) = (i : Int) := by omega
          rw [hsl]
          obtain ⟨b1, o1, ki, hki, e1, hb1, ck1⟩ := Keys.at1 HR'.out i (by omega)
          cases e1
          replace ck1 := Tfact HB.out (a := ⟨bk, _, none⟩) hb1 ck1
          have hlo := (HA.out i ki hki.out).1 (by omega)
          have d1 : decide (s.lo ≤ ki) = true := by simpa using hlo
          have d1' : decide (ki ≥ s.lo) = true := by simpa using hlo
          have hi0 : (0 : Int) ≤ (i : Int) := by omega
          have hd0 : decide ((i : Int) ≥ 0) = true := by simp
          have hil : (i : Int) < (ks.length : Int) := by omega
          clear hlo hsl
          by_cases hpN' : p = N
          · subst hpN'
            have hpp : ((p : Int) == (p : Int)) = true := by simp
            obtain ⟨b2, o2, k2, hk2, e1, hb2, ck2⟩ := Keys.at1 HR'.out (i + 1) (by omega)
            cases e1
            replace ck2 := Tfact HB.out (a := ⟨bk, _, none⟩) hb2 ck2
            have hw2 : IntKind.i64.wrap ((i : Int) + 1) = ((i + 1 : Nat) : Int) := by rw [IntWalk.i64_in _ ⟨by omega, by omega⟩]; omega
            have hil2 : ((i + 1 : Nat) : Int) < (ks.length : Int) := by omega
            have HC2 : Hid (cutMove ks s (g : Int) 0 (p : Int) = ⟨(g : Int), 0, k2, s.hi, (p : Int)⟩) := hid (by
              rw [HCM.out, if_neg (by omega), show i + p + 1 - p = i + 1 by omega, hk2.out]; rfl)
            have HMS : Hid ((wr.setCell ⟨bm, 2, none⟩ (.int .u64 k2)).heap[bm]? = some (.cells #[.int .u8 (g : Int), .int .u8 0, .int .u64 k2, .int .u64 s.hi, .int .i64 (p : Int)] 62 (0, 0))) := hid (heap_setCell_at _ HM.out)
            have HRS : Hid ((wr.setCell ⟨bm, 2, none⟩ (.int .u64 k2)).heap[w.heap.size]? = some (.cells #[.int .u8 0, .int .u8 0, .int .u64 0, .int .u64 0, .int .i64 0] 62 (0, 0))) := hid ((Below.heap_setCell _ _ _ _ (by show w.heap.size ≠ bm; omega)).trans HRR.out)
            go_wp2_with fail
            go_quiet (fail)
            obtain ⟨W5, hW5⟩ : ∃ W5, W5 = (wr.drewN nq).setCell ⟨bm, 2, none⟩ (.int .u64 k2) := ⟨_, rfl⟩
            have HBS : Hid (Below w.heap.size w W5) := by rw [hW5]; exact hid ((below_drewN' HB.out nq).setCell (p := ⟨bm, 2, none⟩) hwle _)
            replace HMS : Hid (W5.heap[bm]? = some (.cells #[.int .u8 (g : Int), .int .u8 0, .int .u64 k2, .int .u64 s.hi, .int .i64 (p : Int)] 62 (0, 0))) := by rw [hW5]; exact HMS
            replace HRS : Hid (W5.heap[w.heap.size]? = some (.cells #[.int .u8 0, .int .u8 0, .int .u64 0, .int .u64 0, .int .i64 0] 62 (0, 0))) := by rw [hW5]; exact HRS
            have HW5 := hid hW5
            clear hin hpa hgx m0 m1 m3 q0 q1 q2 q3 q4 f0 f1 f2 f3 f4 sd hW5
            go_upto_region 15 with fail
            rw [← HW5.out]
            have n0 : W5.cell? ⟨bm, 0, none⟩ = some (.int .u8 (g : Int)) := by simp [World.cell?, HMS.out]
            have n1 : W5.cell? ⟨bm, 1, none⟩ = some (.int .u8 0) := by simp [World.cell?, HMS.out]
            have n2 : W5.cell? ⟨bm, 2, none⟩ = some (.int .u64 k2) := by simp [World.cell?, HMS.out]
            have n3 : W5.cell? ⟨bm, 3, none⟩ = some (.int .u64 s.hi) := by simp [World.cell?, HMS.out]
            have n4 : W5.cell? ⟨bm, 4, none⟩ = some (.int .i64 (p : Int)) := by simp [World.cell?, HMS.out]
            have q0' : W5.cell? ⟨w.heap.size, 0, none⟩ = some (.int .u8 0) := by simp [World.cell?, HRS.out]
            have q1' : W5.cell? ⟨w.heap.size, 1, none⟩ = some (.int .u8 0) := by simp [World.cell?, HRS.out]
            have q2' : W5.cell? ⟨w.heap.size, 2, none⟩ = some (.int .u64 0) := by simp [World.cell?, HRS.out]
            have q3' : W5.cell? ⟨w.heap.size, 3, none⟩ = some (.int .u64 0) := by simp [World.cell?, HRS.out]
            have q4' : W5.cell? ⟨w.heap.size, 4, none⟩ = some (.int .i64 0) := by simp [World.cell?, HRS.out]
            have f0' : W5.frozen? ⟨w.heap.size, 0, none⟩ = false := by simp [World.frozen?, HRS.out]
            have f1' : W5.frozen? ⟨w.heap.size, 1, none⟩ = false := by simp [World.frozen?, HRS.out]
            have f2' : W5.frozen? ⟨w.heap.size, 2, none⟩ = false := by simp [World.frozen?, HRS.out]
            have f3' : W5.frozen? ⟨w.heap.size, 3, none⟩ = false := by simp [World.frozen?, HRS.out]
            have f4' : W5.frozen? ⟨w.heap.size, 4, none⟩ = false := by simp [World.frozen?, HRS.out]
            go_wp2_with fail
            refine bodyPost_ret (results_row_slot rfl _ _ _ _ _ _ _ _ rfl rfl (move_box HRS.out _ _ _ _ _) Try.underlying62 rfl (by kernel_rfl)) rfl ?_
            exact ⟨by rw [HC2.out, HT1.out]; simp, move_below HBS.out (Nat.le_refl _) _ _ _ _ _⟩
          · have hpp : ((p : Int) == (N : Int)) = false := by rw [beq_eq_false_iff_ne]; omega
            have hw2 : IntKind.i64.wrap ((i : Int) - 1) = ((i + p : Nat) : Int) - ((p + 1 : Nat) : Int) := by rw [IntWalk.i64_in _ ⟨by omega, by omega⟩]; omega
            have hw3 : IntKind.i64.wrap ((p : Int) + 1) = ((p + 1 : Nat) : Int) := by rw [IntWalk.i64_in _ ⟨by omega, by omega⟩]; omega
            have HM3 : Hid ((wr.setCell ⟨bm, 4, none⟩ (.int .i64 ((p + 1 : Nat) : Int))).heap[bm]? = some (.cells #[.int .u8 (g : Int), .int .u8 0, .int .u64 s.lo, .int .u64 s.hi, .int .i64 ((p + 1 : Nat) : Int)] 62 (0, 0))) := hid (heap_setCell_at _ HM.out)
            go_wp2_with fail
            go_quiet (fail)
            go_wp2_with fail
            go_roundg (i + p + 2 - (p + 1))
            case measure => omega
            case rel => exact ⟨p + 1, rfl, by omega, by omega, Nat.le_refl _, HM3, hid ((Below.heap_setCell _ _ _ _ (by show bg ≠ bm; omega)).trans HG.out), hid ((Below.heap_setCell _ _ _ _ (by show w.heap.size ≠ bm; omega)).trans HRR.out), hid (below_drewN' (HB.out.setCell (p := ⟨bm, 4, none⟩) hwle _) _)⟩
        · have hpe : p + a = j + 1 := by omega
          have HC2 : Hid (cutMove ks s (g : Int) 0 (N : Int) = ⟨(g : Int), 0, s.lo, s.hi, (p : Int)⟩) := hid (by
            rw [HCM.out, if_pos (by omega), show (j : Int) + 1 - (a : Int) = (p : Int) by omega])
          by_cases ha0 : a = 0
          · have hsl : ((j : Int) - (p : Int)) = -1 := by omega
            rw [hsl]
            have hd0 : decide ((-1 : Int) ≥ 0) = false := by decide
            clear hsl
            go_wp2_with fail
            go_quiet (fail)
            go_wp2_with fail
            refine bodyPost_ret (results_row_slot rfl _ _ _ _ _ _ _ _ rfl rfl (move_box HRR.out _ _ _ _ _) Try.underlying62 rfl (by kernel_rfl)) rfl ?_
            exact ⟨by rw [HC2.out, HT1.out]; simp, by first | exact below_drewN' (move_below HB.out (Nat.le_refl _) _ _ _ _ _) _ | exact move_below HB.out (Nat.le_refl _) _ _ _ _ _⟩
          · have hsl : ((j : Int) - (p : Int)) = ((a - 1 : Nat) : Int) := by omega
            rw [hsl]
            obtain ⟨b1, o1, ki, hki, e1, hb1, ck1⟩ := Keys.at1 HR'.out (a - 1) (by omega)
            cases e1
            replace ck1 := Tfact HB.out (a := ⟨bk, _, none⟩) hb1 ck1
            have hlo : ki < s.lo := by
              refine Classical.byContradiction fun hn => ?_
              have := (HA.out (a - 1) ki hki.out).2 (by omega)
              omega
            have d1 : decide (s.lo ≤ ki) = false := by simpa using hlo
            have d1' : decide (ki ≥ s.lo) = false := by simpa using hlo
            have hi0 : (0 : Int) ≤ ((a - 1 : Nat) : Int) := by omega
            have hd0 : decide (((a - 1 : Nat) : Int) ≥ 0) = true := by simp
            have hil : ((a - 1 : Nat) : Int) < (ks.length : Int) := by omega
            clear hlo hsl
            go_wp2_with fail
            go_quiet (fail)
            go_wp2_with fail
            refine bodyPost_ret (results_row_slot rfl _ _ _ _ _ _ _ _ rfl rfl (move_box HRR.out _ _ _ _ _) Try.underlying62 rfl (by kernel_rfl)) rfl ?_
            exact ⟨by rw [HC2.out, HT1.out]; simp, below_drewN' (move_below HB.out (Nat.le_refl _) _ _ _ _ _) _⟩
    · have hxg : (x != (g : Int)) = true := by
        have := HT.out.2.2 j kx (by omega) hkx
        rw [hxe]; simpa using this
      have hwj : IntKind.i64.wrap ((j : Int) - 1) = ((j - 1 : Nat) : Int) := by rw [IntWalk.i64_in _ ⟨by omega, by omega⟩]; omega
      clear hxe hkx
      go_wp2_with fail
      go_roundg (j - 1 - T)
      case measure => omega
      case rel => exact ⟨j - 1, rfl, by omega, by omega, Nat.le_refl _, rfl⟩
end Go.Proofs.Ytpkcccphoolapaa
