/- Layer 15: the reference's owners, counted. -/
import Derived.Test.YtpkcccphoolapaaCount
namespace Go.Proofs.Ytpkcccphoolapaa
open Go.RowKit

theorem hostOf_at {l : List Seg} {key : Int} {s : Seg} (h : l[Rng.at' l key]? = some s) : hostOf l key = s.host := by unfold hostOf; rw [h]

theorem at_le {l : List Seg} {x y : Int} (h : x ≤ y) : Rng.at' l x ≤ Rng.at' l y := Rng.at_mono h

set_option maxHeartbeats 4000000 in
set_option maxRecDepth 100000 in
theorem ownersRef_any (w : World) (lm : Int) (A : Option Addr) (n c : Nat) (l : List Seg) (A' : Option Addr) (n' c' : Nat) (ks : List Int) (hl : l.length = n) (hm : n ≤ 1000000000) (hR : Segs w.heap.size w A l) (hW : Rng.WF l)
    (hl' : ks.length = n') (hbytes' : n' * 8 ≤ 140737488351232) (hR' : Keys w.heap.size w A' ks) (hI : Inc ks) (hks : ∀ k ∈ ks, 0 ≤ k ∧ k ≤ maxK) :
    Calls Try.prog 43 #[.agg #[.int .i64 lm, .slice A n c], .slice A' n' c'] w fun e w' =>
      ∃ v, e = .returned v ∧ OwnInts w' w.heap.size v ks.length (ks.map (hostOf l)) ∧ Below w.heap.size w w' := by
  subst hl
  subst hl'
  obtain ⟨b, off, rfl, hb, hcells⟩ := Segs.open' hR hW.pos
  obtain ⟨W, hWd⟩ : ∃ W, W = w.alloc (.cells #[.int .i64 lm, .slice (some ⟨b, off, none⟩) l.length c] 65) := ⟨_, rfl⟩
  have hRow : Row W w.heap.size [.int .i64 lm, .slice (some ⟨b, off, none⟩) l.length c] := by rw [hWd]; exact Row.new w [.int .i64 lm, .slice (some ⟨b, off, none⟩) l.length c] _
  have hB1 : Below w.heap.size w W := by rw [hWd]; exact (Below.refl _ w).alloc (Nat.le_refl _) _
  have HC := hid hcells
  have HR' := hid hR'
  have HI := hid hI
  have HW := hid hW
  have HK := hid hks
  have HWD := hid hWd
  clear hcells hR hR' hI hW hks hWd
  have hWs := hRow.1
  go_enter Try.func43, Try.ntmps43
  go_upto_region 1 with fail
  rw [← HWD.out]
  go_wp2
  go_loopw [5, 6, 7] (fun o p i wr => ∃ k pp : Nat, k ≤ ks.length ∧ i = .int .i64 k ∧ p = .int .i64 pp ∧ Hid (∀ (j : Nat) (key : Int), k ≤ j → ks[j]? = some key → pp ≤ Rng.at' l key) ∧ Hid (OwnInts wr W.heap.size o k ((ks.take k).map (hostOf l))) ∧ Hid (Row wr w.heap.size [.int .i64 lm, .slice (some ⟨b, off, none⟩) l.length c]) ∧ W.heap.size ≤ wr.heap.size ∧ Below w.heap.size w wr) (fun _ _ i _ => ks.length - (intOf i).toNat)
  case atStart => exact ⟨0, 0, Nat.zero_le _, rfl, rfl, hid (fun _ _ _ _ => Nat.zero_le _), hid (World.ownsRow_nil _ _ _ _), hid hRow, Nat.le_refl _, hB1⟩
  case round =>
    obtain ⟨k, pp, hk, rfl, rfl, HP, HO, HRw, hsz, hB⟩ := hrel
    by_cases hlt : k < ks.length
    · obtain ⟨b', off', key, hkey, rfl, hb', d0⟩ := Keys.at1 HR'.out k hlt
      replace d0 := Tfact hB (a := ⟨b', _, none⟩) hb' d0
      have hkn : (k : Int) < ks.length := by omega
      obtain ⟨hk0, hk1⟩ := HK.out key (List.mem_of_getElem? hkey.out)
      obtain ⟨s0, s1, s2, s3, -, s5, -⟩ := Rng.at_split HW.out.tiles hk0 (show key < maxK + 1 by omega)
      have hal := Rng.at_lt HW.out.tiles hk0 (show key < maxK + 1 by omega)
      have hpa := HP.out k key (Nat.le_refl _) hkey.out
      have r1 := HRw.out.2 1 _ rfl
      have hv0 := HW.out.seg s0 (List.mem_of_getElem? s1)
      have hHS : Hid (hostOf l key = s0.host) := hostOf_at s1
      have S1 := hid s1
      have S5 := hid s5
      clear s1 s5
      go_wp2
      go_loopw [6] (fun p wr' => ∃ q pp : Nat, p = .int .i64 pp ∧ pp ≤ Rng.at' l key ∧ wr' = wr.drewN q) (fun p _ => l.length - (intOf p).toNat)
      case atStart => exact ⟨0, pp, rfl, hpa, rfl⟩
      case round =>
        obtain ⟨q, p2, rfl, hp2, rfl⟩ := hrel
        have hpl : p2 < l.length := by omega
        have hpi : (p2 : Int) < l.length := by omega
        obtain ⟨t, ht⟩ : ∃ t, l[p2]? = some t := ⟨_, List.getElem?_eq_getElem hpl⟩
        obtain ⟨e0, e1, e2⟩ := HC.out p2 t ht
        replace e1 := Tfact hB (a := ⟨b, _, none⟩) hb e1
        replace e2 := Tfact hB (a := ⟨b, _, none⟩) hb e2
        by_cases hpe : p2 < Rng.at' l key
        · have hth : t.hi < key := S5.out t (by
            rw [List.mem_iff_getElem?]; exact ⟨p2, by rw [List.getElem?_take_of_lt hpe]; exact ht⟩)
          have HT := hid ht
          clear ht
          go_wp2
          go_quiet (fail)
          go_wp2
          go_roundw
          case rel => exact ⟨_, p2 + 1, by go_num, by omega, by first | rfl | exact World.drewN_drewN ..⟩
          case measure => simp [intOf]; omega
        · obtain rfl : p2 = Rng.at' l key := by omega
          obtain rfl : t = s0 := by have := ht.symm.trans S1.out; injection this
          have hth : ¬ t.hi < key := by omega
          have hcv : IntKind.i64.wrap t.host = t.host := wrap_small _ (by omega) (by omega)
          have HPN : Hid (∀ (j : Nat) (key' : Int), k + 1 ≤ j → ks[j]? = some key' → Rng.at' l key ≤ Rng.at' l key') := fun j key' hj hk' => at_le (Int.le_of_lt (HI.out k j key key' (by omega) hkey.out hk'))
          clear ht
          generalize Rng.at' l key = at0 at *
          go_wp2
          go_quiet (fail)
          obtain ⟨hln, A5, c5, rfl, _, _, _⟩ := owns_reads i64_len HO.out (by decide)
          go_wp2_with (at_builtin; go_loud (refine wpList_append_one _ W.heap.size rfl _ _ 22 3 _ 8 rfl Try.underlying22 infoInt rfl (by decide) i64_len i64_one (.slice A5 k c5) ((ks.take k).map (hostOf l)) t.host _ rfl rfl _ rfl (by simp) (by rw [hln]; exact HO.out) (by rw [hln]; simp only [maxLen]; omega) (by rw [hln]; omega) (by simp; omega) ?_); intro v1 w2 hown1 hg hat)
          have hBr := (below_drewN' hB (q + nq)).grown hg (below_drewN' hB (q + nq)).size (fun k hk => Nat.le_trans (Nat.le_of_lt hWs) (own_ge HO.out k hk))
          have hRw2 := (HRw.out.drewN (q + nq)).grown hg (fun e => by have := own_ge HO.out _ e.symm; omega)
          have hgs := hg.size
          have hEQ : Hid ((ks.take (k + 1)).map (hostOf l) = (ks.take k).map (hostOf l) ++ [t.host]) := by
            show _ = _
            rw [List.take_add_one, hkey.out, List.map_append]
            simp [hHS.out]
          rw [← hEQ.out] at hown1
          have hl2 : ((ks.take (k + 1)).map (hostOf l)).length = k + 1 := by simp; omega
          rw [hl2] at hown1
          have HOW := hid hown1
          clear hown1 hg hl2
          go_roundw
          case rel => exact ⟨k + 1, at0, by omega, by go_num, rfl, HPN, HOW, hid hRw2, by simp at hgs; omega, hBr⟩
          case measure => simp [intOf]; omega
    · obtain rfl : k = ks.length := by omega
      go_wp2
      go_ret
      exact ⟨_, rfl, by have := HO.out; rw [List.take_length] at this; exact ownsRow_mono this (Nat.le_of_lt hWs), hB⟩
end Go.Proofs.Ytpkcccphoolapaa
