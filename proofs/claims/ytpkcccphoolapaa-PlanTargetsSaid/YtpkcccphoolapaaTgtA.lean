/- Layer 15: the program's Targets. -/
import Derived.Test.YtpkcccphoolapaaTgtS
namespace Go.Proofs.Ytpkcccphoolapaa
open Go.RowKit Go.Sort

/-- what stands in out behind r rounds -/
def outP (l : List Int) (o : List Nat) (r : Nat) : List Int := (List.range l.length).map fun h => if h ∈ o.take r then targetL l h else 0
theorem outP_len (l : List Int) (o : List Nat) (r : Nat) : (outP l o r).length = l.length := by simp [outP]
theorem outP_zero (l : List Int) (o : List Nat) : outP l o 0 = List.replicate l.length 0 := by
  unfold outP
  apply List.ext_getElem
  · simp
  · intro i h1 h2; simp
theorem outP_step {l : List Int} {o : List Nat} {r h : Nat} (hr : o[r]? = some h) : (outP l o r).set h (targetL l h) = outP l o (r + 1) := by
  apply List.ext_getElem
  · simp [outP]
  · intro i h1 h2
    rw [List.getElem_set]
    simp only [outP, List.getElem_map, List.getElem_range, List.take_add_one, hr, Option.toList_some, List.mem_append, List.mem_singleton]
    by_cases e : h = i
    · subst e; simp
    · rw [if_neg e]
      by_cases e2 : i ∈ o.take r <;> simp [e2, Ne.symm e]
theorem outP_end {l : List Int} {o : List Nat} (hl : o.length = l.length) (hp : o.Perm (List.range l.length)) : outP l o l.length = targets l := by
  unfold outP targets
  rw [← hl, List.take_length, hl]
  apply List.map_congr_left
  intro h hh
  rw [if_pos (hp.mem_iff.2 hh)]

def fillL (n k : Nat) : List Nat := (List.range n).map fun h => if h < k then h else 0
theorem fillL_end (n : Nat) : fillL n n = List.range n := by
  unfold fillL
  apply List.ext_getElem
  · simp
  · intro i h1 h2
    simp at h1
    simp [h1]
theorem fillL_made (n : Nat) : madeCells #[.int .i64 0] n = hostCells (fillL n 0) := by
  apply Array.ext'
  rw [toList_madeCells_one]
  unfold hostCells fillL
  apply List.ext_getElem
  · simp
  · intro i h1 h2; simp
theorem fillL_set {n k : Nat} (_ : k < n) : (hostCells (fillL n k)).setIfInBounds k (.int .i64 (k : Int)) = hostCells (fillL n (k + 1)) := by
  apply Array.ext
  · simp [hostCells, fillL]
  · intro i h1 h2
    rw [Array.getElem_setIfInBounds (by simpa using h1)]
    simp only [hostCells, fillL, List.getElem_toArray, List.getElem_map, List.getElem_range]
    by_cases e : k = i
    · subst e; simp
    · rw [if_neg e]
      by_cases e2 : i < k
      · rw [if_pos e2, if_pos (by omega)]
      · rw [if_neg e2, if_neg (by omega)]
theorem heap_setCell_at {W : World} {g k : Nat} {cs : Array Value} {e : TypeId} {fr : Nat × Nat} (v : Value) (h : W.heap[g]? = some (.cells cs e fr)) : (W.setCell ⟨g, k, none⟩ v).heap[g]? = some (.cells (cs.setIfInBounds k v) e fr) := by
  rw [setCell_eq]
  show (W.heap.modify g _)[g]? = _
  rw [Array.getElem?_modify, if_pos rfl, h]
  rfl
theorem host_cell {W : World} {g : Nat} {o : List Nat} {e : TypeId} (h : W.heap[g]? = some (.cells (hostCells o) e (0, 0))) {k x : Nat} (hk : o[k]? = some x) : W.cell? ⟨g, k, none⟩ = some (.int .i64 (x : Int)) := by
  obtain ⟨h1, h2⟩ := List.getElem?_eq_some_iff.1 hk
  simp [World.cell?, h, hostCells, h1, h2]
theorem host_frozen {W : World} {g k : Nat} {cs : Array Value} {e : TypeId} (h : W.heap[g]? = some (.cells cs e (0, 0))) : W.frozen? ⟨g, k, none⟩ = false := by simp [World.frozen?, h]

set_option maxHeartbeats 8000000 in
theorem targets_any (w : World) (A : Option Addr) (n c : Nat) (l : List Int) (hl : l.length = n) (hm : n ≤ 9223372036854775807) (hR : Ints w.heap.size w A l) :
    Calls Try.prog 24 #[.slice A n c] w fun e w' =>
      ∃ v, e = .returned (.tuple #[v, .int .i64 (if goodLoads l = true then 0 else 150)]) ∧ OwnInts w' w.heap.size v (if goodLoads l = true then targets l else []).length (if goodLoads l = true then targets l else []) ∧ Below w.heap.size w w' := by
  subst hl
  have hB1 : Below w.heap.size w (w.alloc (.cells #[.slice A l.length c] 22)) := (Below.refl _ w).alloc (Nat.le_refl _) _
  have hg1 := goodLoads_any w.heap.size _ A l.length c l rfl hm (hR.below hB1)
  cases hg : goodLoads l with
  | false =>
    rw [hg] at hg1
    simp only [Bool.false_eq_true, if_false]
    clear hg
    go_enter Try.func24, Try.ntmps24
    go_wp2_with (go_at_call 37; refine hg1.mono ?_; rintro e w' ⟨rfl, rfl⟩)
    go_ret2
    exact ⟨_, rfl, World.ownsRow_nil _ _ _ _, hB1⟩
  | true =>
    rw [hg] at hg1
    simp only [if_true]
    have hG := goodLoads_iff hg
    have htb := total_bound hg
    have ht1 := total_any w.heap.size _ A l.length c l rfl (hR.below hB1) hg
    have HR := hid hR
    have hn1 := hG.1
    have hn2 := hG.2.1
    have hs0 := htb.1
    have hs1 := htb.2
    obtain ⟨hd0, hd1⟩ := div_facts (n := l.length) htb.1 htb.2 hn1
    have hz : ((l.length : Int) == 0) = false := by rw [beq_eq_false_iff_ne]; omega
    have hwd : IntKind.i64.wrap (l.sum.tdiv l.length) = l.sum.tdiv l.length := wrap_small _ (by omega) (by omega)
    have hwd1 : IntKind.i64.wrap (l.sum.tdiv l.length + 1) = l.sum.tdiv l.length + 1 := wrap_small _ (by omega) (by omega)
    have HTG : Hid (∀ h, targetL l h = l.sum.tdiv l.length + if (rankH l h : Int) < l.sum % l.length then 1 else 0) := hid fun h => rfl
    have hmk := makeInts_run l.length (by omega)
    obtain ⟨W3, hW3⟩ : ∃ W3, W3 = ((w.alloc (.cells #[.slice A l.length c] 22)).alloc (.cells (madeCells #[.int .i64 0] l.length) 3)).alloc (.cells #[.slice (some ⟨w.heap.size + 1, 0, none⟩) l.length l.length] 22) := ⟨_, rfl⟩
    have hB3 : Below w.heap.size w W3 := by rw [hW3]; exact (((Below.refl _ w).alloc (Nat.le_refl _) _).alloc (by simp) _).alloc (by simp; omega) _
    have hp1 : W3.cell? ⟨w.heap.size, 0, none⟩ = some (.slice A l.length c) := by
      rw [hW3, World.cell?_alloc_past _ _ _ (by simp; omega), World.cell?_alloc_past _ _ _ (by simp)]; simp
    have hp3 : W3.cell? ⟨w.heap.size + 1 + 1, 0, none⟩ = some (.slice (some ⟨w.heap.size + 1, 0, none⟩) l.length l.length) := by
      have h := (Row.new ((w.alloc (.cells #[.slice A l.length c] 22)).alloc (.cells (madeCells #[.int .i64 0] l.length) 3)) [.slice (some ⟨w.heap.size + 1, 0, none⟩) l.length l.length] 22).2 0 _ rfl
      rw [hW3]; simpa using h
    have hp2 : W3.heap[w.heap.size + 1]? = some (.cells (hostCells (fillL l.length 0)) 3 (0, 0)) := by
      have h := heap_alloc_new (w.alloc (.cells #[.slice A l.length c] 22)) (.cells (madeCells #[.int .i64 0] l.length) 3)
      have hb := ((Below.refl ((w.alloc (.cells #[.slice A l.length c] 22)).alloc (.cells (madeCells #[.int .i64 0] l.length) 3)).heap.size _).alloc (Nat.le_refl _) (.cells #[.slice (some ⟨w.heap.size + 1, 0, none⟩) l.length l.length] 22)).block (w.heap.size + 1) (by simp)
      rw [hW3, hb, ← fillL_made]
      simpa using h
    have hp4 : W3.heap.size = w.heap.size + 3 := by rw [hW3]; simp
    have HP1 := hid hp1
    have HP2 := hid hp2
    have HP3 := hid hp3
    have HB3 := hid hB3
    have HP4 := hid hp4
    clear hp1 hp2 hp3 hp4 hB3
    have HW3 := hid hW3
    clear hg hG htb hR hW3
    generalize l.sum = S at *
    go_enter Try.func24, Try.ntmps24
    go_wp2_with (first | (go_at_call 37; refine hg1.mono ?_; rintro e w' ⟨rfl, rfl⟩) | (go_at_call 38; refine ht1.mono ?_; rintro e w' ⟨rfl, rfl⟩))
    rw [← HW3.out]
    clear hmk hg1 ht1
    go_loopg [20] l.length (fun gx si wr => ∃ i : Nat, si = .int .i64 i ∧ i ≤ l.length ∧ l.length - i ≤ gx ∧ Hid (wr.cell? ⟨w.heap.size, 0, none⟩ = some (.slice A l.length c)) ∧ Hid (wr.cell? ⟨w.heap.size + 1 + 1, 0, none⟩ = some (.slice (some ⟨w.heap.size + 1, 0, none⟩) l.length l.length)) ∧ Hid (wr.heap[w.heap.size + 1]? = some (.cells (hostCells (fillL l.length i)) 3 (0, 0))) ∧ Hid (wr.heap.size = w.heap.size + 3) ∧ Hid (Below w.heap.size w wr))
    case atStart => exact ⟨0, rfl, Nat.zero_le _, Nat.le_refl _, HP1, HP3, HP2, HP4, HB3⟩
    case round =>
      obtain ⟨i, rfl, hil, hgx, H1, H3, H2, H4, HB⟩ := hrel
      have c3 := H3.out
      by_cases hlt : i < l.length
      · have hii : (i : Int) < (l.length : Int) := by omega
        have hi0 : (0 : Int) ≤ (i : Int) := by omega
        have hwi : IntKind.i64.wrap ((i : Int) + 1) = (i : Int) + 1 := wrap_small _ (by omega) (by omega)
        have c2 : wr.cell? ⟨w.heap.size + 1, i, none⟩ = some (.int .i64 ((0 : Nat) : Int)) := host_cell H2.out (by simp [fillL, hlt])
        have f2 : wr.frozen? ⟨w.heap.size + 1, i, none⟩ = false := host_frozen H2.out
        have hset := heap_setCell_at (k := i) (.int .i64 (i : Int)) H2.out
        rw [fillL_set hlt] at hset
        have HS := hid hset
        clear hset
        go_wp2_with fail
        go_roundg (l.length - (i + 1))
        case measure => omega
        case rel => exact ⟨i + 1, by go_num, hlt, Nat.le_refl _, hid ((World.cell?_of_block (a := ⟨w.heap.size, 0, none⟩) (Below.heap_setCell _ _ _ _ (by show w.heap.size ≠ w.heap.size + 1; omega))).trans H1.out), hid ((World.cell?_of_block (a := ⟨w.heap.size + 1 + 1, 0, none⟩) (Below.heap_setCell _ _ _ _ (by show w.heap.size + 1 + 1 ≠ w.heap.size + 1; omega))).trans H3.out), HS, hid (by rw [size_setCell]; exact H4.out), hid (HB.out.setCell (p := ⟨w.heap.size + 1, i, none⟩) (by show w.heap.size ≤ w.heap.size + 1; omega) _)⟩
      · obtain rfl : i = l.length := by omega
        have hii : ¬ (l.length : Int) < (l.length : Int) := by omega
        obtain ⟨b, off, x0, _, rfl, hb, _⟩ := Ints.at' HR.out 0 (by omega)
        have hst := stableHosts_any wr l b off c w.heap.size (w.heap.size + 1 + 1) (w.heap.size + 1) hn1 hn2 (fun k x hk => by
            obtain ⟨b', off', x', hx', hbe, hb', hc'⟩ := Ints.at' HR.out k (List.getElem?_eq_some_iff.1 hk).1
            obtain ⟨rfl, rfl⟩ : b' = b ∧ off' = off := by
              injection hbe with e; injection e with e1 e2; exact ⟨e1.symm, e2.symm⟩
            obtain rfl : x' = x := by have := hx'.out.symm.trans hk; injection this
            exact (HB.out.cell (p := ⟨b', off' + k, none⟩) hb').trans hc') H1.out H3.out (by rw [H2.out, fillL_end]) ⟨by rw [H4.out]; omega, by omega⟩ ⟨by rw [H4.out]; omega, by omega⟩ ⟨by rw [H4.out]; omega, by omega⟩
        have HST := hid hst
        clear hst
        go_wp2_with fail
        refine HST.out.mono ?_
        rintro e w4 ⟨rfl, o, ho1, ho2, ho3, ho4, hgr⟩
        have hs4 := hgr.size
        have hB4 : Below w.heap.size w w4 := HB.out.grown hgr HB.out.size (fun k hk => by injection hk with hk; omega)
        have c1 : w4.cell? ⟨w.heap.size, 0, none⟩ = some (.slice (some ⟨b, off, none⟩) l.length c) := (World.cell?_of_block (a := ⟨w.heap.size, 0, none⟩) (hgr.block w.heap.size (by rw [H4.out]; omega) (fun e => by injection e with e; omega))).trans H1.out
        have c3' : w4.cell? ⟨w.heap.size + 1 + 1, 0, none⟩ = some (.slice (some ⟨w.heap.size + 1, 0, none⟩) l.length l.length) := (World.cell?_of_block (a := ⟨w.heap.size + 1 + 1, 0, none⟩) (hgr.block (w.heap.size + 1 + 1) (by rw [H4.out]; omega) (fun e => by injection e with e; omega))).trans H3.out
        have hmk := makeInts_run l.length (by omega)
        have d1 : (w4.alloc (.cells (madeCells #[.int .i64 0] l.length) 3)).cell? ⟨w.heap.size, 0, none⟩ = some (.slice (some ⟨b, off, none⟩) l.length c) := (World.cell?_alloc_past _ _ _ (by have := H4.out; omega)).trans c1
        have d3 : (w4.alloc (.cells (madeCells #[.int .i64 0] l.length) 3)).cell? ⟨w.heap.size + 1 + 1, 0, none⟩ = some (.slice (some ⟨w.heap.size + 1, 0, none⟩) l.length l.length) := (World.cell?_alloc_past _ _ _ (by have := H4.out; omega)).trans c3'
        have H1' := hid d1
        have HO1 := hid ho1
        have HO2 := hid ho2
        have HO3 := hid ho3
        have HO4 := hid ho4
        have HB4 := hid hB4
        have hs5 : w.heap.size + 3 ≤ w4.heap.size := by have := H4.out; omega
        have HS5 := hid hs5
        have HON := hid (makeInts_own w4 l.length (by omega) w.heap.size HB4.out.size)
        clear ho1 ho2 ho3 ho4 hB4 hgr hs4 c3 HST hs5
        go_wp2_with fail
        clear d3 c3' c1 d1 hmk
        go_loopg [37] l.length (fun gy sr wq => ∃ r : Nat, sr = .int .i64 r ∧ r ≤ l.length ∧ l.length - r ≤ gy ∧ Hid (wq.cell? ⟨w.heap.size, 0, none⟩ = some (.slice (some ⟨b, off, none⟩) l.length c)) ∧ Hid (wq.heap[w.heap.size + 1]? = some (.cells (hostCells o) 3 (0, 0))) ∧ Hid (OwnInts wq w.heap.size (.slice (some ⟨w4.heap.size, 0, none⟩) l.length l.length) l.length (outP l o r)) ∧ Hid (RowKit.Below w.heap.size w wq))
        case atStart => exact ⟨0, rfl, Nat.zero_le _, Nat.le_refl _, H1', hid ((((Below.refl w4.heap.size w4).alloc (Nat.le_refl _) _).block _ (by have := HS5.out; omega)).trans HO4.out), hid (by rw [outP_zero]; exact HON.out), hid (HB4.out.alloc HB4.out.size _)⟩
        case round =>
          obtain ⟨r, rfl, hrl, hgy, G1, G2, G3, GB⟩ := hrel
          have g1 := G1.out
          by_cases hlr : r < l.length
          · have hrr : (r : Int) < (l.length : Int) := by omega
            have hr0 : (0 : Int) ≤ (r : Int) := by omega
            have hwr : IntKind.i64.wrap ((r : Int) + 1) = (r : Int) + 1 := wrap_small _ (by omega) (by omega)
            obtain ⟨h, hh⟩ : ∃ h, o[r]? = some h := ⟨o[r]'(by rw [HO1.out]; exact hlr), List.getElem?_eq_getElem _⟩
            have hhn : h < l.length := List.mem_range.1 (HO2.out.mem_iff.1 (List.mem_of_getElem? hh))
            have hhi : (h : Int) < (l.length : Int) := by omega
            have hh0 : (0 : Int) ≤ (h : Int) := by omega
            have g2 := host_cell G2.out hh
            have hrk := HO3.out r h hh
            have g3 : ∃ z, wr.cell? ⟨w4.heap.size, h, none⟩ = some (.int .i64 z) := ⟨(outP l o r)[h]'(by rw [outP_len]; exact hhn), OwnInts.at1 G3.out h _ (List.getElem?_eq_getElem _)⟩
            obtain ⟨z, g3⟩ := g3
            have g4 : wr.frozen? ⟨w4.heap.size, h, none⟩ = false := G3.out.frozenAt h
            have hst := OwnInts.set G3.out h (S.tdiv l.length)
            have HT := hid (HTG.out h)
            have HSTEP := hid (outP_step (l := l) hh)
            have HST2 := hid hst
            have hne1 : w.heap.size ≠ w4.heap.size := by have := HS5.out; omega
            have hne2 : w.heap.size + 1 ≠ w4.heap.size := by have := HS5.out; omega
            have HN1 := hid hne1
            have HN2 := hid hne2
            rw [hrk] at HT
            have g5 : (wr.setCell ⟨w4.heap.size, h, none⟩ (.int .i64 (S.tdiv l.length))).cell? ⟨w.heap.size, 0, none⟩ = some (.slice (some ⟨b, off, none⟩) l.length c) := (World.cell?_of_block (a := ⟨w.heap.size, 0, none⟩) (Below.heap_setCell _ _ _ _ hne1)).trans g1
            have g6 : (wr.setCell ⟨w4.heap.size, h, none⟩ (.int .i64 (S.tdiv l.length))).cell? ⟨w4.heap.size, h, none⟩ = some (.int .i64 (S.tdiv l.length)) := OwnInts.at1 hst.1 h _ (by rw [List.getElem?_set_self (by rw [outP_len]; exact hhn)])
            have g7 : (wr.setCell ⟨w4.heap.size, h, none⟩ (.int .i64 (S.tdiv l.length))).frozen? ⟨w4.heap.size, h, none⟩ = false := hst.1.frozenAt h
            clear hst hrk hne1 hne2 hh
            by_cases hr : (r : Int) < S % l.length
            · have dr : decide ((r : Int) < S % l.length) = true := by simpa using hr
              have HT2 : Hid (targetL l h = S.tdiv l.length + 1) := hid (by rw [HT.out, if_pos hr])
              have hst3 := OwnInts.set HST2.out.1 h (S.tdiv l.length + 1)
              rw [List.set_set, ← HT2.out, HSTEP.out, HT2.out] at hst3
              have HST3 := hid hst3
              clear hst3
              go_wp2_with fail
              go_roundg (l.length - (r + 1))
              case measure => omega
              case rel => exact ⟨r + 1, by go_num, hlr, Nat.le_refl _, hid ((World.cell?_of_block (a := ⟨w.heap.size, 0, none⟩) (Below.heap_setCell _ _ _ _ HN1.out)).trans ((World.cell?_of_block (a := ⟨w.heap.size, 0, none⟩) (Below.heap_setCell _ _ _ _ HN1.out)).trans G1.out)), hid ((Below.heap_setCell _ _ _ _ HN2.out).trans ((Below.heap_setCell _ _ _ _ HN2.out).trans G2.out)), hid HST3.out.1, hid ((GB.out.setCell (p := ⟨w4.heap.size, h, none⟩) HB4.out.size _).setCell (p := ⟨w4.heap.size, h, none⟩) HB4.out.size _)⟩
            · have dr : decide ((r : Int) < S % l.length) = false := by simpa using hr
              have HT2 : Hid (targetL l h = S.tdiv l.length) := hid (by rw [HT.out, if_neg hr]; simp)
              have hst3 := HST2.out
              rw [← HT2.out, HSTEP.out, HT2.out] at hst3
              have HST3 := hid hst3
              clear hst3
              go_wp2_with fail
              go_roundg (l.length - (r + 1))
              case measure => omega
              case rel => exact ⟨r + 1, by go_num, hlr, Nat.le_refl _, hid ((World.cell?_of_block (a := ⟨w.heap.size, 0, none⟩) (Below.heap_setCell _ _ _ _ HN1.out)).trans G1.out), hid ((Below.heap_setCell _ _ _ _ HN2.out).trans G2.out), hid HST3.out.1, hid (GB.out.setCell (p := ⟨w4.heap.size, h, none⟩) HB4.out.size _)⟩
          · obtain rfl : r = l.length := by omega
            have hrr : ¬ (l.length : Int) < (l.length : Int) := by omega
            go_wp2_with fail
            go_ret2
            refine ⟨_, rfl, ?_, GB.out⟩
            have h := G3.out
            rw [outP_end HO1.out HO2.out] at h
            have e : (targets l).length = l.length := by simp [targets]
            rw [e]
            exact h
end Go.Proofs.Ytpkcccphoolapaa
