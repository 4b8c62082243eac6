/- Layer 15: assign. -/
import Derived.Test.YtpkcccphoolapaaPushP
import Derived.Test.YtpkcccphoolapaaPlayL
import Derived.Test.YtpkcccphoolapaaRngB
import Derived.Test.YtpkcccphoolapaaList
import Derived.Test.YtpkcccphoolapaaCnt
namespace Go.Proofs.Ytpkcccphoolapaa
open Go.RowKit

/-- sort.Search for a segment over any closure that asks this. -/
theorem searchSegs_any (g : Nat) (cb : Array Value) (w : World) (l : List Seg) (key : Int) (eg : ∀ args w, (callFunc g args).run Try.prog w = .ok (.enter g args) w) (hm : l.length < 4611686018427387904)
    (hcl : ∀ (m i : Nat) (s : Seg), l[i]? = some s → Calls Try.prog g (#[.int .i64 i] ++ cb) (w.drewN m) fun e w' => e = .returned (.bool (decide (key ≤ s.hi))) ∧ ∃ q, w' = (w.drewN m).drewN q) {a b : Int} (ht : Rng.tile a l b) :
    Calls Try.prog 47 #[.int .i64 l.length, .func (.func g) #[] cb] w fun e w' => e = .returned (.int .i64 (Rng.at' l key : Nat)) ∧ ∃ q, w' = w.drewN q := by
  have hs := search_any g cb l.length (fun i => match l[i]? with | some s => decide (key ≤ s.hi) | none => true) w eg hm
    (fun m i hi => by
      have e := List.getElem?_eq_getElem hi
      simp only [e]
      exact hcl m i _ e)
    (fun a b hab hb hp => by
      have e1 := List.getElem?_eq_getElem (show a < l.length by omega)
      have e2 := List.getElem?_eq_getElem hb
      simp only [e1, e2, decide_eq_true_eq] at hp ⊢
      have := his_mono ht a b _ _ hab e1 e2
      omega)
  rw [at_countP l key _ (fun i s hs => by simp only [hs])] at hs
  exact hs

set_option maxHeartbeats 400000 in
theorem assignFn_any (w : World) (B1 B2 b off cap n i : Nat) (lo hi : Int) (hB1 : w.cell? ⟨B1, 0, none⟩ = some (.slice (some ⟨b, off, none⟩) n cap)) (hB2 : w.cell? ⟨B2, 2, none⟩ = some (.int .u64 lo)) (hi' : (i : Int) < n)
    (hc : w.cell? ⟨b, off + i * 3 + 1, none⟩ = some (.int .u64 hi)) :
    Calls Try.prog 66 #[.int .i64 i, .pointer (some ⟨B1, 0, none⟩), .pointer (some ⟨B2, 0, none⟩)] w fun e w' => e = .returned (.bool (decide (lo ≤ hi))) ∧ ∃ q, w' = w.drewN q := by
  go_enter Try.func66, Try.ntmps66
  go_wp2
  go_quiet (fail)
  go_wp2
  go_ret
  exact ⟨rfl, _, rfl⟩

theorem push_other {o : List Seg} {p : Seg} {s : Seg} (h : p.host ≠ s.host) : Rng.push (Rng.push o p) s = Rng.push o p ++ [s] := by
  have e : ∃ o' q, Rng.push o p = o' ++ [q] ∧ q.host = p.host := by
    rcases Rng.eq_nil_or_snoc o with rfl | ⟨o', q, rfl⟩
    · exact ⟨[], p, rfl, rfl⟩
    · rw [Rng.push_snoc]
      split
      · rename_i hh; exact ⟨o', _, rfl, hh⟩
      · exact ⟨o' ++ [q], p, rfl, rfl⟩
  obtain ⟨o', q, e1, e2⟩ := e
  rw [e1, Rng.push_snoc, if_neg (by rw [e2]; exact h)]

set_option maxRecDepth 100000 in
set_option maxHeartbeats 2000000 in
theorem assignP_any (w : World) (A : Option Addr) (n c : Nat) (l : List Seg) (sf dst lo hi pr : Int) (hl : l.length = n) (hnc : n ≤ c) (hm : n ≤ 1000000000) (hR : Segs w.heap.size w A l) (hW : Rng.WF l) (h0 : 0 ≤ lo) (h1 : lo ≤ hi)
    (f : Seg) (hf : l[Rng.at' l lo]? = some f) (hfh : hi ≤ f.hi) (hne : dst ≠ f.host) :
    Calls Try.prog 49 #[.slice A n c, .agg #[.int .u8 sf, .int .u8 dst, .int .u64 lo, .int .u64 hi, .int .i64 pr]] w fun e w' =>
      ∃ v, e = .returned v ∧ OwnSegs w' w.heap.size v (Rng.withL l lo hi dst) ∧ Below w.heap.size w w' := by
  subst hl
  obtain ⟨b, off, rfl, hbl, hcells⟩ := Segs.open' hR hW.pos
  have hfm := hW.seg f (List.mem_of_getElem? hf)
  obtain ⟨f', f1, f2, f3, -, -, f6⟩ := Rng.at_split hW.tiles h0 (show lo < maxK + 1 by omega)
  obtain rfl : f' = f := by rw [hf] at f1; injection f1 with f1; exact f1.symm
  clear f1
  have hil := Rng.at_lt hW.tiles h0 (show lo < maxK + 1 by omega)
  have hij : Rng.at' l hi = Rng.at' l lo := by
    obtain ⟨g, g1, g2, g3, -, -, -⟩ := Rng.at_split hW.tiles (show 0 ≤ hi by omega) (show hi < maxK + 1 by omega)
    rcases Nat.lt_or_ge (Rng.at' l lo) (Rng.at' l hi) with h | h
    · have := his_mono hW.tiles _ _ _ _ (Nat.le_of_lt h) hf g1
      have := f6 g (by rw [List.mem_iff_getElem?]; exact ⟨Rng.at' l hi - (Rng.at' l lo + 1), by rw [List.getElem?_drop]; rw [show Rng.at' l lo + 1 + (Rng.at' l hi - (Rng.at' l lo + 1)) = Rng.at' l hi by omega]; exact g1⟩)
      have hh := tile_ahead hW.tiles g1 f' (by rw [List.mem_iff_getElem?]; exact ⟨Rng.at' l lo, by rw [List.getElem?_take_of_lt h]; exact hf⟩)
      omega
    · exact Nat.le_antisymm h (Rng.at_mono h1)
  have ew : Hid (Rng.withL l lo hi dst = (l.drop (Rng.at' l lo + 1)).foldl Rng.push ((Rng.push (l.take (Rng.at' l lo) ++ Rng.pre f' lo) ⟨lo, hi, dst⟩) ++ Rng.post f' hi)) := by
    show _ = _
    unfold Rng.withL; rw [hij, hf]
    simp only
    congr 1
    unfold Rng.post
    split
    · simp only [List.foldl_cons, List.foldl_nil]
      exact push_other hne
    · simp
  obtain ⟨W, hWd⟩ : ∃ W, W = (w.alloc (.cells #[.slice (some ⟨b, off, none⟩) l.length c] 32)).alloc (.cells #[.int .u8 sf, .int .u8 dst, .int .u64 lo, .int .u64 hi, .int .i64 pr] 62) := ⟨_, rfl⟩
  have hBW : Below w.heap.size w W := by rw [hWd]; exact ((Below.refl _ w).alloc (Nat.le_refl _) _).alloc (by simp) _
  have hsz : W.heap.size = w.heap.size + 2 := by rw [hWd]; simp
  have b1 : Row W w.heap.size [.slice (some ⟨b, off, none⟩) l.length c] := by
    rw [hWd]; exact (Row.new w [.slice (some ⟨b, off, none⟩) l.length c] _).below ((Below.refl _ _).alloc (Nat.le_refl _) _)
  have b2 : Row W (w.heap.size + 1) [.int .u8 sf, .int .u8 dst, .int .u64 lo, .int .u64 hi, .int .i64 pr] := by
    have := Row.new (w.alloc (.cells #[.slice (some ⟨b, off, none⟩) l.length c] 32)) [.int .u8 sf, .int .u8 dst, .int .u64 lo, .int .u64 hi, .int .i64 pr] 62
    rw [World.size_alloc] at this
    rw [hWd]; exact this
  have LC := hid (show ∀ X, Below W.heap.size W X → (X.cell? ⟨w.heap.size, 0, none⟩ = some (.slice (some ⟨b, off, none⟩) l.length c) ∧ X.cell? ⟨w.heap.size + 1, 1, none⟩ = some (.int .u8 dst) ∧ X.cell? ⟨w.heap.size + 1, 2, none⟩ = some (.int .u64 lo) ∧ X.cell? ⟨w.heap.size + 1, 3, none⟩ = some (.int .u64 hi) ∧
      w.heap.size < X.heap.size ∧ w.heap.size + 1 < X.heap.size ∧ b < X.heap.size ∧
      X.cell? ⟨b, off + Rng.at' l lo * 3, none⟩ = some (.int .u64 f'.lo) ∧ X.cell? ⟨b, off + Rng.at' l lo * 3 + 1, none⟩ = some (.int .u64 f'.hi) ∧ X.cell? ⟨b, off + Rng.at' l lo * 3 + 2, none⟩ = some (.int .u8 f'.host)) from fun X hX => by
    have hs := hX.size
    have hc := hcells _ f' hf
    exact ⟨(hX.cell (by show w.heap.size < _; omega)).trans (b1.2 0 _ rfl), (hX.cell (by show w.heap.size + 1 < _; omega)).trans (b2.2 1 _ rfl), (hX.cell (by show w.heap.size + 1 < _; omega)).trans (b2.2 2 _ rfl), (hX.cell (by show w.heap.size + 1 < _; omega)).trans (b2.2 3 _ rfl),
      by omega, by omega, by omega, Tfact hX (by show b < _; omega) (Tfact hBW hbl hc.1), Tfact hX (by show b < _; omega) (Tfact hBW hbl hc.2.1), Tfact hX (by show b < _; omega) (Tfact hBW hbl hc.2.2)⟩)
  have hRW : Segs W.heap.size W (some ⟨b, off, none⟩) l := (hR.below hBW).mono hBW.size
  have eg : ∀ args w, (callFunc 66 args).run Try.prog w = .ok (.enter 66 args) w := enters_fn Try.func66 (by kernel_rfl) rfl
  have hS := searchSegs_any 66 #[.pointer (some ⟨w.heap.size, 0, none⟩), .pointer (some ⟨w.heap.size + 1, 0, none⟩)] W l lo eg (by omega) (fun m i s hs => by
    have hi := (List.getElem?_eq_some_iff.1 hs).1
    exact assignFn_any (W.drewN m) w.heap.size (w.heap.size + 1) b off c l.length i lo s.hi (b1.2 0 _ rfl) (b2.2 2 _ rfl) (by omega) (Tfact hBW (a := ⟨b, _, none⟩) hbl (hcells i s hs).2.1)) hW.tiles
  have hmk := make_run (P := Try.prog) 32 67 _ 3 24 Try.underlying32 infoSeg (l.length + 2) ((l.length : Int) + 2) (by omega) (by omega) (by omega)
  obtain ⟨A', hdr, hdR⟩ := drop_run (P := Try.prog) (enc := encSeg) 32 67 _ 3 24 Try.underlying32 infoSeg (some ⟨b, off, none⟩) l.length c (Rng.at' l lo + 1) ((Rng.at' l lo : Int) + 1) (by omega) (by omega) hnc
  have HRd := hid (hdR _ _ l rfl hRW)
  have HBW := hid hBW
  have HWd := hid hWd
  have HRW := hid hRW
  have HSZ := hid hsz
  have HS := hid hS
  have hbW : w.heap.size < W.heap.size := by omega
  obtain ⟨l1, l2, l3, l4, l5, l6, l7, l8, l9, l10⟩ := LC.out W (Below.refl _ _)
  clear hij hf hcells hBW hWd hR hRW hS eg b1 b2 hsz hdR f6 hW
  generalize Rng.at' l lo = i at *
  have hic : (i : Int) ≤ c := by omega
  have hin : (i : Int) < l.length := by omega
  go_enter Try.func49, Try.ntmps49
  go_upto_region 1 with fail
  rw [← HWd.out]
  go_wp2_with fail
  refine HS.out.mono ?_
  rintro e w1 ⟨rfl, q, rfl⟩
  have hBq := below_drewN' (Below.refl W.heap.size W) q
  obtain ⟨W2, hW2⟩ : ∃ W2, W2 = W.drewN q := ⟨_, rfl⟩
  rw [← hW2]
  rw [← hW2] at hBq
  clear hW2 l1 l2 l3 l4 l5 l6 l7 l8 l9 l10
  obtain ⟨l1, l2, l3, l4, l5, l6, l7, l8, l9, l10⟩ := LC.out W2 hBq
  have hR2 := (HRW.out.below hBq).mono hBq.size
  go_upto_region 4 with (at_builtin; go_loud (refine wpList_append_reads (enc := encSeg) (sz := 3) _ W.heap.size rfl _ _ 32 67 _ 24 rfl Try.underlying32 infoSeg rfl (by decide) (.slice (some ⟨W2.heap.size, 0, none⟩) 0 (l.length + 2)) 0 [] rfl (World.ownsRow_made _ _ _ hBq.size (by simp only [maxLen]; omega) (size_madeCells _ _)) _ i _ (l.take i) rfl (by simp; omega) ((hR2.below ((Below.refl _ _).alloc (Nat.le_refl _) _)).take i) encSeg_len encSeg_one (by simp only [maxLen]; omega) (by omega) (by have := hBq.size; simp; omega) ?_); intro v3 w3 hown3 hg3 hat3)
  have hB3 : Below W.heap.size W w3 := (hBq.alloc hBq.size _).grown hg3 (by have := hBq.size; simp; omega) (by intro k hk; cases hk; exact hBq.size)
  rw [List.nil_append] at hown3
  have hown : OwnSegs w3 W.heap.size v3 (l.take i) := by
    have e : (l.take i).length = 0 + i := by simp; omega
    show World.ownsRow _ _ _ _ _ _ _
    rw [e]; exact hown3
  clear hown3 hg3 hat3 hR2 hBq hmk l1 l2 l3 l4 l5 l6 l7 l8 l9 l10
  obtain ⟨l1, l2, l3, l4, l5, l6, l7, l8, l9, l10⟩ := LC.out w3 hB3
  go_upto_if 31 with fail
  have hRow3 := Row.new w3 [.int .u64 f'.lo, .int .u64 f'.hi, .int .u8 f'.host] 67
  have hB3a := hB3.alloc hB3.size (.cells #[.int .u64 f'.lo, .int .u64 f'.hi, .int .u8 f'.host] 67)
  have hne3 : v3.ownBlock ≠ some w3.heap.size := fun e => absurd ((hown.lt _ e).2) (Nat.lt_irrefl _)
  go_cut [6] (fun o wc => OwnSegs wc W.heap.size o (l.take i ++ Rng.pre f' lo) ∧ Row wc w3.heap.size [.int .u64 f'.lo, .int .u64 f'.hi, .int .u8 f'.host] ∧ o.ownBlock ≠ some w3.heap.size ∧ Below W.heap.size W wc)
  case first =>
    by_cases hlt : f'.lo < lo
    · have e : Hid (Rng.pre f' lo = [⟨f'.lo, lo - 1, f'.host⟩]) := by show _ = _; unfold Rng.pre; rw [if_pos hlt]
      have hwl : IntKind.u64.wrap (lo - 1) = lo - 1 := wrap_u64_in (by omega) (by have := maxK_eq; omega)
      have hln : (l.take i).length ≤ 1000000000 := by simp; omega
      go_wp2_with (at_builtin; go_loud (refine wpList_append_one _ W.heap.size rfl _ _ 32 67 _ 24 rfl Try.underlying32 infoSeg rfl (by decide) encSeg_len encSeg_one v3 (l.take i) ⟨f'.lo, lo - 1, f'.host⟩ _ rfl rfl _ rfl (by simp) (hown.alloc _) (by simp only [maxLen]; omega) (by omega) (by have := hB3.size; simp; omega) ?_); intro v4 w4 hown4 hg4 hat4)
      go_meet
      rw [e.out]
      refine ⟨hown4, hRow3.grown hg4 (fun e => hne3 e.symm), ?_, hB3a.grown hg4 hB3a.size (own_ge hown)⟩
      rcases hat4 with h | ⟨bb, h, hb⟩
      · rw [h]; exact hne3
      · rw [h]; intro e; simp at hb; cases e; omega
    · have e : Hid (Rng.pre f' lo = []) := by show _ = _; unfold Rng.pre; rw [if_neg hlt]
      go_wp2_with fail
      go_meet
      rw [e.out, List.append_nil]
      exact ⟨hown.alloc _, hRow3, hne3, hB3a⟩
  case rest =>
  obtain ⟨hown4, hRow4, hne4, hB4⟩ := hcut
  clear hB3a hRow3 hne3 hown hB3 l1 l2 l3 l4 l5 l6 l7 l8 l9 l10
  generalize w3.heap.size = B7 at *
  obtain ⟨l1, l2, l3, l4, l5, l6, l7, l8, l9, l10⟩ := LC.out wc hB4
  have hpl : (l.take i ++ Rng.pre f' lo).length ≤ 1000000001 := by have h1 : (Rng.pre f' lo).length ≤ 1 := (by unfold Rng.pre; split <;> simp); simp; omega
  have hp := pushP_any W.heap.size _ _ _ ⟨lo, hi, dst⟩ hown4 hB4.size (by omega)
  go_wp2_with fail
  refine hp.mono ?_
  rintro e w5 ⟨v5, rfl, hown5, hg5, hat5⟩
  have hB5 := hB4.grown hg5 hB4.size (own_ge hown4)
  have hRow5 := hRow4.grown hg5 (fun e => hne4 e.symm)
  have hpl5 := (Rng.push_length (l.take i ++ Rng.pre f' lo) ⟨lo, hi, dst⟩).1
  generalize Rng.push (l.take i ++ Rng.pre f' lo) ⟨lo, hi, dst⟩ = X5 at *
  generalize l.take i ++ Rng.pre f' lo = X4 at *
  clear hp hown4 hg5 hB4 hat5 hRow4 l1 l2 l3 l4 l5 l6 l7 l8 l9 l10
  obtain ⟨l1, l2, l3, l4, l5, l6, l7, l8, l9, l10⟩ := LC.out w5 hB5
  have r0 := hRow5.2 0 _ rfl
  have r1 := hRow5.2 1 _ rfl
  have r2 := hRow5.2 2 _ rfl
  have hpo : (Rng.post f' hi).length ≤ 1 := by unfold Rng.post; split <;> simp
  go_upto_if 56 with fail
  go_cut [6] (fun o wc => OwnSegs wc W.heap.size o (X5 ++ Rng.post f' hi) ∧ Below W.heap.size W wc)
  case first =>
    by_cases hlt : hi < f'.hi
    · have e : Hid (Rng.post f' hi = [⟨hi + 1, f'.hi, f'.host⟩]) := by show _ = _; unfold Rng.post; rw [if_pos hlt]
      have hwl : IntKind.u64.wrap (hi + 1) = hi + 1 := wrap_u64_in (by omega) (by have := maxK_eq; omega)
      go_wp2_with (at_builtin; go_loud (refine wpList_append_one _ W.heap.size rfl _ _ 32 67 _ 24 rfl Try.underlying32 infoSeg rfl (by decide) encSeg_len encSeg_one v5 X5 ⟨hi + 1, f'.hi, f'.host⟩ _ rfl rfl _ rfl (by simp) hown5 (by simp only [maxLen]; omega) (by omega) (by have := hB5.size; simp; omega) ?_); intro v6 w6 hown6 hg6 hat6)
      go_meet
      rw [e.out]
      exact ⟨hown6, hB5.grown hg6 hB5.size (own_ge hown5)⟩
    · have e : Hid (Rng.post f' hi = []) := by show _ = _; unfold Rng.post; rw [if_neg hlt]
      go_wp2_with fail
      go_meet
      rw [e.out, List.append_nil]
      exact ⟨hown5, hB5⟩
  case rest =>
  obtain ⟨hown6, hB6⟩ := hcut
  clear hown5 hB5 hRow5 r0 r1 r2 l1 l2 l3 l4 l5 l6 l7 l8 l9 l10
  obtain ⟨l1, l2, l3, l4, l5, l6, l7, l8, l9, l10⟩ := LC.out wc hB6
  have hX6 : (X5 ++ Rng.post f' hi).length ≤ 1000000005 := by simp; omega
  have hX := hid hX6
  clear hX6
  generalize X5 ++ Rng.post f' hi = X at *
  have hdl : Hid ((l.drop (i + 1)).length = l.length - (i + 1)) := by show _ = _; simp
  have hdm : l.length - (i + 1) ≤ 1000000000 := by omega
  generalize hDD : l.drop (i + 1) = D at *
  clear hDD
  generalize l.length - (i + 1) = m at *
  obtain rfl : D.length = m := hdl.out
  clear hdl
  go_wp2_with fail
  go_loopw [6, 73] (fun o i wr => ∃ k : Nat, k ≤ D.length ∧ i = .int .i64 k ∧ OwnSegs wr W.heap.size o ((D.take k).foldl Rng.push X) ∧ Below W.heap.size W wr) (fun _ i _ => D.length - (intOf i).toNat)
  case atStart => exact ⟨0, Nat.zero_le _, rfl, by simpa using hown6, hB6⟩
  case round =>
    obtain ⟨k, hk, rfl, hownr, hBr⟩ := hrel
    by_cases hlt : k < D.length
    · obtain ⟨b', off', s, hs, rfl, hb', cs0, cs1, cs2⟩ := Segs.at3 HRd.out k hlt
      replace cs0 := Tfact hBr (a := ⟨b', _, none⟩) hb' cs0
      replace cs1 := Tfact hBr (a := ⟨b', _, none⟩) hb' cs1
      replace cs2 := Tfact hBr (a := ⟨b', _, none⟩) hb' cs2
      have hbrl : b' < wr.heap.size := Nat.lt_of_lt_of_le hb' hBr.size
      have hkn : (k : Int) < D.length := by omega
      have hlk : ((D.take k).foldl Rng.push X).length ≤ 5864062014700 := by
        have h1 := hX.out
        have h2 := foldl_push_len (D.take k) X
        have h3 : (D.take k).length ≤ D.length := List.length_take_le' ..
        omega
      have hp := pushP_any W.heap.size _ _ _ s (hownr.alloc (.cells #[.int .u64 s.lo, .int .u64 s.hi, .int .u8 s.host] 67)) (by have := hBr.size; simp; omega) hlk
      go_wp2_with fail
      refine hp.mono ?_
      rintro e' w7 ⟨v7, rfl, hown7, hg7, _⟩
      have hB7 := (hBr.alloc hBr.size (.cells #[.int .u64 s.lo, .int .u64 s.hi, .int .u8 s.host] 67)).grown hg7 (by have := hBr.size; simp; omega) (own_ge hownr)
      clear hp hownr hg7 hBr cs0 cs1 cs2
      have he : Hid ((D.take (k + 1)).foldl Rng.push X = Rng.push ((D.take k).foldl Rng.push X) s) := by
        show _ = _
        rw [List.take_add_one, hs.out, List.foldl_append]; rfl
      go_wp2_with fail
      go_roundw
      case rel => exact ⟨k + 1, by omega, by go_num, by rw [he.out]; exact hown7, hB7⟩
      case measure => simp [intOf]; omega
    · obtain rfl : k = D.length := by omega
      rw [List.take_length] at hownr
      go_wp2
      refine bodyPost_ret (results_tmp rfl _ _ _) rfl ?_
      refine ⟨_, rfl, ?_, HBW.out.trans (hBr.mono HBW.out.size)⟩
      rw [ew.out]; exact ownsRow_mono hownr HBW.out.size
end Go.Proofs.Ytpkcccphoolapaa
