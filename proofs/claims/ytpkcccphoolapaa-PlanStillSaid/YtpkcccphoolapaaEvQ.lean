/- Layer 15: PlanEvens, plain: of a tamed layout there are moves, they can be played, the loads behind them are even. -/
import Derived.Test.YtpkcccphoolapaaEvP
import Derived.Test.YtpkcccphoolapaaLoads
namespace Go.Proofs.Ytpkcccphoolapaa
open Rng

theorem tameS_ok {H : Nat} (h1 : 1 ≤ H) (h2 : H ≤ 16) {l : List Seg} (hok : ∀ s ∈ l, okSeg s) : (∀ s ∈ tameS H l, okSeg s) ∧ ∀ s ∈ tameS H l, 0 ≤ s.host ∧ s.host < (H : Int) := by
  have key : ∀ s ∈ tameS H l, okSeg s ∧ 0 ≤ s.host ∧ s.host < (H : Int) := by
    intro s hs
    obtain ⟨t, ht, rfl⟩ := List.mem_map.1 hs
    have := hok t ht
    unfold okSeg at this
    have e1 := Int.emod_nonneg t.host (show (H : Int) ≠ 0 by omega)
    have e2 := Int.emod_lt_of_pos t.host (show (0 : Int) < H by omega)
    exact ⟨by unfold okSeg; dsimp only; omega, e1, e2⟩
  exact ⟨fun s hs => (key s hs).1, fun s hs => (key s hs).2⟩

theorem tame_lay {H : Nat} (h1 : 1 ≤ H) (h2 : H ≤ 16) {l : List Seg} (hok : ∀ s ∈ l, okSeg s) (hf : (faultL l).2 = 0) (hn : l.length ≤ 4096) (ks : List Int) : LayOk (H : Int) (tameS H l) (tameK ks) ∧ TabOk H (loadL (tameS H l) 8192).2 ∧ (loadL (tameS H l) 8192).2.length ≤ 4096 := by
  obtain ⟨o1, o2⟩ := tameS_ok h1 h2 hok
  have hf2 : (faultL (tameS H l)).2 = 0 := fault_host (fun s => s.host % (H : Int)) (fun s hs => by
    have := (o2 ⟨s.lo, s.hi, s.host % (H : Int)⟩ (List.mem_map.2 ⟨s, hs, rfl⟩)).2
    dsimp only at this; omega) hf
  have hlen : (tameS H l).length = l.length := by simp [tameS]
  have hjl := joinL_len (tameS H l)
  have e : loadL (tameS H l) 8192 = (0, joinL (tameS H l)) := by
    unfold loadL
    rw [if_neg (by omega), if_neg (by omega), if_neg (by omega)]
  obtain ⟨w1, w2, _, _⟩ := joinL_wf o1 hf2
  have hhs : ∀ s ∈ joinL (tameS H l), s.host < (H : Int) := by
    intro s hs
    have hsg := w1.seg s hs
    obtain ⟨t, ht, _, _, e⟩ := (w2 s.lo s.host).1 ⟨s, hs, Int.le_refl _, hsg.2.1, rfl⟩
    rw [← e]; exact (o2 t ht).2
  rw [e]
  refine ⟨⟨by rw [e], ?_, (tameK_ok ks).1⟩, ⟨w1, hhs⟩, by dsimp only; omega⟩
  rw [e]; exact hhs

/-- a table is what Load makes of it -/
theorem load_wf {l : List Seg} (h : WF l) (h8 : (l.length : Int) ≤ 8192) : loadL l 8192 = (0, l) := by
  unfold loadL
  rw [if_neg (by omega), if_neg (by rw [wf_fault h]; simp), joinL_self h.coal, if_neg (by omega)]
theorem loads_wf {H : Nat} {l : List Seg} (h1 : 1 ≤ H) (h2 : H ≤ 16) (h : TabOk H l) (h8 : (l.length : Int) ≤ 8192) {ks : List Int} (hk : Inc ks) : loadsL (H : Int) l ks = (0, countsOf H l ks) := by
  have e := load_wf h.wf h8
  unfold loadsL
  rw [if_neg (by omega), if_pos ⟨by rw [e], by rw [e]; exact h.hosts, hk⟩, e, Int.toNat_natCast]

/-- what PlanEvens and its fellows lean on -/
structure EvenOk (H : Nat) (most : Int) (S : List Seg) (K : List Int) (ms : List MoveL) (L' : List Seg) (q : Int) : Prop where
  mo : movesOf (H : Int) S K most = (0, ms)
  pl : playsL S ms = (0, L')
  len : ms.length ≤ 4096
  oks : ∀ m ∈ ms, okMove m
  tab : TabOk H L'
  two : ∀ x ∈ countsOf H L' K, x = q ∨ x = q + 1
  sum : (countsOf H L' K).sum = (K.length : Int)
  lds : (L'.length : Int) ≤ 8192 → loadsL (H : Int) L' K = (0, countsOf H L' K)
  sz : L'.length ≤ 12288
theorem even_ok {H : Nat} {most : Int} {l : List Seg} {ks : List Int} (h1 : 1 ≤ H) (h2 : H ≤ 16) (hm1 : 1 ≤ most) (hm2 : most ≤ 32) (hok : ∀ s ∈ l, okSeg s) (hf : (faultL l).2 = 0) (hn : l.length ≤ 4096) (hkn : ks.length ≤ 4096) (hks : ∀ k ∈ ks, 0 ≤ k ∧ k ≤ maxK) :
    ∃ ms L' q, EvenOk H most (tameS H l) (tameK ks) ms L' q := by
  obtain ⟨lay, tab, hl0⟩ := tame_lay h1 h2 hok hf hn ks
  obtain ⟨k1, k2, k3⟩ := tameK_ok ks
  have hks' : ∀ k ∈ tameK ks, 0 ≤ k ∧ k ≤ maxK := fun k hk => hks k (k2 k hk)
  have hg := counts_good (H := H) (l := (loadL (tameS H l) 8192).2) (ks := tameK ks) h1 h2 (by omega)
  have hos := overSum_le (H := H) (ks := tameK ks) (l := (loadL (tameS H l) 8192).2) (want := wantL H (loadL (tameS H l) 8192).2 (tameK ks)) (fun h => (target_range hg h).1)
  have hr := run_ok (H := H) (most := most) (ks := tameK ks) (want := wantL H (loadL (tameS H l) 8192).2 (tameK ks)) h2 hm1 k1 hks' ((tameK ks).length + 1) _ tab (by omega)
  have hev := run_even (most := most) h1 h2 k1 hks' (by omega) tab hr.ok hr.no
  have hlen := hr.len
  refine ⟨_, _, (countsOf H (loadL (tameS H l) 8192).2 (tameK ks)).sum.tdiv H, ?_, ?_, by omega, hr.oks, hr.ok, fun x hx => ?_, counts_sum hr.ok hks', fun h8 => ?_, by have := hr.sz; omega⟩
  · unfold movesOf
    rw [if_neg (by omega), if_pos lay, Int.toNat_natCast]
  · unfold playsL
    rw [if_neg (by rw [lay.1]; simp)]
    exact hr.play
  · obtain ⟨i, hi⟩ := List.mem_iff_getElem?.1 hx
    have hiH : i < H := by have := (List.getElem?_eq_some_iff.1 hi).1; rwa [countsOf_len] at this
    rw [countsOf_get hiH] at hi
    obtain rfl := Option.some.inj hi
    rw [hev i hiH]
    unfold wantL targetL
    rw [countsOf_len]
    split
    · exact .inr rfl
    · exact .inl (by omega)
  · exact loads_wf h1 h2 hr.ok h8 k1
end Go.Proofs.Ytpkcccphoolapaa
