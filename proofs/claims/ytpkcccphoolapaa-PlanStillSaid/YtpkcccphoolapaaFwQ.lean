/- Layer 15: PlanFewest, plain: the tables about each move, with what the move does to the surplus. -/
import Derived.Test.YtpkcccphoolapaaFwP
import Derived.Test.YtpkcccphoolapaaLkp
namespace Go.Proofs.Ytpkcccphoolapaa
open Rng

theorem overSum_step {H : Nat} {most : Int} {ks : List Int} {want : Nat → Int} {l l' : List Seg} {m : MoveL} {g t : Nat} {s : Seg} (h : StepOk H most ks want l m l' g t s) : (overSum H (overL ks want l) : Int) = overSum H (overL ks want l') + m.pairs := by
  obtain ⟨g1, g2, _⟩ := best_some h.gi
  obtain ⟨t1, t2, _⟩ := best_some h.ti
  have hp1 := h.cut.one
  have hp2 := h.cut.most
  have hne := h.ne
  have key : ∀ n, ((((List.range n).map fun k => (overL ks want l k).toNat).sum : Nat) : Int) = (((List.range n).map fun k => (overL ks want l' k).toNat).sum : Nat) + if g < n then m.pairs else 0 := by
    intro n
    induction n with
    | zero => simp
    | succ n ih =>
      rw [List.range_succ, List.map_append, List.map_append, List.sum_append, List.sum_append]
      simp only [List.map_cons, List.map_nil, List.sum_cons, List.sum_nil, Nat.add_zero, Int.natCast_add]
      rw [ih, h.over n]
      by_cases e1 : n = g
      · subst e1
        rw [if_neg hne, if_pos rfl, if_neg (by omega), if_pos (by omega)]; omega
      · rw [if_neg e1]
        by_cases e2 : n = t
        · subst e2
          rw [if_pos rfl]
          by_cases e3 : g < n
          · rw [if_pos e3, if_pos (by omega)]; omega
          · rw [if_neg e3, if_neg (by omega)]; omega
        · rw [if_neg e2]
          by_cases e3 : g < n
          · rw [if_pos e3, if_pos (by omega)]; omega
          · rw [if_neg e3, if_neg (by omega)]; omega
  have := key H
  rw [if_pos g1] at this
  exact this
theorem overSum_zero {H : Nat} {d : Nat → Int} (h : ∀ k, k < H → d k ≤ 0) : overSum H d = 0 := by
  unfold overSum
  induction H with
  | zero => rfl
  | succ n ih =>
    rw [List.range_succ, List.map_append, List.sum_append, ih (fun k hk => h k (by omega))]
    have := h n (by omega)
    simp; omega

/-- a tamed layout before it is coalesced -/
theorem tame_tl {H : Nat} (h1 : 1 ≤ H) (h2 : H ≤ 16) {l : List Seg} (hok : ∀ s ∈ l, okSeg s) (hf : (faultL l).2 = 0) (hn : l.length ≤ 4096) :
    Tl (tameS H l) ∧ (∀ s ∈ tameS H l, s.host < (H : Int)) ∧ ∀ key, 0 ≤ key → key ≤ maxK → hostOf (tameS H l) key = hostOf (loadL (tameS H l) 8192).2 key := by
  obtain ⟨o1, o2⟩ := tameS_ok h1 h2 hok
  have hf2 : (faultL (tameS H l)).2 = 0 := fault_host (fun s => s.host % (H : Int)) (fun s hs => by
    have := (o2 ⟨s.lo, s.hi, s.host % (H : Int)⟩ (List.mem_map.2 ⟨s, hs, rfl⟩)).2
    dsimp only at this; omega) hf
  have hlen : (tameS H l).length = l.length := by simp [tameS]
  have hjl := joinL_len (tameS H l)
  have e : loadL (tameS H l) 8192 = (0, joinL (tameS H l)) := by
    unfold loadL
    rw [if_neg (by omega), if_neg (by omega), if_neg (by omega)]
  obtain ⟨w1, w2, w3, w4⟩ := joinL_wf o1 hf2
  have ht : Tl (tameS H l) := ⟨w3, w4⟩
  refine ⟨ht, fun s hs => (o2 s hs).2, fun key k0 k1 => ?_⟩
  obtain ⟨s, s1, s2, s3, s4⟩ := ht.at k0 k1
  rw [e]
  dsimp only
  rw [s4]
  exact ((hostOf_eq w1 k0 k1).1 ((w2 key s.host).2 ⟨s, s1, s2, s3, rfl⟩)).symm
theorem counts_host {H : Nat} {l l' : List Seg} {ks : List Int} (h : ∀ k ∈ ks, hostOf l k = hostOf l' k) : countsOf H l ks = countsOf H l' ks := by
  unfold countsOf
  refine List.map_congr_left fun x _ => ?_
  congr 1
  exact List.countP_congr fun k hk => by rw [h k hk]
theorem counts_le {H : Nat} {l : List Seg} {ks : List Int} (hk : ks.length ≤ 4096) : ∀ x ∈ countsOf H l ks, 0 ≤ x ∧ x ≤ 4096 := fun x hx => by
  obtain ⟨j, hj⟩ := List.mem_iff_getElem?.1 hx
  have hjH : j < H := by have := (List.getElem?_eq_some_iff.1 hj).1; rwa [countsOf_len] at this
  rw [countsOf_get hjH] at hj
  obtain rfl := Option.some.inj hj
  have := cntH_range l ks (j : Int)
  omega

/-- keys of a move: none of them may have gone before -/
def NotBack (H : Nat) (ks : List Int) (want : Nat → Int) (T : List Seg) (gone : Nat → Bool) : Prop := ∀ (j : Nat) (key : Int) (h : Nat), ks[j]? = some key → gone j = true → hostOf T key = (h : Int) → h < H → overL ks want T h ≤ 0
theorem NotBack.in {H : Nat} {most : Int} {ks : List Int} {want : Nat → Int} {T T' : List Seg} {m : MoveL} {g t : Nat} {s : Seg} {gone : Nat → Bool} (hn : NotBack H ks want T gone) (hT : TabOk H T) (h : StepOk H most ks want T m T' g t s) {j : Nat} {key : Int} (hk : ks[j]? = some key) (h0 : m.lo ≤ key) (h1 : key ≤ m.hi) : gone j = false := by
  obtain ⟨g1, g2, _⟩ := best_some h.gi
  cases e : gone j with
  | false => rfl
  | true =>
    have c1 := h.cut.lo0
    have c3 := h.cut.hi
    have hh := hostOf_seg hT.wf h.mem (key := key) (by omega) (by omega)
    rw [h.host] at hh
    have := hn j key g hk e hh g1
    omega
theorem NotBack.step {H : Nat} {most : Int} {ks : List Int} {want : Nat → Int} {T T' : List Seg} {m : MoveL} {g t : Nat} {s : Seg} {gone gone' : Nat → Bool} (hn : NotBack H ks want T gone) (hH : H ≤ 16) (hT : TabOk H T) (h : StepOk H most ks want T m T' g t s) (hks : ∀ k ∈ ks, 0 ≤ k ∧ k ≤ maxK)
    (hg : ∀ j key, ks[j]? = some key → gone' j = true → gone j = true ∨ (m.lo ≤ key ∧ key ≤ m.hi)) : NotBack H ks want T' gone' := by
  obtain ⟨g1, g2, _⟩ := best_some h.gi
  obtain ⟨t1, t2, _⟩ := best_some h.ti
  have c1 := h.cut.lo0
  have c2 := h.cut.le
  have c3 := h.cut.hi
  have p1 := h.cut.one
  have p2 := h.cut.most
  have hsg := hT.wf.seg s h.mem
  intro j key k hk hgo hh hkH
  obtain ⟨k0, k1⟩ := hks key (List.mem_of_getElem? hk)
  rw [h.lay, hostOf_with hT.wf (by omega) c2 (by omega) (by omega) (by omega) k0 k1] at hh
  rw [h.over k]
  by_cases hin : m.lo ≤ key ∧ key ≤ m.hi
  · rw [if_pos hin] at hh
    have e : k = t := by omega
    rw [if_pos e, e, if_neg (Ne.symm h.ne)]
    omega
  · rw [if_neg hin] at hh
    have h2 := hn j key k hk ((hg j key hk hgo).resolve_right hin) hh hkH
    by_cases e : k = t
    · subst e; rw [if_pos rfl, if_neg (Ne.symm h.ne)]; omega
    · rw [if_neg e]
      by_cases e2 : k = g
      · subst e2; rw [if_pos rfl]; omega
      · rw [if_neg e2]; omega

/-- all that PlanFewest and PlanStill lean on -/
structure FewOk (H : Nat) (most : Int) (S : List Seg) (K : List Int) (ms : List MoveL) (L0 L' : List Seg) : Prop where
  ev : ∃ q, EvenOk H most S K ms L' q
  tl : Tl S
  hs : ∀ s ∈ S, s.host < (H : Int)
  cnt : countsOf H S K = countsOf H L0 K
  ld : loadL S 8192 = (0, L0)
  tab : TabOk H L0
  pl : playL L0 ms = (0, L')
  st : ∀ k, k < ms.length → ∃ T T' m s g t, StAt H L0 ms k T T' m s ∧ StepOk H most K (wantL H L0 K) T m T' g t s
  done : ∀ h : Nat, h < H → overL K (wantL H L0 K) L' h = 0
  ends : moveStep H most K (wantL H L0 K) L' = none
  mso : ms = (movesL H most K (wantL H L0 K) (K.length + 1) L0).1
theorem few_ok {H : Nat} {most : Int} {l : List Seg} {ks : List Int} (h1 : 1 ≤ H) (h2 : H ≤ 16) (hm1 : 1 ≤ most) (hm2 : most ≤ 32) (hok : ∀ s ∈ l, okSeg s) (hf : (faultL l).2 = 0) (hn : l.length ≤ 4096) (hkn : ks.length ≤ 4096) (hks : ∀ k ∈ ks, 0 ≤ k ∧ k ≤ maxK) :
    ∃ ms L0 L', FewOk H most (tameS H l) (tameK ks) ms L0 L' := by
  obtain ⟨lay, tab, hl0⟩ := tame_lay h1 h2 hok hf hn ks
  obtain ⟨k1, k2, k3⟩ := tameK_ok ks
  have hks' : ∀ k ∈ tameK ks, 0 ≤ k ∧ k ≤ maxK := fun k hk => hks k (k2 k hk)
  have hg := counts_good (H := H) (l := (loadL (tameS H l) 8192).2) (ks := tameK ks) h1 h2 (by omega)
  have hos := overSum_le (H := H) (ks := tameK ks) (l := (loadL (tameS H l) 8192).2) (want := wantL H (loadL (tameS H l) 8192).2 (tameK ks)) (fun h => (target_range hg h).1)
  have hr := run_ok (H := H) (most := most) (ks := tameK ks) (want := wantL H (loadL (tameS H l) 8192).2 (tameK ks)) h2 hm1 k1 hks' ((tameK ks).length + 1) _ tab (by omega)
  have hev := run_even (most := most) h1 h2 k1 hks' (by omega) tab hr.ok hr.no
  obtain ⟨ms, L', q, he⟩ := even_ok (most := most) h1 h2 hm1 hm2 hok hf hn hkn hks
  obtain ⟨t1, t2, t3⟩ := tame_tl h1 h2 hok hf hn
  have hmo : ms = (movesL H most (tameK ks) (wantL H (loadL (tameS H l) 8192).2 (tameK ks)) ((tameK ks).length + 1) (loadL (tameS H l) 8192).2).1 := by
    have := he.mo
    unfold movesOf at this
    rw [if_neg (by omega), if_pos lay, Int.toNat_natCast] at this
    injection this with _ this
    exact this.symm
  have hpl : playL (loadL (tameS H l) 8192).2 ms = (0, L') := by
    have := he.pl
    unfold playsL at this
    rw [if_neg (by rw [lay.1]; simp)] at this
    exact this
  have hL' : L' = (movesL H most (tameK ks) (wantL H (loadL (tameS H l) 8192).2 (tameK ks)) ((tameK ks).length + 1) (loadL (tameS H l) 8192).2).2 := by
    have h3 := hr.play
    rw [← hmo, hpl] at h3
    injection h3
  refine ⟨ms, (loadL (tameS H l) 8192).2, L', ⟨q, he⟩, t1, t2, counts_host fun k hk => t3 k (hks' k hk).1 (hks' k hk).2, by rw [← lay.1], tab, hpl, ?_, ?_, ?_, hmo⟩
  · rw [hmo]
    exact fun k hk => st_all2 h2 hm1 k1 hks' _ _ tab k hk
  · intro h hh
    have := hev h hh
    rw [← hL'] at this
    unfold overL
    omega
  · rw [hL']; exact hr.no
end Go.Proofs.Ytpkcccphoolapaa
