/- Layer 15: PlanSteps, plain: the tables between the moves. -/
import Derived.Test.YtpkcccphoolapaaEvQ
namespace Go.Proofs.Ytpkcccphoolapaa
open Rng

/-- what lies about the k-th move: the table T ahead of it, T' behind it -/
structure StAt (H : Nat) (l : List Seg) (ms : List MoveL) (k : Nat) (T T' : List Seg) (m : MoveL) (s : Seg) : Prop where
  get : ms[k]? = some m
  pl : playL l (ms.take k) = (0, T)
  pl' : playL l (ms.take (k + 1)) = (0, T')
  ok : TabOk H T
  ok' : TabOk H T'
  len : T.length ≤ l.length + 2 * k
  at' : T[Rng.at' T m.hi]? = some s
  host : s.host = m.src
  hi : s.hi = m.hi
  lo : s.lo ≤ m.lo
  le : m.lo ≤ m.hi
  ne : m.src ≠ m.dst
  dst : 0 ≤ m.dst ∧ m.dst < 16
  lo0 : 0 ≤ m.lo
  hi1 : m.hi ≤ maxK
  lay : T' = withL T m.lo m.hi m.dst
  good : ¬ badMove m
  own : ownsAll T m.lo m.hi m.src
theorem st_all2 {H : Nat} {most : Int} {ks : List Int} {want : Nat → Int} (hH : H ≤ 16) (hm : 1 ≤ most) (hI : Inc ks) (hks : ∀ k ∈ ks, 0 ≤ k ∧ k ≤ maxK) (f : Nat) (l : List Seg) (hl : TabOk H l) (k : Nat) (hk : k < (movesL H most ks want f l).1.length) :
    ∃ T T' m s g t, StAt H l (movesL H most ks want f l).1 k T T' m s ∧ StepOk H most ks want T m T' g t s := by
  induction f generalizing l k with
  | zero => simp [movesL] at hk
  | succ f ih =>
    unfold movesL at hk ⊢
    cases e : moveStep H most ks want l with
    | none => rw [e] at hk; simp at hk
    | some p =>
      obtain ⟨m, l'⟩ := p
      obtain ⟨g, t, s, hs⟩ := moveStep_some hH hm hI hks hl e
      rw [e] at hk
      have c1 := hs.cut.lo0
      have c2 := hs.cut.le
      have c3 := hs.cut.hi
      have c4 := hs.cut.src
      have c5 := hs.cut.dst
      have hsg := hl.wf.seg s hs.mem
      have hg := (best_some hs.gi).1
      have ht := (best_some hs.ti).1
      have hne := hs.ne
      have hb : ¬ badMove m := by unfold badMove; rw [c4, c5]; omega
      have ho : ownsAll l m.lo m.hi m.src := (ownsAll_iff hl.wf (by omega) c2 (by omega) hs.atlo).2 ⟨by rw [c4]; exact hs.host, by omega⟩
      have hpl : ∀ r, playL l (m :: r) = playL l' r := fun r => by
        rw [playL_good hb ho, c5, ← hs.lay]
      cases k with
      | zero =>
        have hat : l[Rng.at' l m.hi]? = some s := by
          obtain ⟨s', a1, a2, a3, _⟩ := at_split hl.wf.tiles (key := m.hi) (by omega) (by omega)
          have hu : s' = s := by
            have hm1 := List.mem_of_getElem? a1
            obtain ⟨i, hi⟩ := List.mem_iff_getElem?.1 hs.mem
            refine Classical.byContradiction fun hn => ?_
            rcases Nat.lt_trichotomy (Rng.at' l m.hi) i with hlt | heq | hgt
            · have := tile_ahead hl.wf.tiles hi s' (List.mem_take_iff_getElem.2 ⟨Rng.at' l m.hi, by have := (List.getElem?_eq_some_iff.1 a1).1; omega, (List.getElem?_eq_some_iff.1 a1).2⟩)
              omega
            · rw [heq] at a1; rw [hi] at a1; injection a1 with a1; exact hn a1.symm
            · have := tile_ahead hl.wf.tiles a1 s (List.mem_take_iff_getElem.2 ⟨i, by have := (List.getElem?_eq_some_iff.1 hi).1; omega, (List.getElem?_eq_some_iff.1 hi).2⟩)
              omega
          rw [← hu]; exact a1
        exact ⟨l, l', m, s, g, t, ⟨rfl, rfl, by rw [List.take_succ_cons, hpl]; rfl, hl, hs.ok, by omega, hat, by rw [c4]; exact hs.host, by omega, c1, c2, by rw [c4, c5]; omega, by rw [c5]; omega, by omega, by omega, by rw [c5]; exact hs.lay, hb, ho⟩, hs⟩
      | succ k =>
        obtain ⟨T, T', m2, s2, g2, t2, h, h2⟩ := ih l' hs.ok k (by simpa using hk)
        refine ⟨T, T', m2, s2, g2, t2, ?_, h2⟩
        obtain ⟨a1, a2, a3, a4, a5, a6, a7, a8, a9, a10, a11, a12, a13, a14, a15, a16, a17, a18⟩ := h
        exact ⟨by simpa using a1, by rw [List.take_succ_cons, hpl]; exact a2, by rw [List.take_succ_cons, hpl]; exact a3, a4, a5, by have := hs.len; omega, a7, a8, a9, a10, a11, a12, a13, a14, a15, a16, a17, a18⟩

theorem st_all {H : Nat} {most : Int} {ks : List Int} {want : Nat → Int} (hH : H ≤ 16) (hm : 1 ≤ most) (hI : Inc ks) (hks : ∀ k ∈ ks, 0 ≤ k ∧ k ≤ maxK) (f : Nat) (l : List Seg) (hl : TabOk H l) (k : Nat) (hk : k < (movesL H most ks want f l).1.length) :
    ∃ T T' m s, StAt H l (movesL H most ks want f l).1 k T T' m s := by
  obtain ⟨T, T', m, s, _, _, h, _⟩ := st_all2 hH hm hI hks f l hl k hk
  exact ⟨T, T', m, s, h⟩

/-- the tables of a tamed layout -/
theorem steps_ok {H : Nat} {most : Int} {l : List Seg} {ks : List Int} (h1 : 1 ≤ H) (h2 : H ≤ 16) (hm1 : 1 ≤ most) (hm2 : most ≤ 32) (hok : ∀ s ∈ l, okSeg s) (hf : (faultL l).2 = 0) (hn : l.length ≤ 4096) (hks : ∀ k ∈ ks, 0 ≤ k ∧ k ≤ maxK) {ms : List MoveL} (hmo : movesOf (H : Int) (tameS H l) (tameK ks) most = (0, ms)) :
    ∃ L0, loadL (tameS H l) 8192 = (0, L0) ∧ TabOk H L0 ∧ L0.length ≤ 4096 ∧ ∀ k, k < ms.length → ∃ T T' m s, StAt H L0 ms k T T' m s := by
  obtain ⟨lay, tab, hl0⟩ := tame_lay h1 h2 hok hf hn ks
  obtain ⟨k1, k2, k3⟩ := tameK_ok ks
  refine ⟨(loadL (tameS H l) 8192).2, by rw [← lay.1], tab, hl0, fun k hk => ?_⟩
  unfold movesOf at hmo
  rw [if_neg (by omega), if_pos lay, Int.toNat_natCast] at hmo
  injection hmo with _ hmo
  subst hmo
  exact st_all h2 hm1 k1 (fun k hk => hks k (k2 k hk)) _ _ tab k hk

/-- one move, played alone -/
theorem StAt.one {H : Nat} {l : List Seg} {ms : List MoveL} {k : Nat} {T T' : List Seg} {m : MoveL} {s : Seg} (h : StAt H l ms k T T' m s) (h8 : (T.length : Int) ≤ 8192) : playsL T [m] = (0, T') := by
  unfold playsL
  rw [load_wf h.ok.wf h8, if_neg (by simp), playL_good h.good h.own, ← h.lay]
  rfl
theorem StAt.owner {H : Nat} {l : List Seg} {ms : List MoveL} {k : Nat} {T T' : List Seg} {m : MoveL} {s : Seg} (h : StAt H l ms k T T' m s) {key : Int} (k0 : 0 ≤ key) (k1 : key ≤ maxK) : hostOf T' key = if m.lo ≤ key ∧ key ≤ m.hi then m.dst else hostOf T key := by
  rw [h.lay]
  exact hostOf_with h.ok.wf h.lo0 h.le h.hi1 h.dst.1 h.dst.2 k0 k1
end Go.Proofs.Ytpkcccphoolapaa
