/- Layer 15: Loads, and the reference's. -/
import Derived.Test.YtpkcccphoolapaaCntR
import Derived.Test.YtpkcccphoolapaaLayR
namespace Go.Proofs.Ytpkcccphoolapaa
open Go.RowKit

theorem loadL_wf {l : List Seg} {limit : Int} (hok : ∀ s ∈ l, okSeg s) (h : (Rng.loadL l limit).1 = 0) : Rng.WF (Rng.loadL l limit).2 := by
  unfold Rng.loadL at h ⊢
  split at h
  · simp at h
  · rename_i g1
    rw [if_neg g1]
    split at h
    · rename_i g2; exact absurd h g2
    · rename_i g2
      rw [if_neg g2]
      split at h
      · simp at h
      · rename_i g3
        rw [if_neg g3]
        exact (Rng.joinL_wf hok (Classical.byContradiction g2)).1

theorem loadL_len (l : List Seg) : ((Rng.loadL l 8192).2.length : Int) ≤ 8192 := by
  unfold Rng.loadL
  split
  · simp
  split
  · simp
  split
  · simp
  · simp only; omega

open Classical in
/-- what Loads answers -/
noncomputable def loadsL (hosts : Int) (l : List Seg) (ks : List Int) : Int × List Int :=
  if ¬ (1 ≤ hosts ∧ hosts ≤ 16) then (2, []) else if LayOk hosts l ks then (0, countsOf hosts.toNat (Rng.loadL l 8192).2 ks) else (151, [])

theorem countsOf_len (H : Nat) (l : List Seg) (ks : List Int) : (countsOf H l ks).length = H := by simp [countsOf]

set_option maxHeartbeats 1000000 in
theorem loads_any (w : World) (hosts : Int) (A : Option Addr) (n c : Nat) (l : List Seg) (A' : Option Addr) (n' c' : Nat) (ks : List Int) (hl : l.length = n) (hbytes : n * 24 ≤ 140737488351232) (hok : ∀ s ∈ l, okSeg s) (hR : Segs w.heap.size w A l)
    (hl' : ks.length = n') (hbytes' : n' * 8 ≤ 140737488351232) (hks : ∀ k ∈ ks, 0 ≤ k ∧ k ≤ maxK) (hR' : Keys w.heap.size w A' ks) :
    Calls Try.prog 17 #[.int .i64 hosts, .slice A n c, .slice A' n' c'] w fun e w' =>
      ∃ v, e = .returned (.tuple #[v, .int .i64 (loadsL hosts l ks).1]) ∧ OwnInts w' w.heap.size v (loadsL hosts l ks).2.length (loadsL hosts l ks).2 ∧ Below w.heap.size w w' := by
  subst hl
  subst hl'
  by_cases hh : 1 ≤ hosts ∧ hosts ≤ 16
  case neg =>
    have e : Hid (loadsL hosts l ks = (2, [])) := by show _ = _; unfold loadsL; rw [if_pos hh]
    clear hR hR' hks hok
    by_cases h1 : hosts < 1
    · go_enter Try.func17, Try.ntmps17
      go_wp2
      go_ret2
      exact ⟨_, by rw [e.out]; rfl, by rw [e.out]; exact World.ownsRow_nil _ _ _ _, Below.refl _ _⟩
    · have h2 : 16 < hosts := by omega
      go_enter Try.func17, Try.ntmps17
      go_wp2
      go_ret2
      exact ⟨_, by rw [e.out]; rfl, by rw [e.out]; exact World.ownsRow_nil _ _ _ _, Below.refl _ _⟩
  case pos =>
  obtain ⟨H, rfl⟩ : ∃ H : Nat, hosts = (H : Int) := ⟨hosts.toNat, by omega⟩
  have e : Hid (∀ b : Bool, (b = true ↔ LayOk (H : Int) l ks) → loadsL (H : Int) l ks = if b = true then (0, countsOf H (Rng.loadL l 8192).2 ks) else (151, [])) := by
    intro b hb
    unfold loadsL
    rw [if_neg (by omega)]
    cases b with
    | true => rw [if_pos (hb.1 rfl)]; simp
    | false => rw [if_neg (fun h => by have := hb.2 h; cases this)]; simp
  have hla := layout_any w (H : Int) A l.length c l A' ks.length c' ks rfl hbytes hok hR rfl hbytes' hR'
  have hLH : LayOk (H : Int) l ks → (∀ s ∈ (Rng.loadL l 8192).2, s.host < (H : Int)) ∧ Inc ks := fun h => ⟨h.2.1, h.2.2⟩
  have hln := loadL_len l
  have h1 := hh.1
  have h2 := hh.2
  have HR' := hid hR'
  have HK := hid hks
  have HLH := hid hLH
  clear hR hR' hks hok hh hLH
  generalize LayOk (H : Int) l ks = LO at *
  generalize Rng.loadL l 8192 = ll at *
  obtain ⟨e0, l0⟩ := ll
  simp only at hla hln
  have ELL := hid hla
  clear hla
  have HLN := hid hln
  clear hln
  go_enter Try.func17, Try.ntmps17
  go_wp2_with fail
  refine ELL.out.mono ?_
  rintro e' w1 ⟨v, b, rfl, hb, hown, hwf, hb1⟩
  have hE := e.out b hb
  cases b with
  | false =>
    have hE2 : Hid (loadsL (H : Int) l ks = (151, [])) := by show _ = _; rw [hE]; simp
    clear hown hwf hb hE
    go_wp2
    go_ret2
    exact ⟨_, by rw [hE2.out]; rfl, by rw [hE2.out]; exact World.ownsRow_nil _ _ _ _, hb1⟩
  | true =>
    have hE2 : Hid (loadsL (H : Int) l ks = (0, countsOf H l0 ks)) := by show _ = _; rw [hE]; simp
    clear hE
    have hown := hown rfl
    have HWF := hid (hwf rfl)
    have HH := hid (HLH.out (hb.1 rfl))
    obtain ⟨_, A2, k2, rfl, hk2, _, hR2⟩ := owns_reads encSeg_len hown (by decide)
    have hcn := count_any w1 H A2 l0.length k2 l0 A' ks.length c' ks (by omega) rfl (by have := HLN.out; omega) hR2 HWF.out HH.out.1 rfl hbytes' ((HR'.out.below hb1).mono hb1.size) HH.out.2 HK.out
    clear hown hwf hb hR2
    go_wp2_with fail
    refine hcn.mono ?_
    rintro e' w2 ⟨v, rfl, hown2, hb2⟩
    obtain ⟨_, A3, k3, rfl, _, _, _⟩ := owns_reads i64_len (l := countsOf H l0 ks) (n := H) hown2 (by decide)
    have HO2 := hid hown2
    clear hown2 hcn
    go_wp2
    go_ret2
    exact ⟨.slice A3 H k3, by rw [hE2.out]; rfl, by rw [hE2.out, countsOf_len]; exact ownsRow_mono HO2.out hb1.size, hb1.trans (hb2.mono hb1.size)⟩
end Go.Proofs.Ytpkcccphoolapaa
