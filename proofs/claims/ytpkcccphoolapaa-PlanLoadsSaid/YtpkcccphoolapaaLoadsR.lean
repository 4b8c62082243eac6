/- Layer 15: the reference's Loads. -/
import Derived.Test.YtpkcccphoolapaaLoads
namespace Go.Proofs.Ytpkcccphoolapaa
open Go.RowKit

set_option maxHeartbeats 2000000 in
theorem loadsRef_any (w : World) (hosts : Int) (A : Option Addr) (n c : Nat) (l : List Seg) (A' : Option Addr) (n' c' : Nat) (ks : List Int) (hl : l.length = n) (hbytes : n * 24 ≤ 140737488351232) (hok : ∀ s ∈ l, okSeg s) (hR : Segs w.heap.size w A l)
    (hl' : ks.length = n') (hbytes' : n' * 8 ≤ 140737488351232) (hks : ∀ k ∈ ks, 0 ≤ k ∧ k ≤ maxK) (hR' : Keys w.heap.size w A' ks) :
    Calls Try.prog 18 #[.int .i64 hosts, .slice A n c, .slice A' n' c'] w fun e w' =>
      ∃ v, e = .returned (.tuple #[v, .int .i64 (loadsL hosts l ks).1]) ∧ OwnInts w' w.heap.size v (loadsL hosts l ks).2.length (loadsL hosts l ks).2 ∧ Below w.heap.size w w' := by
  subst hl
  subst hl'
  by_cases hh : 1 ≤ hosts ∧ hosts ≤ 16
  case neg =>
    have e : Hid (loadsL hosts l ks = (2, [])) := by show _ = _; unfold loadsL; rw [if_pos hh]
    clear hR hR' hks hok
    by_cases h1 : hosts < 1
    · go_enter Try.func18, Try.ntmps18
      go_wp2
      go_ret2
      exact ⟨_, by rw [e.out]; rfl, by rw [e.out]; exact World.ownsRow_nil _ _ _ _, Below.refl _ _⟩
    · have h2 : 16 < hosts := by omega
      go_enter Try.func18, Try.ntmps18
      go_wp2
      go_ret2
      exact ⟨_, by rw [e.out]; rfl, by rw [e.out]; exact World.ownsRow_nil _ _ _ _, Below.refl _ _⟩
  case pos =>
  obtain ⟨H, rfl⟩ : ∃ H : Nat, hosts = (H : Int) := ⟨hosts.toNat, by omega⟩
  have e : Hid (∀ b : Bool, (b = true ↔ LayOk (H : Int) l ks) → loadsL (H : Int) l ks = if b = true then (0, countsOf H (Rng.loadL l 8192).2 ks) else (151, [])) := by
    intro b hb
    unfold loadsL
    rw [if_neg (by omega)]
    cases b with
    | true => rw [if_pos (hb.1 rfl)]; simp
    | false => rw [if_neg (fun h => by have := hb.2 h; cases this)]; simp
  have hla := layoutRef_any w (H : Int) A l.length c l A' ks.length c' ks rfl hbytes hok hR rfl hbytes' hR'
  have hLH : LayOk (H : Int) l ks → Rng.WF (Rng.loadL l 8192).2 ∧ (∀ s ∈ (Rng.loadL l 8192).2, s.host < (H : Int)) ∧ Inc ks := fun h => ⟨loadL_wf hok h.1, h.2.1, h.2.2⟩
  have hln := loadL_len l
  have h1 := hh.1
  have h2 := hh.2
  have HR' := hid hR'
  have HK := hid hks
  have HLH := hid hLH
  clear hR hR' hks hok hh hLH
  generalize LayOk (H : Int) l ks = LO at *
  generalize Rng.loadL l 8192 = ll at *
  obtain ⟨e0, l0⟩ := ll
  simp only at hla hln
  have ELL := hid hla
  clear hla
  have HLN := hid hln
  clear hln
  go_enter Try.func18, Try.ntmps18
  go_wp2_with fail
  refine ELL.out.mono ?_
  rintro e' w1 ⟨v, lm, b, rfl, hb, hown, hb1⟩
  have hE := e.out b hb
  obtain ⟨_, A2, k2, rfl, hk2, _, hR2⟩ := owns_reads encSeg_len hown (by decide)
  cases b with
  | false =>
    have hE2 : Hid (loadsL (H : Int) l ks = (151, [])) := by show _ = _; rw [hE]; simp
    clear hown hb hE hR2
    go_wp2
    go_ret2
    exact ⟨_, by rw [hE2.out]; rfl, by rw [hE2.out]; exact World.ownsRow_nil _ _ _ _, hb1.alloc hb1.size _⟩
  | true =>
    have hE2 : Hid (loadsL (H : Int) l ks = (0, countsOf H l0 ks)) := by show _ = _; rw [hE]; simp
    clear hE
    have HH := hid (HLH.out (hb.1 rfl))
    obtain ⟨X, hX⟩ : ∃ X, X = w1.alloc (.cells #[.int .i64 lm, .slice A2 l0.length k2] 65) := ⟨_, rfl⟩
    have hRX : Row X w1.heap.size [.int .i64 lm, .slice A2 l0.length k2] := by rw [hX]; exact Row.new w1 [.int .i64 lm, .slice A2 l0.length k2] _
    have hB2 : Below w.heap.size w X := by rw [hX]; exact hb1.alloc hb1.size _
    have hR3 : Segs X.heap.size X A2 l0 := by rw [hX]; exact (hR2.below ((Below.refl _ w1).alloc (Nat.le_refl _) _)).mono (by simp)
    have hcn := ownersRef_any X lm A2 l0.length k2 l0 A' ks.length c' ks rfl (by have := HLN.out; omega) hR3 HH.out.1 rfl hbytes' ((HR'.out.below hB2).mono hB2.size) HH.out.2.2 HK.out
    have x0 := hRX.2 0 _ rfl
    have x1 := hRX.2 1 _ rfl
    have HXd := hid hX
    clear hown hb hR2 hR3 hX
    go_upto_if 25 with fail
    rw [← HXd.out]
    go_wp2_with fail
    refine hcn.mono ?_
    rintro e' w2 ⟨v, rfl, hown2, hb2⟩
    obtain ⟨_, A3, k3, rfl, _, _, hR4⟩ := owns_reads i64_len hown2 (by decide)
    have hB3 := hB2.trans (hb2.mono hB2.size)
    have hct := countedRef_any w2 H A3 ks.length k3 (ks.map (hostOf l0)) (by omega) (by simp) (by omega) hR4 (fun x hx => by
      obtain ⟨key, hkm, rfl⟩ := List.mem_map.1 hx
      obtain ⟨k0, k1⟩ := HK.out key hkm
      obtain ⟨s, s1, _⟩ := Rng.at_split HH.out.1.tiles k0 (show key < maxK + 1 by omega)
      rw [hostOf_at s1]
      have hm := List.mem_of_getElem? s1
      exact ⟨(HH.out.1.hosts s hm).1, HH.out.2.1 s hm⟩)
    rw [tally_counts] at hct
    clear hown2 hcn hR4 hRX x0 x1
    go_wp2_with fail
    refine hct.mono ?_
    rintro e' w3 ⟨v, rfl, hown3, hb3⟩
    obtain ⟨_, A4, k4, rfl, _, _, _⟩ := owns_reads i64_len (l := countsOf H l0 ks) (n := H) hown3 (by decide)
    have HO3 := hid hown3
    clear hown3 hct
    go_wp2
    go_ret2
    exact ⟨.slice A4 H k4, by rw [hE2.out]; rfl, by rw [hE2.out, countsOf_len]; exact ownsRow_mono HO3.out hB3.size, hB3.trans (hb3.mono hB3.size)⟩
end Go.Proofs.Ytpkcccphoolapaa
