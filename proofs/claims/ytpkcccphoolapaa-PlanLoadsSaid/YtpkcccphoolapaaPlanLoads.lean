/- Layer 15: the walk of PlanLoads. -/
import Derived.Test.YtpkcccphoolapaaLoadsR
import Derived.Test.YtpkcccphoolapaaSameS
import Derived.Test.YtpkcccphoolapaaPlanC
namespace Go.Proofs.Ytpkcccphoolapaa
open Go.RowKit

theorem infoKey : (Try.prog.info? 59).map (fun i => (i.zero, i.size, i.bytes)) = some (some (.int .u64 0), 1, 8) := by kernel_rfl
theorem encKey_one (x : Int) : ∀ u ∈ encKey x, u.oneCell' = true := by intro u hu; simp [encKey] at hu; subst hu; rfl

set_option maxHeartbeats 2000000 in
theorem planLoads_walk (w : World) (hosts : Int) (A : Option Addr) (n c : Nat) (l : List Seg) (A' : Option Addr) (n' c' : Nat) (ks : List Int) (_ : (Lit.int .i64 hosts).wf = true)
    (hl : l.length = n) (_ : n ≤ c) (_ : c ≤ maxLen) (hok : ∀ s ∈ l, okSeg s) (hbytes : n * 24 ≤ 140737488351232) (hR : Segs w.heap.size w A l)
    (hl' : ks.length = n') (_ : n' ≤ c') (_ : c' ≤ maxLen) (hks : ∀ x ∈ ks, (Lit.int .u64 x).wf = true) (hbytes' : n' * 8 ≤ 140737488351232) (hR' : Keys w.heap.size w A' ks) :
    Calls Try.prog 4 #[.int .i64 hosts, .slice A n c, .slice A' n' c'] w fun e w' => e = .returned (.bool true) ∧ Below w.heap.size w w' := by
  subst hl
  subst hl'
  have hk2 : ∀ k ∈ ks, 0 ≤ k ∧ k ≤ maxK := fun k hk => by have := hks k hk; rw [maxK_eq]; simpa [Lit.wf, IntKind.min, IntKind.max, IntKind.signed, IntKind.bits] using this
  have HK := hid hk2
  have HO := hid hok
  clear hk2 hks hok
  go_enter Try.func4, Try.ntmps4
  go_upto_region 2 with (at_builtin; refine wpList_append_reads _ w.heap.size rfl _ _ 32 67 _ 24 rfl Try.underlying32 infoSeg rfl (by decide) (.slice none 0 0) 0 [] rfl (World.ownsRow_nil _ _ _ _) _ _ _ l rfl rfl hR encSeg_len encSeg_one (by simp only [maxLen]; omega) (by omega) (Nat.le_refl _) ?_; intro v1 w1 hown hg hat)
  have hB1 : Below w.heap.size w w1 := (Below.refl _ _).grown hg (Nat.le_refl _) (by intro k hk; cases hk)
  rw [List.nil_append, Nat.zero_add] at hown
  obtain ⟨_, A1, c1, rfl, _, _, hR1⟩ := owns_reads encSeg_len hown (by decide)
  have hR0 := hR.below hB1
  have hK0 := (hR'.below hB1).mono hB1.size
  clear hown hg hat hR hR'
  go_upto_region 3 with (at_builtin; refine wpList_append_reads _ w1.heap.size rfl _ _ 33 59 _ 8 rfl Try.underlying33 infoKey rfl (by decide) (.slice none 0 0) 0 [] rfl (World.ownsRow_nil _ _ _ _) _ _ _ ks rfl rfl hK0 encKey_len encKey_one (by simp only [maxLen]; omega) (by omega) (Nat.le_refl _) ?_; intro v2 w2 hown hg hat)
  have hB2 : Below w1.heap.size w1 w2 := (Below.refl _ _).grown hg (Nat.le_refl _) (by intro k hk; cases hk)
  rw [List.nil_append, Nat.zero_add] at hown
  obtain ⟨_, A2, c2, rfl, _, _, hK2⟩ := owns_reads encKey_len hown (by decide)
  have hR0' := ((hR0.mono hB1.size).below hB2).mono hB2.size
  have hR1' := (hR1.below hB2).mono hB2.size
  have hK1 := (hK0.below hB2).mono hB2.size
  have hB2' := hB1.trans (hB2.mono hB1.size)
  clear hown hg hat hR0 hR1 hK0
  have h1 := loads_any w2 hosts A l.length c l A' ks.length c' ks rfl hbytes HO.out hR0' rfl hbytes' HK.out hK1
  have h2 : ∀ w', Below w2.heap.size w2 w' → _ := fun w' hb => loadsRef_any w' hosts A1 l.length c1 l A2 ks.length c2 ks rfl hbytes HO.out ((hR1'.below hb).mono hb.size) rfl hbytes' HK.out ((hK2.below hb).mono hb.size)
  have h4 : ∀ w', Below w2.heap.size w2 w' → _ := fun w' hb => sameSegments_any _ _ w' A A1 l.length c l.length c1 l rfl rfl (by omega) ((hR0'.below hb).mono hb.size) ((hR1'.below hb).mono hb.size)
  have h5 : ∀ w', Below w2.heap.size w2 w' → _ := fun w' hb => sameKeys_any _ _ w' A' A2 ks.length c' ks.length c2 ks rfl rfl (by omega) ((hK1.below hb).mono hb.size) ((hK2.below hb).mono hb.size)
  have H2 := hid h2
  have H4 := hid h4
  have H5 := hid h5
  clear h2 h4 h5 hR0' hR1' hK1 hK2 hB1 hB2 HO HK
  have hll : (loadsL hosts l ks).2.length ≤ 1000000 := by
    unfold loadsL
    split
    · simp
    · split
      · rw [countsOf_len]; omega
      · simp
  generalize loadsL hosts l ks = out at *
  obtain ⟨code, li⟩ := out
  simp only at hll h1
  go_wp2_with fail
  refine h1.mono ?_
  rintro e w3 ⟨v3, rfl, hown3, hb3⟩
  obtain ⟨_, A3, c3, rfl, _, _, hR3⟩ := owns_reads i64_len hown3 (by decide)
  go_wp2_with fail
  refine (H2.out w3 hb3).mono ?_
  rintro e w4 ⟨v4, rfl, hown4, hb4⟩
  obtain ⟨_, A4, c4, rfl, _, _, hR4⟩ := owns_reads i64_len hown4 (by decide)
  have hb24 := hb3.trans (hb4.mono hb3.size)
  have hs := sameInts_any w4.heap.size w4 A3 A4 li.length c3 li.length c4 li li rfl rfl (by omega) (by omega) ((hR3.below hb4).mono hb4.size) hR4
  have hl1 : decide (li = li) = true := by simp
  rw [hl1] at hs
  clear hl1 hown3 hown4 hR3 hR4 h1 hb3 hb4
  go_wp2_with fail
  refine hs.mono ?_
  rintro e w5 ⟨rfl, q5, rfl⟩
  have hb25 := below_drewN' hb24 q5
  go_wp2_with fail
  refine (H4.out _ hb25).mono ?_
  rintro e w6 ⟨rfl, q6, rfl⟩
  have hb26 := below_drewN' hb24 (q5 + q6)
  go_wp2_with fail
  refine (H5.out _ hb26).mono ?_
  rintro e w7 ⟨rfl, q7, rfl⟩
  have hb27 : ∀ q, Below w.heap.size w (w4.drewN q) := fun q => hB2'.trans ((below_drewN' hb24 q).mono hB2'.size)
  have hcc : (code == code) = true := by simp
  go_wp2_with (go_at_call 16; refine (num_any _ _).mono ?_; rintro e w' ⟨rfl, rfl⟩)
  go_ret
  exact ⟨rfl, hb27 _⟩
end Go.Proofs.Ytpkcccphoolapaa
