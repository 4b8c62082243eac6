/- The walk of PlanMoves. -/
import Derived.Test.YtpkcccphoolapaaMvF
import Derived.Test.YtpkcccphoolapaaMvR
import Derived.Test.YtpkcccphoolapaaSameS
import Derived.Test.YtpkcccphoolapaaPlanC
import Derived.Test.YtpkcccphoolapaaTam
namespace Go.Proofs.Ytpkcccphoolapaa
open Go.RowKit

theorem movesL_len {H : Nat} {most : Int} {ks : List Int} {want : Nat → Int} (f : Nat) (l : List Seg) : (movesL H most ks want f l).1.length ≤ f := by
  induction f generalizing l with
  | zero => simp [movesL]
  | succ f ih =>
    unfold movesL
    cases moveStep H most ks want l with
    | none => simp
    | some p => have := ih p.2; simp; omega
theorem movesOf_len {hosts : Int} {l : List Seg} {ks : List Int} {most : Int} : (movesOf hosts l ks most).2.length ≤ ks.length + 1 := by
  unfold movesOf
  split
  · simp
  · split
    · exact movesL_len _ _
    · simp

set_option maxHeartbeats 2000000 in
theorem planMoves_walk (w : World) (hosts : Int) (A : Option Addr) (n c : Nat) (l : List Seg) (A' : Option Addr) (n' c' : Nat) (ks : List Int) (most : Int) (_ : (Lit.int .i64 hosts).wf = true)
    (hl : l.length = n) (_ : n ≤ c) (_ : c ≤ maxLen) (hok : ∀ s ∈ l, okSeg s) (hbytes : n * 24 ≤ 140737488351232) (hR : Segs w.heap.size w A l)
    (hl' : ks.length = n') (_ : n' ≤ c') (_ : c' ≤ maxLen) (hks : ∀ x ∈ ks, (Lit.int .u64 x).wf = true) (hbytes' : n' * 8 ≤ 140737488351232) (hR' : Keys w.heap.size w A' ks) (_ : (Lit.int .i64 most).wf = true) :
    Calls Try.prog 7 #[.int .i64 hosts, .slice A n c, .slice A' n' c', .int .i64 most] w fun e w' => e = .returned (.bool true) ∧ Below w.heap.size w w' := by
  subst hl
  subst hl'
  by_cases g1 : (4096 : Int) < l.length
  · clear hR hR' hok hks
    go_enter Try.func7, Try.ntmps7
    go_wp2
    go_ret
    exact ⟨rfl, Below.refl _ _⟩
  by_cases g2 : (4096 : Int) < ks.length
  · clear hR hR' hok hks
    go_enter Try.func7, Try.ntmps7
    go_wp2
    go_ret
    exact ⟨rfl, Below.refl _ _⟩
  have hks2 : ∀ k ∈ ks, 0 ≤ k ∧ k ≤ maxK := fun k hk => by
    have := hks k hk
    simp [Lit.wf, IntKind.min, IntKind.max, IntKind.signed, IntKind.bits] at this
    rw [maxK_eq]; omega
  have hll := movesOf_len (hosts := hosts) (l := l) (ks := ks) (most := most)
  have HO := hid hok
  have HM := hid hks2
  clear hok hks hks2
  go_enter Try.func7, Try.ntmps7
  go_upto_region 4 with (at_builtin; refine wpList_append_reads _ w.heap.size rfl _ _ 32 67 _ 24 rfl Try.underlying32 infoSeg rfl (by decide) (.slice none 0 0) 0 [] rfl (World.ownsRow_nil _ _ _ _) _ _ _ l rfl rfl hR encSeg_len encSeg_one (by simp only [maxLen]; omega) (by omega) (Nat.le_refl _) ?_; intro v1 w1 hown hg hat)
  have hB1 : Below w.heap.size w w1 := (Below.refl _ _).grown hg (Nat.le_refl _) (by intro k hk; cases hk)
  rw [List.nil_append, Nat.zero_add] at hown
  obtain ⟨_, A1, c1, rfl, _, _, hR1⟩ := owns_reads encSeg_len hown (by decide)
  have hR0 := hR.below hB1
  have hK0 := (hR'.below hB1).mono hB1.size
  clear hown hg hat hR hR'
  go_upto_region 5 with (at_builtin; refine wpList_append_reads _ w1.heap.size rfl _ _ 33 59 _ 8 rfl Try.underlying33 infoU64 rfl (by decide) (.slice none 0 0) 0 [] rfl (World.ownsRow_nil _ _ _ _) _ _ _ ks rfl rfl hK0 encKey_len encKey_one (by simp only [maxLen]; omega) (by omega) (Nat.le_refl _) ?_; intro v2 w2 hown hg hat)
  have hB2 : Below w1.heap.size w1 w2 := (Below.refl _ _).grown hg (Nat.le_refl _) (by intro k hk; cases hk)
  rw [List.nil_append, Nat.zero_add] at hown
  obtain ⟨_, A2, c2, rfl, _, _, hK2⟩ := owns_reads encKey_len hown (by decide)
  have hR0' := ((hR0.mono hB1.size).below hB2).mono hB2.size
  have hR1' := (hR1.below hB2).mono hB2.size
  have hK1 := (hK0.below hB2).mono hB2.size
  have hB2' := hB1.trans (hB2.mono hB1.size)
  clear hown hg hat hR0 hR1 hK0
  have h1 := moves_any w2 hosts A l.length c l A' ks.length c' ks most rfl hbytes HO.out hR0' rfl (by omega) HM.out hK1
  have h2 : ∀ w', Below w2.heap.size w2 w' → _ := fun w' hb => movesRef_any w' hosts A1 l.length c1 l A2 ks.length c2 ks most rfl hbytes HO.out ((hR1'.below hb).mono hb.size) rfl (by omega) HM.out ((hK2.below hb).mono hb.size)
  have h4 : ∀ w', Below w2.heap.size w2 w' → _ := fun w' hb => sameSegments_any _ _ w' A A1 l.length c l.length c1 l rfl rfl (by omega) ((hR0'.below hb).mono hb.size) ((hR1'.below hb).mono hb.size)
  have h5 : ∀ w', Below w2.heap.size w2 w' → _ := fun w' hb => sameKeys_any _ _ w' A' A2 ks.length c' ks.length c2 ks rfl rfl (by omega) ((hK1.below hb).mono hb.size) ((hK2.below hb).mono hb.size)
  have H2 := hid h2
  have H4 := hid h4
  have H5 := hid h5
  clear h2 h4 h5 hR0' hR1' hK1 hK2 hB1 hB2 HO HM
  generalize movesOf hosts l ks most = out at *
  obtain ⟨code, li⟩ := out
  simp only at hll h1
  go_wp2_with fail
  refine h1.mono ?_
  rintro e w3 ⟨v3, rfl, hown3, hb3⟩
  obtain ⟨_, A3, c3, rfl, _, _, hR3⟩ := owns_reads encMove_len hown3 (by decide)
  go_wp2_with fail
  refine (H2.out w3 hb3).mono ?_
  rintro e w4 ⟨v4, rfl, hown4, hb4⟩
  obtain ⟨_, A4, c4, rfl, _, _, hR4⟩ := owns_reads encMove_len hown4 (by decide)
  have hb24 := hb3.trans (hb4.mono hb3.size)
  have hs := sameMoves_any _ _ w4 A3 A4 li.length c3 li.length c4 li rfl rfl (by omega) ((hR3.below hb4).mono hb4.size) hR4
  clear hown3 hown4 hR3 hR4 h1 hb3 hb4
  go_wp2_with fail
  refine hs.mono ?_
  rintro e w5 ⟨rfl, q5, rfl⟩
  have hb25 := below_drewN' hb24 q5
  go_wp2_with fail
  refine (H4.out _ hb25).mono ?_
  rintro e w6 ⟨rfl, q6, rfl⟩
  have hb26 := below_drewN' hb24 (q5 + q6)
  go_wp2_with fail
  refine (H5.out _ hb26).mono ?_
  rintro e w7 ⟨rfl, q7, rfl⟩
  have hb27 : ∀ q, Below w.heap.size w (w4.drewN q) := fun q => hB2'.trans ((below_drewN' hb24 q).mono hB2'.size)
  have hcc : (code == code) = true := by simp
  go_wp2_with (go_at_call 16; refine (num_any _ _).mono ?_; rintro e w' ⟨rfl, rfl⟩)
  go_ret
  exact ⟨rfl, hb27 _⟩
end Go.Proofs.Ytpkcccphoolapaa
