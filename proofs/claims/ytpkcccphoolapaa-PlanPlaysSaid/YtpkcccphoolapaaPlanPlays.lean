/- Layer 15: the walk of PlanPlays. -/
import Derived.Test.YtpkcccphoolapaaPlayR
import Derived.Test.YtpkcccphoolapaaSameS
import Derived.Test.YtpkcccphoolapaaPlanC
namespace Go.Proofs.Ytpkcccphoolapaa
open Go.RowKit

theorem infoMove : (Try.prog.info? 62).map (fun i => (i.zero, i.size, i.bytes)) = some (some (.agg #[.int .u8 0, .int .u8 0, .int .u64 0, .int .u64 0, .int .i64 0]), 5, 32) := by kernel_rfl

theorem playL_len (ms : List MoveL) : ∀ (t : List Seg), Rng.WF t → (∀ m ∈ ms, okMove m) → (playL t ms).2.length ≤ t.length + 2 * ms.length := by
  induction ms with
  | nil => intro t _ _; simp [playL]
  | cons m r ih =>
    intro t ht hok
    by_cases h : badMove m ∨ ¬ Rng.ownsAll t m.lo m.hi m.src
    · rw [playL_bad h]; simp
    · have h1 : ¬ badMove m := fun g => h (.inl g)
      have h2 : Rng.ownsAll t m.lo m.hi m.src := Classical.byContradiction fun g => h (.inr g)
      rw [playL_good h1 h2]
      obtain ⟨o1, o2, o3, o4, o5, o6, o7, o8⟩ := hok m (List.mem_cons_self ..)
      have g1 : ¬ m.hi < m.lo := fun g => h1 (.inl g)
      have g3 : ¬ 16 ≤ m.dst := fun g => h1 (.inr (.inr (.inl g)))
      obtain ⟨w1, -, w3⟩ := Rng.withL_spec ht o5 (show m.lo ≤ m.hi by omega) o8 o3 (show m.dst < 16 by omega)
      have := ih _ w1 (fun x hx => hok x (List.mem_cons_of_mem _ hx))
      simp only [List.length_cons]
      omega

theorem playsL_len {l : List Seg} {ms : List MoveL} (hok : ∀ s ∈ l, okSeg s) (hoks : ∀ m ∈ ms, okMove m) : (playsL l ms).2.length ≤ 8192 + 2 * ms.length := by
  unfold playsL
  split
  · simp
  · rename_i h
    have h0 : (Rng.loadL l 8192).1 = 0 := Classical.byContradiction h
    have h1 := playL_len ms _ (loadL_wf hok h0) hoks
    have h2 := loadL_len l
    omega

set_option maxHeartbeats 2000000 in
theorem planPlays_walk (w : World) (A : Option Addr) (n c : Nat) (l : List Seg) (A' : Option Addr) (n' c' : Nat) (ms : List MoveL)
    (hl : l.length = n) (_ : n ≤ c) (_ : c ≤ maxLen) (hok : ∀ s ∈ l, okSeg s) (hbytes : n * 24 ≤ 140737488351232) (hR : Segs w.heap.size w A l)
    (hl' : ms.length = n') (_ : n' ≤ c') (_ : c' ≤ maxLen) (hoks : ∀ m ∈ ms, okMove m) (hbytes' : n' * 32 ≤ 140737488351232) (hR' : Moves w.heap.size w A' ms) :
    Calls Try.prog 5 #[.slice A n c, .slice A' n' c'] w fun e w' => e = .returned (.bool true) ∧ Below w.heap.size w w' := by
  subst hl
  subst hl'
  by_cases g1 : (4096 : Int) < l.length
  · clear hR hR' hok hoks
    go_enter Try.func5, Try.ntmps5
    go_wp2
    go_ret
    exact ⟨rfl, Below.refl _ _⟩
  by_cases g2 : (4096 : Int) < ms.length
  · clear hR hR' hok hoks
    go_enter Try.func5, Try.ntmps5
    go_wp2
    go_ret
    exact ⟨rfl, Below.refl _ _⟩
  have hll := playsL_len hok hoks
  have HO := hid hok
  have HM := hid hoks
  clear hok hoks
  go_enter Try.func5, Try.ntmps5
  go_upto_region 4 with (at_builtin; refine wpList_append_reads _ w.heap.size rfl _ _ 32 67 _ 24 rfl Try.underlying32 infoSeg rfl (by decide) (.slice none 0 0) 0 [] rfl (World.ownsRow_nil _ _ _ _) _ _ _ l rfl rfl hR encSeg_len encSeg_one (by simp only [maxLen]; omega) (by omega) (Nat.le_refl _) ?_; intro v1 w1 hown hg hat)
  have hB1 : Below w.heap.size w w1 := (Below.refl _ _).grown hg (Nat.le_refl _) (by intro k hk; cases hk)
  rw [List.nil_append, Nat.zero_add] at hown
  obtain ⟨_, A1, c1, rfl, _, _, hR1⟩ := owns_reads encSeg_len hown (by decide)
  have hR0 := hR.below hB1
  have hK0 := (hR'.below hB1).mono hB1.size
  clear hown hg hat hR hR'
  go_upto_region 5 with (at_builtin; refine wpList_append_reads _ w1.heap.size rfl _ _ 41 62 _ 32 rfl Try.underlying41 infoMove rfl (by decide) (.slice none 0 0) 0 [] rfl (World.ownsRow_nil _ _ _ _) _ _ _ ms rfl rfl hK0 encMove_len encMove_one (by simp only [maxLen]; omega) (by omega) (Nat.le_refl _) ?_; intro v2 w2 hown hg hat)
  have hB2 : Below w1.heap.size w1 w2 := (Below.refl _ _).grown hg (Nat.le_refl _) (by intro k hk; cases hk)
  rw [List.nil_append, Nat.zero_add] at hown
  obtain ⟨_, A2, c2, rfl, _, _, hK2⟩ := owns_reads encMove_len hown (by decide)
  have hR0' := ((hR0.mono hB1.size).below hB2).mono hB2.size
  have hR1' := (hR1.below hB2).mono hB2.size
  have hK1 := (hK0.below hB2).mono hB2.size
  have hB2' := hB1.trans (hB2.mono hB1.size)
  clear hown hg hat hR0 hR1 hK0
  have h1 := play_any w2 A l.length c l A' ms.length c' ms rfl hbytes HO.out hR0' rfl (by omega) HM.out hK1
  have h2 : ∀ w', Below w2.heap.size w2 w' → _ := fun w' hb => playRef_any w' A1 l.length c1 l A2 ms.length c2 ms rfl hbytes HO.out ((hR1'.below hb).mono hb.size) rfl (by omega) HM.out ((hK2.below hb).mono hb.size)
  have h4 : ∀ w', Below w2.heap.size w2 w' → _ := fun w' hb => sameSegments_any _ _ w' A A1 l.length c l.length c1 l rfl rfl (by omega) ((hR0'.below hb).mono hb.size) ((hR1'.below hb).mono hb.size)
  have h5 : ∀ w', Below w2.heap.size w2 w' → _ := fun w' hb => sameMoves_any _ _ w' A' A2 ms.length c' ms.length c2 ms rfl rfl (by omega) ((hK1.below hb).mono hb.size) ((hK2.below hb).mono hb.size)
  have H2 := hid h2
  have H4 := hid h4
  have H5 := hid h5
  clear h2 h4 h5 hR0' hR1' hK1 hK2 hB1 hB2 HO HM
  generalize playsL l ms = out at *
  obtain ⟨code, li⟩ := out
  simp only at hll h1
  go_wp2_with fail
  refine h1.mono ?_
  rintro e w3 ⟨v3, rfl, hown3, hb3⟩
  obtain ⟨_, A3, c3, rfl, _, _, hR3⟩ := owns_reads encSeg_len hown3 (by decide)
  go_wp2_with fail
  refine (H2.out w3 hb3).mono ?_
  rintro e w4 ⟨v4, rfl, hown4, hb4⟩
  obtain ⟨_, A4, c4, rfl, _, _, hR4⟩ := owns_reads encSeg_len hown4 (by decide)
  have hb24 := hb3.trans (hb4.mono hb3.size)
  have hs := sameSegments_any _ _ w4 A3 A4 li.length c3 li.length c4 li rfl rfl (by omega) ((hR3.below hb4).mono hb4.size) hR4
  clear hown3 hown4 hR3 hR4 h1 hb3 hb4
  go_wp2_with fail
  refine hs.mono ?_
  rintro e w5 ⟨rfl, q5, rfl⟩
  have hb25 := below_drewN' hb24 q5
  go_wp2_with fail
  refine (H4.out _ hb25).mono ?_
  rintro e w6 ⟨rfl, q6, rfl⟩
  have hb26 := below_drewN' hb24 (q5 + q6)
  go_wp2_with fail
  refine (H5.out _ hb26).mono ?_
  rintro e w7 ⟨rfl, q7, rfl⟩
  have hb27 : ∀ q, Below w.heap.size w (w4.drewN q) := fun q => hB2'.trans ((below_drewN' hb24 q).mono hB2'.size)
  have hcc : (code == code) = true := by simp
  go_wp2_with (go_at_call 16; refine (num_any _ _).mono ?_; rintro e w' ⟨rfl, rfl⟩)
  go_ret
  exact ⟨rfl, hb27 _⟩
end Go.Proofs.Ytpkcccphoolapaa
