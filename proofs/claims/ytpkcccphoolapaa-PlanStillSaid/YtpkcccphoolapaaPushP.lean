/- Layer 15: push; the reference's join. -/
import Derived.Test.YtpkcccphoolapaaRngA
namespace Go.Proofs.Ytpkcccphoolapaa
open Go.RowKit

set_option maxHeartbeats 1000000 in
theorem pushP_any (base : Nat) (w : World) (v : Value) (l : List Seg) (s : Seg) (hown : OwnSegs w base v l) (hbase : base ≤ w.heap.size) (hn : l.length ≤ 5864062014700) :
    Calls Try.prog 67 #[v, .agg #[.int .u64 s.lo, .int .u64 s.hi, .int .u8 s.host]] w fun e w' =>
      ∃ v', e = .returned v' ∧ OwnSegs w' base v' (Rng.push l s) ∧ w.grownBy w' v.ownBlock ∧ (v'.ownBlock = v.ownBlock ∨ ∃ b, v'.ownBlock = some b ∧ w.heap.size ≤ b) := by
  rcases Rng.eq_nil_or_snoc l with rfl | ⟨o, p, rfl⟩
  · obtain ⟨_, A, c, rfl, _, _, _⟩ := owns_reads encSeg_len hown (by decide)
    have H := hid hown
    clear hown
    go_enter Try.func67, Try.ntmps67
    go_wp2
    go_quiet (fail)
    go_wp2_with (at_builtin; go_loud (refine wpList_append_one _ base rfl _ _ 32 67 _ 24 rfl Try.underlying32 infoSeg rfl (by decide) encSeg_len encSeg_one (.slice A 0 c) [] s _ rfl rfl _ rfl (by simp) (H.out.alloc _) (by simp only [maxLen]; simp) (by simp) (by simp; omega) ?_); intro v1 w1 hown1 hg hat)
    refine bodyPost_ret (results_tmp rfl _ _ _) rfl ?_
    refine ⟨v1, rfl, hown1, ?_, ?_⟩
    · exact World.grownBy.trans (grown_drewN (World.grownBy_alloc w _ _) _) hg
    · rcases hat with hat | ⟨b, hat, hb⟩
      · exact .inl hat
      · exact .inr ⟨b, hat, by simp at hb; omega⟩
  · have hown0 := hown
    obtain ⟨g, cap, rfl, hbg, hgl⟩ := hown.form (by simp)
    have H := hid hown
    have hc := OwnSegs.at3 hown o.length p (by simp)
    have hc2 := hc.2.2
    have hc1 := hc.2.1
    have hfz := hown.frozenAt (o.length * 3 + 1)
    have hlen : Hid ((o ++ [p]).length = o.length + 1) := by show _ = _; simp
    have hon : o.length ≤ 5864062014700 := by simp at hn; omega
    rw [hlen.out]
    clear hown hown0 hc hn
    have hidx : (o.length : Int) < (o.length : Int) + 1 := by omega
    by_cases hh : p.host = s.host
    · have hhb : (p.host == s.host) = true := by simpa using hh
      have HH := hid hh
      clear hh
      go_enter Try.func67, Try.ntmps67
      go_wp2
      go_quiet (fail)
      go_wp2
      refine bodyPost_ret (results_tmp rfl _ _ _) rfl ?_
      have hs := ((H.out.alloc (.cells #[.int .u64 s.lo, .int .u64 s.hi, .int .u8 s.host] 67)).stored (o.length * 3 + 1) (.int .u64 s.hi)).1
      rw [set_hi] at hs
      refine ⟨_, rfl, ?_, ?_, .inl rfl⟩
      · rw [Rng.push_snoc, if_pos HH.out]
        have e : (o ++ [p]).length = (o ++ [(⟨p.lo, s.hi, p.host⟩ : Seg)]).length := by simp
        rw [e] at hs
        rw [← hlen.out, e]
        exact hs
      · exact grown_setCell (grown_drewN (World.grownBy_alloc w _ _) _) (.inl rfl) _
    · have hhb : (p.host == s.host) = false := by simpa using hh
      have HH := hid hh
      clear hh
      go_enter Try.func67, Try.ntmps67
      go_wp2
      go_quiet (fail)
      have hl3 : (o ++ [p]).length + 1 ≤ maxLen := by rw [hlen.out]; simp only [maxLen]; omega
      have hl4 : ((o ++ [p]).length + 1) * 24 ≤ 140737488355328 := by rw [hlen.out]; omega
      rw [← hlen.out]
      go_wp2_with (at_builtin; go_loud (refine wpList_append_one _ base rfl _ _ 32 67 _ 24 rfl Try.underlying32 infoSeg rfl (by decide) encSeg_len encSeg_one (.slice (some ⟨g, 0, none⟩) (o ++ [p]).length cap) (o ++ [p]) s _ rfl rfl _ rfl (by simp) (H.out.alloc _) hl3 hl4 (by simp; omega) ?_); intro v1 w1 hown1 hg hat)
      refine bodyPost_ret (results_tmp rfl _ _ _) rfl ?_
      refine ⟨v1, rfl, ?_, ?_, ?_⟩
      · rw [Rng.push_snoc, if_neg HH.out]
        exact hown1
      · exact World.grownBy.trans (grown_drewN (World.grownBy_alloc w _ _) _) hg
      · rcases hat with hat | ⟨b, hat, hb⟩
        · exact .inl hat
        · exact .inr ⟨b, hat, by simp at hb; omega⟩

set_option maxHeartbeats 1000000 in
theorem joinP_any (base : Nat) (w : World) (v : Value) (l : List Seg) (s : Seg) (hown : OwnSegs w base v l) (hbase : base ≤ w.heap.size) (hn : l.length ≤ 5864062014700) :
    Calls Try.prog 69 #[v, .agg #[.int .u64 s.lo, .int .u64 s.hi, .int .u8 s.host]] w fun e w' =>
      ∃ v', e = .returned v' ∧ OwnSegs w' base v' (Rng.push l s) ∧ w.grownBy w' v.ownBlock ∧ (v'.ownBlock = v.ownBlock ∨ ∃ b, v'.ownBlock = some b ∧ w.heap.size ≤ b) := by
  rcases Rng.eq_nil_or_snoc l with rfl | ⟨o, p, rfl⟩
  · obtain ⟨_, A, c, rfl, _, _, _⟩ := owns_reads encSeg_len hown (by decide)
    have H := hid hown
    clear hown
    go_enter Try.func69, Try.ntmps69
    go_wp2
    go_quiet (fail)
    go_wp2_with (at_builtin; go_loud (refine wpList_append_one _ base rfl _ _ 32 67 _ 24 rfl Try.underlying32 infoSeg rfl (by decide) encSeg_len encSeg_one (.slice A 0 c) [] s _ rfl rfl _ rfl (by simp) (H.out.alloc _) (by simp only [maxLen]; simp) (by simp) (by simp; omega) ?_); intro v1 w1 hown1 hg hat)
    refine bodyPost_ret (results_tmp rfl _ _ _) rfl ?_
    refine ⟨v1, rfl, hown1, ?_, ?_⟩
    · exact World.grownBy.trans (grown_drewN (World.grownBy_alloc w _ _) _) hg
    · rcases hat with hat | ⟨b, hat, hb⟩
      · exact .inl hat
      · exact .inr ⟨b, hat, by simp at hb; omega⟩
  · have hown0 := hown
    obtain ⟨g, cap, rfl, hbg, hgl⟩ := hown.form (by simp)
    have H := hid hown
    have hc := OwnSegs.at3 hown o.length p (by simp)
    have hc2 := hc.2.2
    have hc1 := hc.2.1
    have hfz := hown.frozenAt (o.length * 3 + 1)
    have hlen : Hid ((o ++ [p]).length = o.length + 1) := by show _ = _; simp
    have hon : o.length ≤ 5864062014700 := by simp at hn; omega
    rw [hlen.out]
    clear hown hown0 hc hn
    have hidx : (o.length : Int) < (o.length : Int) + 1 := by omega
    by_cases hh : p.host = s.host
    · have hhb : (p.host == s.host) = true := by simpa using hh
      have HH := hid hh
      clear hh
      go_enter Try.func69, Try.ntmps69
      go_wp2
      go_quiet (fail)
      go_wp2
      refine bodyPost_ret (results_tmp rfl _ _ _) rfl ?_
      have hs := ((H.out.alloc (.cells #[.int .u64 s.lo, .int .u64 s.hi, .int .u8 s.host] 67)).stored (o.length * 3 + 1) (.int .u64 s.hi)).1
      rw [set_hi] at hs
      refine ⟨_, rfl, ?_, ?_, .inl rfl⟩
      · rw [Rng.push_snoc, if_pos HH.out]
        have e : (o ++ [p]).length = (o ++ [(⟨p.lo, s.hi, p.host⟩ : Seg)]).length := by simp
        rw [e] at hs
        rw [← hlen.out, e]
        exact hs
      · exact grown_setCell (grown_drewN (World.grownBy_alloc w _ _) _) (.inl rfl) _
    · have hhb : (p.host == s.host) = false := by simpa using hh
      have HH := hid hh
      clear hh
      go_enter Try.func69, Try.ntmps69
      go_wp2
      go_quiet (fail)
      have hl3 : (o ++ [p]).length + 1 ≤ maxLen := by rw [hlen.out]; simp only [maxLen]; omega
      have hl4 : ((o ++ [p]).length + 1) * 24 ≤ 140737488355328 := by rw [hlen.out]; omega
      rw [← hlen.out]
      go_wp2_with (at_builtin; go_loud (refine wpList_append_one _ base rfl _ _ 32 67 _ 24 rfl Try.underlying32 infoSeg rfl (by decide) encSeg_len encSeg_one (.slice (some ⟨g, 0, none⟩) (o ++ [p]).length cap) (o ++ [p]) s _ rfl rfl _ rfl (by simp) (H.out.alloc _) hl3 hl4 (by simp; omega) ?_); intro v1 w1 hown1 hg hat)
      refine bodyPost_ret (results_tmp rfl _ _ _) rfl ?_
      refine ⟨v1, rfl, ?_, ?_, ?_⟩
      · rw [Rng.push_snoc, if_neg HH.out]
        exact hown1
      · exact World.grownBy.trans (grown_drewN (World.grownBy_alloc w _ _) _) hg
      · rcases hat with hat | ⟨b, hat, hb⟩
        · exact .inl hat
        · exact .inr ⟨b, hat, by simp at hb; omega⟩
end Go.Proofs.Ytpkcccphoolapaa
