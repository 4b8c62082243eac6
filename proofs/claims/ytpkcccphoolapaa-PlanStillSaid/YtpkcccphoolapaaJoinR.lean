/- Layer 6: the reference's join; its Load. -/
import Derived.Test.YtpkcccphoolapaaFaultR
import Derived.Test.YtpkcccphoolapaaList
namespace Go.Proofs.Ytpkcccphoolapaa
open Go.RowKit

theorem snoc_get (o : List Seg) (p : Seg) : (o ++ [p])[o.length]? = some p := by simp

set_option maxHeartbeats 4000000 in
theorem joinRef_any (w : World) (A : Option Addr) (n c : Nat) (l : List Seg) (hl : l.length = n) (hbytes : n * 24 ≤ 140737488351232) (hR : Segs w.heap.size w A l) :
    Calls Try.prog 68 #[.slice A n c] w fun e w' => ∃ v, e = .returned v ∧ OwnSegs w' w.heap.size v (Rng.joinL l) ∧ Below w.heap.size w w' := by
  subst hl
  have HR := hid hR
  clear hR
  go_enter Try.func68, Try.ntmps68
  go_wp2
  go_loopw [3, 4] (fun o i wr => ∃ (k : Nat) (ol : List Seg), k ≤ l.length ∧ i = .int .i64 k ∧ Hid (ol = (l.take k).foldl Rng.push []) ∧ ol.length ≤ k ∧ OwnSegs wr w.heap.size o ol ∧ Below w.heap.size w wr) (fun _ i _ => l.length - (intOf i).toNat)
  case atStart => exact ⟨0, [], Nat.zero_le _, rfl, hid rfl, Nat.le_refl _, World.ownsRow_nil _ _ _ _, Below.refl _ _⟩
  case round =>
    obtain ⟨k, ol, hk, rfl, HOL, hok, hown, hB⟩ := hrel
    by_cases hlt : k < l.length
    · obtain ⟨b, off, s, hs, rfl, hb, c0, c1, c2⟩ := Segs.at3 HR.out k hlt
      have hbr : b < wr.heap.size := Nat.lt_of_lt_of_le hb hB.size
      replace c0 := Tfact hB (a := ⟨b, _, none⟩) hb c0
      replace c1 := Tfact hB (a := ⟨b, _, none⟩) hb c1
      replace c2 := Tfact hB (a := ⟨b, _, none⟩) hb c2
      have hkn : (k : Int) < l.length := by omega
      have HN : Hid (Rng.push ol s = (l.take (k + 1)).foldl Rng.push []) := by
        show _ = _
        rw [List.take_add_one, hs.out, List.foldl_append, ← HOL.out]; rfl
      have hpl := (Rng.push_length ol s).1
      rcases Rng.eq_nil_or_snoc ol with rfl | ⟨o, p, rfl⟩
      · obtain ⟨_, A0, cc, rfl, _, _, _⟩ := owns_reads encSeg_len hown (by decide)
        have H := hid hown
        clear hown
        go_wp2
        go_quiet (fail)
        go_wp2_with (at_builtin; go_loud (refine wpList_append_one _ w.heap.size rfl _ _ 32 67 _ 24 rfl Try.underlying32 infoSeg rfl (by decide) encSeg_len encSeg_one (.slice A0 0 cc) [] s _ rfl rfl _ rfl (by simp) H.out (by simp only [maxLen]; simp) (by simp) (by have := hB.size; simp; omega) ?_); intro v1 w1 hown1 hg hat)
        have hB1 := (below_drewN' hB nq).grown hg (below_drewN' hB nq).size (own_ge H.out)
        go_roundw
        case rel => exact ⟨k + 1, Rng.push [] s, by omega, by go_num, HN, by simp at hpl hok ⊢; omega, hown1, hB1⟩
        case measure => simp [intOf]; omega
      · obtain ⟨g, cap, rfl, hbg, hgl⟩ := hown.form (by simp)
        have H := hid hown
        have hc := OwnSegs.at3 hown o.length p (by simp)
        have hc2 := hc.2.2
        have hc1 := hc.2.1
        have hfz := hown.frozenAt (o.length * 3 + 1)
        have hlen : Hid ((o ++ [p]).length = o.length + 1) := by show _ = _; simp
        have hon : o.length + 1 ≤ k := by rw [← hlen.out]; exact hok
        rw [hlen.out] at hpl
        rw [hlen.out]
        clear hown hc hok
        have hidx : (o.length : Int) < (o.length : Int) + 1 := by omega
        by_cases hh : p.host = s.host
        · have hhb : (p.host == s.host) = true := by simpa using hh
          have HH := hid hh
          clear hh
          go_wp2
          go_quiet (fail)
          go_wp2
          have hs := (H.out.stored (o.length * 3 + 1) (.int .u64 s.hi)).1
          rw [set_hi] at hs
          have e : (o ++ [p]).length = (o ++ [(⟨p.lo, s.hi, p.host⟩ : Seg)]).length := by simp
          rw [e] at hs
          go_roundw
          case rel => exact ⟨k + 1, o ++ [(⟨p.lo, s.hi, p.host⟩ : Seg)], by omega, by go_num, hid (by rw [← HN.out, Rng.push_snoc, if_pos HH.out]), by rw [← e, hlen.out]; omega, by rw [← hlen.out, e]; exact hs, (below_drewN' hB nq).setCell (p := ⟨g, o.length * 3 + 1, none⟩) hbg _⟩
          case measure => simp [intOf]; omega
        · have hhb : (p.host == s.host) = false := by simpa using hh
          have HH := hid hh
          clear hh
          go_wp2
          go_quiet (fail)
          have hl3 : (o ++ [p]).length + 1 ≤ maxLen := by rw [hlen.out]; simp only [maxLen]; omega
          have hl4 : ((o ++ [p]).length + 1) * 24 ≤ 140737488355328 := by rw [hlen.out]; omega
          rw [← hlen.out]
          go_wp2_with (at_builtin; go_loud (refine wpList_append_one _ w.heap.size rfl _ _ 32 67 _ 24 rfl Try.underlying32 infoSeg rfl (by decide) encSeg_len encSeg_one (.slice (some ⟨g, 0, none⟩) (o ++ [p]).length cap) (o ++ [p]) s _ rfl rfl _ rfl (by simp) H.out hl3 hl4 (by have := hB.size; simp; omega) ?_); intro v1 w1 hown1 hg hat)
          have hB1 := (below_drewN' hB nq).grown hg (below_drewN' hB nq).size (own_ge H.out)
          go_roundw
          case rel => exact ⟨k + 1, (o ++ [p]) ++ [s], by omega, by go_num, hid (by rw [← HN.out, Rng.push_snoc, if_neg HH.out]), by rw [List.length_append, hlen.out]; simp; omega, hown1, hB1⟩
          case measure => simp [intOf]; omega
    · obtain rfl : k = l.length := by omega
      go_wp2
      go_ret
      exact ⟨_, rfl, by have := HOL.out; rw [List.take_length] at this; show OwnSegs _ _ _ (l.foldl Rng.push []); rw [← this]; exact hown, hB⟩
end Go.Proofs.Ytpkcccphoolapaa
