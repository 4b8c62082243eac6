/- Layer 6: grow. -/
import Derived.Test.YtefdbhmjbfpeoaaRngA
import Derived.Test.YtefdbhmjbfpeoaaDiffL
namespace Go.Proofs.Ytefdbhmjbfpeoaa
open Go.RowKit

def encChg (s : Chg) : List Value := [.int .u64 s.lo, .int .u64 s.hi, .int .u8 s.src, .int .u8 s.dst]
theorem encChg_len (s : Chg) : (encChg s).length = 4 := rfl
theorem encChg_one (s : Chg) : ∀ u ∈ encChg s, u.oneCell' = true := by intro u hu; simp [encChg] at hu; rcases hu with rfl | rfl | rfl | rfl <;> rfl
theorem infoChg : (Try.prog.info? 55).map (fun i => (i.zero, i.size, i.bytes)) = some (some (.agg #[.int .u64 0, .int .u64 0, .int .u8 0, .int .u8 0]), 4, 24) := by kernel_rfl
abbrev OwnChgs (w : World) (base : Nat) (v : Value) (l : List Chg) : Prop := w.ownsRow base 55 4 v l.length (l.flatMap encChg)

theorem OwnChgs.at4 {w : World} {base g cap n : Nat} {l : List Chg} (h : w.ownsRow base 55 4 (.slice (some ⟨g, 0, none⟩) n cap) n (l.flatMap encChg)) (i : Nat) (s : Chg) (hs : l[i]? = some s) :
    w.cell? ⟨g, i * 4, none⟩ = some (.int .u64 s.lo) ∧ w.cell? ⟨g, i * 4 + 1, none⟩ = some (.int .u64 s.hi) ∧ w.cell? ⟨g, i * 4 + 2, none⟩ = some (.int .u8 s.src) ∧ w.cell? ⟨g, i * 4 + 3, none⟩ = some (.int .u8 s.dst) := by
  have hc := h.cells (g := g) rfl
  have c0 := hc _ _ (flatMap_get encChg_len l i s hs 0 _ rfl)
  have c1 := hc _ _ (flatMap_get encChg_len l i s hs 1 _ rfl)
  have c2 := hc _ _ (flatMap_get encChg_len l i s hs 2 _ rfl)
  have c3 := hc _ _ (flatMap_get encChg_len l i s hs 3 _ rfl)
  rw [addr_add, Nat.zero_add] at c0 c1 c2 c3
  exact ⟨c0, c1, c2, c3⟩

theorem set_hi4 (o : List Chg) (p : Chg) (x : Int) : ((o ++ [p]).flatMap encChg).set (o.length * 4 + 1) (.int .u64 x) = (o ++ [(⟨p.lo, x, p.src, p.dst⟩ : Chg)]).flatMap encChg := by
  rw [List.flatMap_append, List.set_append_right _ _ (by rw [flatMap_length encChg_len]; omega), flatMap_length encChg_len, List.flatMap_append]
  congr 1
  rw [show o.length * 4 + 1 - o.length * 4 = 1 by omega]
  simp [encChg]

set_option maxRecDepth 100000 in
set_option maxHeartbeats 2000000 in
theorem grow_any (base : Nat) (w : World) (v : Value) (l : List Chg) (s : Chg) (hown : OwnChgs w base v l) (hbase : base ≤ w.heap.size) (hn : l.length ≤ 1000000000) (hh : ∀ p ∈ l, 0 ≤ p.hi ∧ p.hi < maxK) :
    Calls Try.prog 32 #[v, .agg #[.int .u64 s.lo, .int .u64 s.hi, .int .u8 s.src, .int .u8 s.dst]] w fun e w' =>
      ∃ v', e = .returned v' ∧ OwnChgs w' base v' (Rng.grow l s) ∧ w.grownBy w' v.ownBlock ∧ (v'.ownBlock = v.ownBlock ∨ ∃ b, v'.ownBlock = some b ∧ w.heap.size ≤ b) := by
  rcases Rng.eq_nil_or_snoc l with rfl | ⟨o, p, rfl⟩
  · obtain ⟨_, A, c, rfl, _, _, _⟩ := owns_reads encChg_len hown (by decide)
    have H := hid hown
    clear hown hh
    go_enter Try.func32, Try.ntmps32
    go_wp2
    go_quiet (fail)
    go_wp2_with (at_builtin; go_loud (refine wpList_append_one _ base rfl _ _ 51 55 _ 24 rfl Try.underlying51 infoChg rfl (by decide) encChg_len encChg_one (.slice A 0 c) [] s _ rfl rfl _ rfl (by simp) (H.out.alloc _) (by simp only [maxLen]; simp) (by simp) (by simp; omega) ?_); intro v1 w1 hown1 hg hat)
    refine bodyPost_ret (results_tmp rfl _ _ _) rfl ?_
    exact ⟨v1, rfl, hown1, World.grownBy.trans (grown_drewN (World.grownBy_alloc w _ _) _) hg, hat.imp id (fun ⟨bb, e, hbb⟩ => ⟨bb, e, Nat.le_trans (by simp) hbb⟩)⟩
  · have hown0 := hown
    obtain ⟨g, cap, rfl, hbg, hgl⟩ := hown.form (by simp)
    have H := hid hown
    have hc := OwnChgs.at4 hown o.length p (by simp)
    have hc1 := hc.2.1
    have hc2 := hc.2.2.1
    have hc3 := hc.2.2.2
    have hfz := hown.frozenAt (o.length * 4 + 1)
    have hlen : Hid ((o ++ [p]).length = o.length + 1) := by show _ = _; simp
    have hon : o.length ≤ 1000000000 := by simp at hn; omega
    have hp := hh p (by simp)
    have hw : IntKind.u64.wrap (p.hi + 1) = p.hi + 1 := wrap_u64_in (by omega) (by have := maxK_eq; omega)
    rw [hlen.out]
    clear hown hown0 hc hn hh hp
    have hidx : (o.length : Int) < (o.length : Int) + 1 := by omega
    by_cases hg : p.hi + 1 = s.lo ∧ p.src = s.src ∧ p.dst = s.dst
    · have t1 : (p.hi + 1 == s.lo) = true := by simpa using hg.1
      have t2 : (p.src == s.src) = true := by simpa using hg.2.1
      have t3 : (p.dst == s.dst) = true := by simpa using hg.2.2
      have HG := hid hg
      clear hg
      go_enter Try.func32, Try.ntmps32
      go_wp2
      go_quiet (fail)
      go_wp2
      refine bodyPost_ret (results_tmp rfl _ _ _) rfl ?_
      have hs := ((H.out.alloc (.cells #[.int .u64 s.lo, .int .u64 s.hi, .int .u8 s.src, .int .u8 s.dst] 55)).stored (o.length * 4 + 1) (.int .u64 s.hi)).1
      refine ⟨_, rfl, ?_, ?_, .inl rfl⟩
      · rw [Rng.grow_snoc, if_pos HG.out]
        rw [set_hi4] at hs
        have e : (o ++ [p]).length = (o ++ [(⟨p.lo, s.hi, p.src, p.dst⟩ : Chg)]).length := by simp
        rw [e] at hs
        rw [← hlen.out, e]
        exact hs
      · exact grown_setCell (grown_drewN (World.grownBy_alloc w _ _) _) (.inl rfl) _
    · have HG := hid hg
      have hl3 : (o ++ [p]).length + 1 ≤ maxLen := by rw [hlen.out]; simp only [maxLen]; omega
      have hl4 : ((o ++ [p]).length + 1) * 24 ≤ 140737488355328 := by rw [hlen.out]; omega
      have fin : Hid (∀ w1 v1, OwnChgs w1 base v1 (o ++ [p] ++ [s]) → OwnChgs w1 base v1 (Rng.grow (o ++ [p]) s)) := fun w1 v1 h => by rw [Rng.grow_snoc, if_neg HG.out]; exact h
      by_cases e1 : p.hi + 1 = s.lo
      case neg =>
        have t1 : (p.hi + 1 == s.lo) = false := by simpa using e1
        clear e1 hg
        go_enter Try.func32, Try.ntmps32
        go_wp2
        go_quiet (fail)
        rw [← hlen.out]
        go_wp2_with (at_builtin; go_loud (refine wpList_append_one _ base rfl _ _ 51 55 _ 24 rfl Try.underlying51 infoChg rfl (by decide) encChg_len encChg_one (.slice (some ⟨g, 0, none⟩) (o ++ [p]).length cap) (o ++ [p]) s _ rfl rfl _ rfl (by simp) (H.out.alloc _) hl3 hl4 (by simp; omega) ?_); intro v1 w1 hown1 hg hat)
        refine bodyPost_ret (results_tmp rfl _ _ _) rfl ?_
        exact ⟨v1, rfl, fin.out w1 v1 hown1, World.grownBy.trans (grown_drewN (World.grownBy_alloc w _ _) _) hg, hat.imp id (fun ⟨bb, e, hbb⟩ => ⟨bb, e, Nat.le_trans (by simp) hbb⟩)⟩
      case pos =>
      have t1 : (p.hi + 1 == s.lo) = true := by simpa using e1
      by_cases e2 : p.src = s.src
      case neg =>
        have t2 : (p.src == s.src) = false := by simpa using e2
        clear e1 e2 hg
        go_enter Try.func32, Try.ntmps32
        go_wp2
        go_quiet (fail)
        rw [← hlen.out]
        go_wp2_with (at_builtin; go_loud (refine wpList_append_one _ base rfl _ _ 51 55 _ 24 rfl Try.underlying51 infoChg rfl (by decide) encChg_len encChg_one (.slice (some ⟨g, 0, none⟩) (o ++ [p]).length cap) (o ++ [p]) s _ rfl rfl _ rfl (by simp) (H.out.alloc _) hl3 hl4 (by simp; omega) ?_); intro v1 w1 hown1 hg hat)
        refine bodyPost_ret (results_tmp rfl _ _ _) rfl ?_
        exact ⟨v1, rfl, fin.out w1 v1 hown1, World.grownBy.trans (grown_drewN (World.grownBy_alloc w _ _) _) hg, hat.imp id (fun ⟨bb, e, hbb⟩ => ⟨bb, e, Nat.le_trans (by simp) hbb⟩)⟩
      case pos =>
        have t2 : (p.src == s.src) = true := by simpa using e2
        have t3 : (p.dst == s.dst) = false := by simpa using fun e3 => hg ⟨e1, e2, e3⟩
        clear e1 e2 hg
        go_enter Try.func32, Try.ntmps32
        go_wp2
        go_quiet (fail)
        rw [← hlen.out]
        go_wp2_with (at_builtin; go_loud (refine wpList_append_one _ base rfl _ _ 51 55 _ 24 rfl Try.underlying51 infoChg rfl (by decide) encChg_len encChg_one (.slice (some ⟨g, 0, none⟩) (o ++ [p]).length cap) (o ++ [p]) s _ rfl rfl _ rfl (by simp) (H.out.alloc _) hl3 hl4 (by simp; omega) ?_); intro v1 w1 hown1 hg hat)
        refine bodyPost_ret (results_tmp rfl _ _ _) rfl ?_
        exact ⟨v1, rfl, fin.out w1 v1 hown1, World.grownBy.trans (grown_drewN (World.grownBy_alloc w _ _) _) hg, hat.imp id (fun ⟨bb, e, hbb⟩ => ⟨bb, e, Nat.le_trans (by simp) hbb⟩)⟩
end Go.Proofs.Ytefdbhmjbfpeoaa
