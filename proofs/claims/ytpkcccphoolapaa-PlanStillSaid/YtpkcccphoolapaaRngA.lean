/- Layer 6: the walks of sort.Search, at, push. -/
import Derived.Test.YtpkcccphoolapaaProg
import Derived.Test.YtpkcccphoolapaaMem
import Derived.Test.YtpkcccphoolapaaRng
namespace Go.Proofs.Ytpkcccphoolapaa
open Go.RowKit

def encSeg (s : Seg) : List Value := [.int .u64 s.lo, .int .u64 s.hi, .int .u8 s.host]
theorem encSeg_len (s : Seg) : (encSeg s).length = 3 := rfl
theorem encSeg_one (s : Seg) : ∀ u ∈ encSeg s, u.oneCell' = true := by intro u hu; simp [encSeg] at hu; rcases hu with rfl | rfl | rfl <;> rfl
theorem infoSeg : (Try.prog.info? 67).map (fun i => (i.zero, i.size, i.bytes)) = some (some (.agg #[.int .u64 0, .int .u64 0, .int .u8 0]), 3, 24) := by kernel_rfl
abbrev Segs (B : Nat) (w : World) (A : Option Addr) (l : List Seg) : Prop := Reads B w encSeg 3 A l
abbrev OwnSegs (w : World) (base : Nat) (v : Value) (l : List Seg) : Prop := w.ownsRow base 67 3 v l.length (l.flatMap encSeg)

theorem Segs.at3 {B : Nat} {w : World} {A : Option Addr} {l : List Seg} (h : Segs B w A l) (i : Nat) (hi : i < l.length) :
    ∃ b off s, Hid (l[i]? = some s) ∧ A = some ⟨b, off, none⟩ ∧ b < B ∧ w.cell? ⟨b, off + i * 3, none⟩ = some (.int .u64 s.lo) ∧ w.cell? ⟨b, off + i * 3 + 1, none⟩ = some (.int .u64 s.hi) ∧ w.cell? ⟨b, off + i * 3 + 2, none⟩ = some (.int .u8 s.host) := by
  obtain ⟨b, off, s, hs, hA, hb, hc⟩ := h.at i hi
  exact ⟨b, off, s, hs, hA, hb, hc 0 _ rfl, hc 1 _ rfl, hc 2 _ rfl⟩

theorem Segs.open' {B : Nat} {w : World} {A : Option Addr} {l : List Seg} (h : Segs B w A l) (hl : 0 < l.length) :
    ∃ b off, A = some ⟨b, off, none⟩ ∧ b < B ∧ ∀ i s, l[i]? = some s → w.cell? ⟨b, off + i * 3, none⟩ = some (.int .u64 s.lo) ∧ w.cell? ⟨b, off + i * 3 + 1, none⟩ = some (.int .u64 s.hi) ∧ w.cell? ⟨b, off + i * 3 + 2, none⟩ = some (.int .u8 s.host) := by
  rcases h with rfl | ⟨b, off, h1, h2, h3⟩
  · simp at hl
  · exact ⟨b, off, h1, h2, fun i s hs => ⟨h3 i s hs 0 _ rfl, h3 i s hs 1 _ rfl, h3 i s hs 2 _ rfl⟩⟩

theorem OwnSegs.at3 {w : World} {base g cap n : Nat} {l : List Seg} (h : w.ownsRow base 67 3 (.slice (some ⟨g, 0, none⟩) n cap) n (l.flatMap encSeg)) (i : Nat) (s : Seg) (hs : l[i]? = some s) :
    w.cell? ⟨g, i * 3, none⟩ = some (.int .u64 s.lo) ∧ w.cell? ⟨g, i * 3 + 1, none⟩ = some (.int .u64 s.hi) ∧ w.cell? ⟨g, i * 3 + 2, none⟩ = some (.int .u8 s.host) := by
  have hc := h.cells (g := g) rfl
  have c0 := hc _ _ (flatMap_get encSeg_len l i s hs 0 _ rfl)
  have c1 := hc _ _ (flatMap_get encSeg_len l i s hs 1 _ rfl)
  have c2 := hc _ _ (flatMap_get encSeg_len l i s hs 2 _ rfl)
  rw [addr_add, Nat.zero_add] at c0 c1 c2
  exact ⟨c0, c1, c2⟩

theorem set_hi (o : List Seg) (p : Seg) (x : Int) : ((o ++ [p]).flatMap encSeg).set (o.length * 3 + 1) (.int .u64 x) = (o ++ [(⟨p.lo, x, p.host⟩ : Seg)]).flatMap encSeg := by
  rw [List.flatMap_append, List.set_append_right _ _ (by rw [flatMap_length encSeg_len]; omega), flatMap_length encSeg_len, List.flatMap_append]
  congr 1
  rw [show o.length * 3 + 1 - o.length * 3 = 1 by omega]
  simp [encSeg]

set_option maxHeartbeats 1000000 in
theorem push_any (base : Nat) (w : World) (v : Value) (l : List Seg) (s : Seg) (hown : OwnSegs w base v l) (hbase : base ≤ w.heap.size) (hn : l.length ≤ 5864062014700) :
    Calls Try.prog 81 #[v, .agg #[.int .u64 s.lo, .int .u64 s.hi, .int .u8 s.host]] w fun e w' =>
      ∃ v', e = .returned v' ∧ OwnSegs w' base v' (Rng.push l s) ∧ w.grownBy w' v.ownBlock ∧ (v'.ownBlock = v.ownBlock ∨ ∃ b, v'.ownBlock = some b ∧ w.heap.size ≤ b) := by
  rcases Rng.eq_nil_or_snoc l with rfl | ⟨o, p, rfl⟩
  · obtain ⟨_, A, c, rfl, _, _, _⟩ := owns_reads encSeg_len hown (by decide)
    have H := hid hown
    clear hown
    go_enter Try.func81, Try.ntmps81
    go_wp2
    go_quiet (fail)
    go_wp2_with (at_builtin; go_loud (refine wpList_append_one _ base rfl _ _ 32 67 _ 24 rfl Try.underlying32 infoSeg rfl (by decide) encSeg_len encSeg_one (.slice A 0 c) [] s _ rfl rfl _ rfl (by simp) (H.out.alloc _) (by simp only [maxLen]; simp) (by simp) (by simp; omega) ?_); intro v1 w1 hown1 hg hat)
    refine bodyPost_ret (results_tmp rfl _ _ _) rfl ?_
    refine ⟨v1, rfl, hown1, ?_, ?_⟩
    · exact World.grownBy.trans (grown_drewN (World.grownBy_alloc w _ _) _) hg
    · rcases hat with hat | ⟨b, hat, hb⟩
      · exact .inl hat
      · exact .inr ⟨b, hat, by simp at hb; omega⟩
  · have hown0 := hown
    obtain ⟨g, cap, rfl, hbg, hgl⟩ := hown.form (by simp)
    have H := hid hown
    have hc := OwnSegs.at3 hown o.length p (by simp)
    have hc2 := hc.2.2
    have hc1 := hc.2.1
    have hfz := hown.frozenAt (o.length * 3 + 1)
    have hlen : Hid ((o ++ [p]).length = o.length + 1) := by show _ = _; simp
    have hon : o.length ≤ 5864062014700 := by simp at hn; omega
    rw [hlen.out]
    clear hown hown0 hc hn
    have hidx : (o.length : Int) < (o.length : Int) + 1 := by omega
    by_cases hh : p.host = s.host
    · have hhb : (p.host == s.host) = true := by simpa using hh
      have HH := hid hh
      clear hh
      go_enter Try.func81, Try.ntmps81
      go_wp2
      go_quiet (fail)
      go_wp2
      refine bodyPost_ret (results_tmp rfl _ _ _) rfl ?_
      have hs := ((H.out.alloc (.cells #[.int .u64 s.lo, .int .u64 s.hi, .int .u8 s.host] 67)).stored (o.length * 3 + 1) (.int .u64 s.hi)).1
      rw [set_hi] at hs
      refine ⟨_, rfl, ?_, ?_, .inl rfl⟩
      · rw [Rng.push_snoc, if_pos HH.out]
        have e : (o ++ [p]).length = (o ++ [(⟨p.lo, s.hi, p.host⟩ : Seg)]).length := by simp
        rw [e] at hs
        rw [← hlen.out, e]
        exact hs
      · exact grown_setCell (grown_drewN (World.grownBy_alloc w _ _) _) (.inl rfl) _
    · have hhb : (p.host == s.host) = false := by simpa using hh
      have HH := hid hh
      clear hh
      go_enter Try.func81, Try.ntmps81
      go_wp2
      go_quiet (fail)
      have hl3 : (o ++ [p]).length + 1 ≤ maxLen := by rw [hlen.out]; simp only [maxLen]; omega
      have hl4 : ((o ++ [p]).length + 1) * 24 ≤ 140737488355328 := by rw [hlen.out]; omega
      rw [← hlen.out]
      go_wp2_with (at_builtin; go_loud (refine wpList_append_one _ base rfl _ _ 32 67 _ 24 rfl Try.underlying32 infoSeg rfl (by decide) encSeg_len encSeg_one (.slice (some ⟨g, 0, none⟩) (o ++ [p]).length cap) (o ++ [p]) s _ rfl rfl _ rfl (by simp) (H.out.alloc _) hl3 hl4 (by simp; omega) ?_); intro v1 w1 hown1 hg hat)
      refine bodyPost_ret (results_tmp rfl _ _ _) rfl ?_
      refine ⟨v1, rfl, ?_, ?_, ?_⟩
      · rw [Rng.push_snoc, if_neg HH.out]
        exact hown1
      · exact World.grownBy.trans (grown_drewN (World.grownBy_alloc w _ _) _) hg
      · rcases hat with hat | ⟨b, hat, hb⟩
        · exact .inl hat
        · exact .inr ⟨b, hat, by simp at hb; omega⟩

theorem foldl_push_len (r o : List Seg) : (r.foldl Rng.push o).length ≤ o.length + r.length := by
  induction r generalizing o with
  | nil => simp
  | cons s r ih => have h1 := ih (Rng.push o s); have h2 := (Rng.push_length o s).1; simp only [List.foldl_cons, List.length_cons]; omega

theorem Tfact {B : Nat} {w w' : World} (h : Below B w w') {a : Addr} {v : Value} (ha : a.block < B) (hc : w.cell? a = some v) : w'.cell? a = some v := (h.cell ha).trans hc

theorem isHost_any (w : World) (x : Int) : Calls Try.prog 80 #[.int .u8 x] w fun e w' => e = .returned (.bool (decide (x < 16))) ∧ w = w' := by
  go_enter Try.func80, Try.ntmps80
  go_wp2
  go_ret
  exact ⟨rfl, rfl⟩

theorem goodLimit_any (w : World) (x : Int) : Calls Try.prog 63 #[.int .i64 x] w fun e w' => e = .returned (.bool (decide (1 ≤ x) && decide (x ≤ 8192))) ∧ w = w' := by
  by_cases h0 : 1 ≤ x
  · go_enter Try.func63, Try.ntmps63
    go_wp2
    go_ret
    exact ⟨ret_bool (by simp [h0]), rfl⟩
  · go_enter Try.func63, Try.ntmps63
    go_wp2
    go_ret
    exact ⟨ret_bool (by simp; omega), rfl⟩

end Go.Proofs.Ytpkcccphoolapaa
