/- Layer 15: the reference's Play. -/
import Derived.Test.YtpkcccphoolapaaPlayP
import Derived.Test.YtpkcccphoolapaaCutR
import Derived.Test.YtpkcccphoolapaaOwnsR
namespace Go.Proofs.Ytpkcccphoolapaa
open Go.RowKit

set_option maxRecDepth 100000 in
set_option maxHeartbeats 4000000 in
theorem playRef_any (w : World) (A : Option Addr) (n c : Nat) (l : List Seg) (A' : Option Addr) (n' c' : Nat) (ms : List MoveL) (hl : l.length = n) (hbytes : n * 24 ≤ 140737488351232) (hok : ∀ s ∈ l, okSeg s) (hR : Segs w.heap.size w A l)
    (hl' : ms.length = n') (hm' : n' ≤ 4096) (hoks : ∀ m ∈ ms, okMove m) (hR' : Moves w.heap.size w A' ms) :
    Calls Try.prog 22 #[.slice A n c, .slice A' n' c'] w fun e w' =>
      ∃ v, e = .returned (.tuple #[v, .int .i64 (playsL l ms).1]) ∧ OwnSegs w' w.heap.size v (playsL l ms).2 ∧ Below w.heap.size w w' := by
  subst hl
  subst hl'
  have hld := loadRef_any w A l.length c l 8192 rfl hbytes hR
  have hwf : (Rng.loadL l 8192).1 = 0 → Rng.WF (Rng.loadL l 8192).2 := fun h => loadL_wf hok h
  have hlen := loadL_len l
  have HPL : Hid (playsL l ms = if (Rng.loadL l 8192).1 ≠ 0 then (151, []) else playL (Rng.loadL l 8192).2 ms) := by show _ = _; rfl
  have HR' := hid hR'
  have HOK := hid hoks
  clear hok hR hR' hoks
  generalize playsL l ms = out at *
  generalize Rng.loadL l 8192 = ll at *
  obtain ⟨e0, l0⟩ := ll
  simp only at hld hlen
  have HWFF := hid hwf
  clear hwf
  go_enter Try.func22, Try.ntmps22
  go_wp2_with fail
  refine hld.mono ?_
  rintro e' w1 ⟨v, lm, rfl, hown, -, hb1⟩
  obtain ⟨_, A2, k2, rfl, hk2, _, hR2⟩ := owns_reads encSeg_len hown (by decide)
  by_cases h0 : e0 = 0
  case neg =>
    have hb0 : (e0 != 0) = true := by simpa using h0
    have HE : Hid (out = (151, [])) := by show _ = _; rw [HPL.out]; simp [h0]
    clear h0 hown hR2
    go_wp2
    go_ret2
    exact ⟨_, by rw [HE.out]; rfl, by rw [HE.out]; exact World.ownsRow_nil _ _ _ _, hb1.alloc hb1.size _⟩
  case pos =>
  subst h0
  have hWF := HWFF.out (by first | rfl | trivial)
  have HE : Hid (out = playL l0 ms) := by show _ = _; rw [HPL.out]; simp
  have HWF := hid hWF
  clear hWF HPL HWFF hR2
  have hO1 : Hid (OwnSegs (w1.alloc (.cells #[.int .i64 lm, .slice A2 l0.length k2] 65)) w.heap.size (.slice A2 l0.length k2) l0) := hown.alloc _
  have hB1 := hb1.alloc hb1.size (.cells #[.int .i64 lm, .slice A2 l0.length k2] 65)
  clear hown
  go_wp2
  go_loopw [8, 9] (fun lv i wr => ∃ (k : Nat) (t : List Seg), k ≤ ms.length ∧ i = .int .i64 k ∧ Hid (out = playL t (ms.drop k)) ∧ Hid (Rng.WF t) ∧ t.length ≤ 8192 + 2 * k ∧ OwnSegs wr w.heap.size lv t ∧ Below w.heap.size w wr) (fun _ i _ => ms.length - (intOf i).toNat)
  case atStart => exact ⟨0, l0, Nat.zero_le _, rfl, hid (by rw [List.drop_zero]; exact HE.out), HWF, by omega, hO1.out, hB1⟩
  case round =>
    obtain ⟨k, t, hk, rfl, HE, HT, htl, hown, hB⟩ := hrel
    obtain ⟨_, A3, k3, rfl, hk3, _, hR3⟩ := owns_reads encSeg_len hown (by decide)
    by_cases hlt : k < ms.length
    · obtain ⟨b, off, m, hm, rfl, hb, c0, c1, c2, c3, c4⟩ := Moves.at5 HR'.out k hlt
      have hbr : b < wr.heap.size := Nat.lt_of_lt_of_le hb hB.size
      replace c0 := Tfact hB (a := ⟨b, _, none⟩) hb c0
      replace c1 := Tfact hB (a := ⟨b, _, none⟩) hb c1
      replace c2 := Tfact hB (a := ⟨b, _, none⟩) hb c2
      replace c3 := Tfact hB (a := ⟨b, _, none⟩) hb c3
      replace c4 := Tfact hB (a := ⟨b, _, none⟩) hb c4
      have hkn : (k : Int) < ms.length := by omega
      have hdr : Hid (ms.drop k = m :: ms.drop (k + 1)) := by
        obtain ⟨hk', rfl⟩ := List.getElem?_eq_some_iff.1 hm.out
        exact List.drop_eq_getElem_cons hk'
      obtain ⟨o1, o2, o3, o4, o5, o6, o7, o8⟩ := HOK.out m (List.mem_of_getElem? hm.out)
      have BAD : Hid (badMove m ∨ ¬ Rng.ownsAll t m.lo m.hi m.src → out = (152, [])) := fun h => by rw [HE.out, hdr.out, playL_bad h]
      obtain ⟨X1, hX1⟩ : ∃ X1, X1 = wr.alloc (.cells #[.int .u8 m.src, .int .u8 m.dst, .int .u64 m.lo, .int .u64 m.hi, .int .i64 m.pairs] 62) := ⟨_, rfl⟩
      have hRow : Row X1 wr.heap.size [.int .u8 m.src, .int .u8 m.dst, .int .u64 m.lo, .int .u64 m.hi, .int .i64 m.pairs] := by rw [hX1]; exact Row.new wr [.int .u8 m.src, .int .u8 m.dst, .int .u64 m.lo, .int .u64 m.hi, .int .i64 m.pairs] _
      have hBX : Below w.heap.size w X1 := by rw [hX1]; exact hB.alloc hB.size _
      have hOX : OwnSegs X1 w.heap.size (.slice A3 t.length k3) t := by rw [hX1]; exact hown.alloc _
      have hRX : Segs X1.heap.size X1 A3 t := by rw [hX1]; exact (hR3.below ((Below.refl _ wr).alloc (Nat.le_refl _) _)).mono (by simp)
      have hOwn := ownsRef_any X1 0 A3 t.length k3 t m.lo m.hi m.src rfl (by omega) hRX HT.out.pos
      obtain ⟨NB, hNB⟩ : ∃ NB, NB = wr.heap.size := ⟨_, rfl⟩
      rw [← hNB] at hRow
      have HX1 := hid hX1
      have HNB := hid hNB
      have r0 := hRow.2 0 _ rfl
      have r1 := hRow.2 1 _ rfl
      have r2 := hRow.2 2 _ rfl
      have r3 := hRow.2 3 _ rfl
      have r4 := hRow.2 4 _ rfl
      clear hown hR3 hX1 hNB hB
      go_upto_region 9 with fail
      rw [← HX1.out, ← HNB.out]
      go_wp2_with fail
      refine hOwn.mono ?_
      rintro e w4 ⟨bo, rfl, hbo, hb4⟩
      have HBO := hid hbo
      have hRow4 := hRow.below hb4
      have hB4 := hBX.trans (hb4.mono hBX.size)
      have hR4 := (hRX.below hb4).mono hb4.size
      clear hbo hb4 hRow hBX hOX hRX r0 r1 r2 r3 r4 c0 c1 c2 c3 c4 hOwn
      have r0 := hRow4.2 0 _ rfl
      have r1 := hRow4.2 1 _ rfl
      have r2 := hRow4.2 2 _ rfl
      have r3 := hRow4.2 3 _ rfl
      have r4 := hRow4.2 4 _ rfl
      by_cases b1 : m.hi < m.lo
      · have HX := hid (BAD.out (.inl (.inl b1)))
        go_wp2
        go_ret2
        exact ⟨_, by rw [HX.out]; rfl, by rw [HX.out]; exact World.ownsRow_nil _ _ _ _, hB4⟩
      by_cases b2 : 15 < m.src
      · have HX := hid (BAD.out (.inl (.inr (.inl (by omega)))))
        go_wp2
        go_ret2
        exact ⟨_, by rw [HX.out]; rfl, by rw [HX.out]; exact World.ownsRow_nil _ _ _ _, hB4⟩
      by_cases b3 : 15 < m.dst
      · have HX := hid (BAD.out (.inl (.inr (.inr (.inl (by omega))))))
        go_wp2
        go_ret2
        exact ⟨_, by rw [HX.out]; rfl, by rw [HX.out]; exact World.ownsRow_nil _ _ _ _, hB4⟩
      by_cases b4 : m.src = m.dst
      · have HX := hid (BAD.out (.inl (.inr (.inr (.inr b4)))))
        have b4' : (m.src == m.dst) = true := by simp [b4]
        clear b4
        go_wp2
        go_ret2
        exact ⟨_, by rw [HX.out]; rfl, by rw [HX.out]; exact World.ownsRow_nil _ _ _ _, hB4⟩
      have GOOD : Hid (¬ badMove m) := by rintro (h | h | h | h) <;> omega
      have b4' : (m.src == m.dst) = false := by simpa using b4
      have hlo : m.lo ≤ m.hi := by omega
      cases bo with
      | false =>
        have HX := hid (BAD.out (.inr (fun h => by have := HBO.out.2 ⟨hlo, h⟩; cases this)))
        clear b4
        go_wp2
        go_ret2
        exact ⟨_, by rw [HX.out]; rfl, by rw [HX.out]; exact World.ownsRow_nil _ _ _ _, hB4⟩
      | true =>
        have HOA := hid (HBO.out.1 rfl).2
        obtain ⟨s, s1, s2, s3, -, -, -⟩ := Rng.at_split HT.out.tiles o5 (show m.lo < maxK + 1 by omega)
        have hsp := (Rng.ownsAll_iff HT.out (x := m.src) o5 hlo o8 s1).1 HOA.out
        have hcs := Rng.cut_spec HT.out o5 hlo o3 (show m.dst < 16 by omega) s1 hsp.2
        have hws := Rng.withL_spec HT.out o5 hlo o8 o3 (show m.dst < 16 by omega)
        have hct := cutRef_any w4 A3 t.length k3 t m.lo m.hi m.dst rfl (by omega) hR4 HT.out o5 o8 hlo
        rw [hcs] at hct
        have HG := hid (HE.out.trans (by rw [hdr.out, playL_good GOOD.out HOA.out]))
        obtain ⟨wf9, -, ln9⟩ := hws
        have WF9 := hid wf9
        clear b4 hcs s1 hsp wf9 hR4
        generalize Rng.withL t m.lo m.hi m.dst = t9 at *
        go_wp2_with fail
        refine hct.mono ?_
        rintro e w5 ⟨v5, rfl, hown5, hb5⟩
        have hB5 := hB4.trans (hb5.mono hB4.size)
        have HO5 := hid (ownsRow_mono hown5 hB4.size)
        clear hown5 hb5 hct hRow4 r0 r1 r2 r3 r4
        go_wp2_with fail
        go_roundw
        case rel => exact ⟨k + 1, t9, by omega, by go_num, HG, WF9, by omega, HO5.out, hB5⟩
        case measure => simp [intOf]; omega
    · obtain rfl : k = ms.length := by omega
      have HX : Hid (out = (0, t)) := by show _ = _; rw [HE.out, List.drop_length]; rfl
      have HOO := hid hown
      clear hown hR3
      go_wp2
      go_ret2
      exact ⟨_, by rw [HX.out]; rfl, by rw [HX.out]; exact HOO.out, hB⟩
end Go.Proofs.Ytpkcccphoolapaa
