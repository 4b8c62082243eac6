/- Layer 15: Play. -/
import Derived.Test.YtpkcccphoolapaaAssignP
import Derived.Test.YtpkcccphoolapaaLoads
namespace Go.Proofs.Ytpkcccphoolapaa
open Go.RowKit

/-- what Play answers -/
noncomputable def playsL (l : List Seg) (ms : List MoveL) : Int × List Seg := if (Rng.loadL l 8192).1 ≠ 0 then (151, []) else playL (Rng.loadL l 8192).2 ms

set_option maxHeartbeats 400000 in
theorem playFn_any (w : World) (B1 B2 b off cap n i : Nat) (lo hi : Int) (hB1 : w.cell? ⟨B1, 0, none⟩ = some (.slice (some ⟨b, off, none⟩) n cap)) (hB2 : w.cell? ⟨B2, 2, none⟩ = some (.int .u64 lo)) (hi' : (i : Int) < n)
    (hc : w.cell? ⟨b, off + i * 3 + 1, none⟩ = some (.int .u64 hi)) :
    Calls Try.prog 48 #[.int .i64 i, .pointer (some ⟨B1, 0, none⟩), .pointer (some ⟨B2, 0, none⟩)] w fun e w' => e = .returned (.bool (decide (lo ≤ hi))) ∧ ∃ q, w' = w.drewN q := by
  go_enter Try.func48, Try.ntmps48
  go_wp2
  go_quiet (fail)
  go_wp2
  go_ret
  exact ⟨rfl, _, rfl⟩

theorem playL_bad {t : List Seg} {m : MoveL} {r : List MoveL} (h : badMove m ∨ ¬ Rng.ownsAll t m.lo m.hi m.src) : playL t (m :: r) = (152, []) := by rw [playL, if_pos h]
theorem playL_good {t : List Seg} {m : MoveL} {r : List MoveL} (h1 : ¬ badMove m) (h2 : Rng.ownsAll t m.lo m.hi m.src) : playL t (m :: r) = playL (Rng.withL t m.lo m.hi m.dst) r := by
  rw [playL, if_neg]
  rintro (h | h)
  · exact h1 h
  · exact h h2

set_option maxRecDepth 100000 in
set_option maxHeartbeats 4000000 in
theorem play_any (w : World) (A : Option Addr) (n c : Nat) (l : List Seg) (A' : Option Addr) (n' c' : Nat) (ms : List MoveL) (hl : l.length = n) (hbytes : n * 24 ≤ 140737488351232) (hok : ∀ s ∈ l, okSeg s) (hR : Segs w.heap.size w A l)
    (hl' : ms.length = n') (hm' : n' ≤ 4096) (hoks : ∀ m ∈ ms, okMove m) (hR' : Moves w.heap.size w A' ms) :
    Calls Try.prog 21 #[.slice A n c, .slice A' n' c'] w fun e w' =>
      ∃ v, e = .returned (.tuple #[v, .int .i64 (playsL l ms).1]) ∧ OwnSegs w' w.heap.size v (playsL l ms).2 ∧ Below w.heap.size w w' := by
  subst hl
  subst hl'
  have hld := load_any w A l.length c l 8192 rfl hbytes hok hR
  have hlen := loadL_len l
  have HPL : Hid (playsL l ms = if (Rng.loadL l 8192).1 ≠ 0 then (151, []) else playL (Rng.loadL l 8192).2 ms) := by show _ = _; rfl
  have HR' := hid hR'
  have HOK := hid hoks
  clear hok hR hR' hoks
  generalize playsL l ms = out at *
  generalize Rng.loadL l 8192 = ll at *
  obtain ⟨e0, l0⟩ := ll
  simp only at hld hlen
  go_enter Try.func21, Try.ntmps21
  go_wp2_with fail
  refine hld.mono ?_
  rintro e' w1 ⟨p, rfl, hb1, hp1, hp0⟩
  by_cases h0 : e0 = 0
  case neg =>
    have hb0 : (e0 != 0) = true := by simpa using h0
    have HE : Hid (out = (151, [])) := by show _ = _; rw [HPL.out]; simp [h0]
    clear h0 hp0 hp1
    go_wp2
    go_ret2
    exact ⟨_, by rw [HE.out]; rfl, by rw [HE.out]; exact World.ownsRow_nil _ _ _ _, hb1⟩
  case pos =>
  subst h0
  obtain ⟨T, rfl, hTw, hT, hWF, _⟩ := hp0 rfl
  have HE : Hid (out = playL l0 ms) := by show _ = _; rw [HPL.out]; simp
  have hli := list_any w1 T 8192 l0 hT hWF (by omega)
  have HWF := hid hWF
  clear hp1 hp0 hT hWF hld HPL
  go_wp2_with fail
  refine hli.mono ?_
  rintro e' w2 ⟨v, rfl, hown, hb2⟩
  have hB2 := hb1.trans (hb2.mono hb1.size)
  have hne2 : v.ownBlock ≠ some w2.heap.size := fun e => absurd ((hown.lt _ e).2) (Nat.lt_irrefl _)
  obtain ⟨g, cap, rfl, hbg, hgl⟩ := hown.form HWF.out.pos
  obtain ⟨W2, hW2⟩ : ∃ W2, W2 = w2.alloc (.cells #[.slice (some ⟨g, 0, none⟩) l0.length cap] 32) := ⟨_, rfl⟩
  obtain ⟨L8, hL8⟩ : ∃ L8, L8 = w2.heap.size := ⟨_, rfl⟩
  have hB3 : Below w.heap.size w W2 := by rw [hW2]; exact hB2.alloc hB2.size _
  have HO3 : Hid (OwnSegs W2 w.heap.size (.slice (some ⟨g, 0, none⟩) l0.length cap) l0) := by rw [hW2]; exact ownsRow_mono (hown.alloc _) hb1.size
  have bx : Boxed W2 L8 32 (.slice (some ⟨g, 0, none⟩) l0.length cap) := by rw [hW2, hL8]; exact Boxed.new w2 _ _
  have hL8w : w.heap.size ≤ L8 := by rw [hL8]; exact hB2.size
  rw [← hL8] at hne2
  have HW2 := hid hW2
  have HL8 := hid hL8
  clear hW2 hL8 hown hb2 hli hbg hgl
  go_upto_region 5 with fail
  rw [← HW2.out, ← HL8.out]
  go_wp2
  go_loopw [23] (fun i wr => ∃ (k : Nat) (t : List Seg) (g cap : Nat), k ≤ ms.length ∧ i = .int .i64 k ∧ Hid (out = playL t (ms.drop k)) ∧ Hid (Rng.WF t) ∧ t.length ≤ 8192 + 2 * k ∧ Hid (Boxed wr L8 32 (.slice (some ⟨g, 0, none⟩) t.length cap)) ∧ Hid (OwnSegs wr w.heap.size (.slice (some ⟨g, 0, none⟩) t.length cap) t) ∧ g ≠ L8 ∧ Below w.heap.size w wr) (fun i _ => ms.length - (intOf i).toNat)
  case atStart => exact ⟨0, l0, g, cap, Nat.zero_le _, rfl, hid (by rw [List.drop_zero]; exact HE.out), HWF, by omega, hid bx, HO3, fun e => hne2 (by rw [← e]; rfl), hB3⟩
  case round =>
    obtain ⟨k, t, g, cap, hk, rfl, HE, HT, htl, HBX, HO, hgL, hB⟩ := hrel
    by_cases hlt : k < ms.length
    · obtain ⟨b, off, m, hm, rfl, hb, c0, c1, c2, c3, c4⟩ := Moves.at5 HR'.out k hlt
      have hbr : b < wr.heap.size := Nat.lt_of_lt_of_le hb hB.size
      replace c0 := Tfact hB (a := ⟨b, _, none⟩) hb c0
      replace c1 := Tfact hB (a := ⟨b, _, none⟩) hb c1
      replace c2 := Tfact hB (a := ⟨b, _, none⟩) hb c2
      replace c3 := Tfact hB (a := ⟨b, _, none⟩) hb c3
      replace c4 := Tfact hB (a := ⟨b, _, none⟩) hb c4
      have hkn : (k : Int) < ms.length := by omega
      have hdr : Hid (ms.drop k = m :: ms.drop (k + 1)) := by
        obtain ⟨hk', rfl⟩ := List.getElem?_eq_some_iff.1 hm.out
        exact List.drop_eq_getElem_cons hk'
      obtain ⟨o1, o2, o3, o4, o5, o6, o7, o8⟩ := HOK.out m (List.mem_of_getElem? hm.out)
      have hB1 := hB.alloc hB.size (.cells #[.int .u8 m.src, .int .u8 m.dst, .int .u64 m.lo, .int .u64 m.hi, .int .i64 m.pairs] 62)
      have BAD : Hid (badMove m ∨ ¬ Rng.ownsAll t m.lo m.hi m.src → out = (152, [])) := fun h => by rw [HE.out, hdr.out, playL_bad h]
      by_cases b1 : m.hi < m.lo
      · have HX := hid (BAD.out (.inl (.inl b1)))
        go_wp2
        go_ret2
        exact ⟨_, by rw [HX.out]; rfl, by rw [HX.out]; exact World.ownsRow_nil _ _ _ _, hB1⟩
      by_cases b2 : 16 ≤ m.src
      · have HX := hid (BAD.out (.inl (.inr (.inl b2))))
        go_wp2
        go_ret2
        exact ⟨_, by rw [HX.out]; rfl, by rw [HX.out]; exact World.ownsRow_nil _ _ _ _, hB1⟩
      by_cases b3 : 16 ≤ m.dst
      · have HX := hid (BAD.out (.inl (.inr (.inr (.inl b3)))))
        go_wp2
        go_ret2
        exact ⟨_, by rw [HX.out]; rfl, by rw [HX.out]; exact World.ownsRow_nil _ _ _ _, hB1⟩
      by_cases b4 : m.src = m.dst
      · have HX := hid (BAD.out (.inl (.inr (.inr (.inr b4)))))
        have b4' : (m.src == m.dst) = true := by simp [b4]
        clear b4
        go_wp2
        go_ret2
        exact ⟨_, by rw [HX.out]; rfl, by rw [HX.out]; exact World.ownsRow_nil _ _ _ _, hB1⟩
      have GOOD : Hid (¬ badMove m) := by rintro (h | h | h | h) <;> omega
      have b4' : (m.src == m.dst) = false := by simpa using b4
      have hlo : m.lo ≤ m.hi := by omega
      obtain ⟨s, s1, s2, s3, -, -, -⟩ := Rng.at_split HT.out.tiles o5 (show m.lo < maxK + 1 by omega)
      have hal := Rng.at_lt HT.out.tiles o5 (show m.lo < maxK + 1 by omega)
      have HIFF := hid (Rng.ownsAll_iff HT.out (x := m.src) o5 hlo o8 s1)
      have HASG := hid (fun X A c hR hne hfh => assignP_any X A t.length c t m.src m.dst m.lo m.hi m.pairs rfl hne (by omega) hR HT.out o5 hlo s s1 hfh)
      have HWS := hid (Rng.withL_spec HT.out o5 hlo o8 o3 (show m.dst < 16 by omega))
      obtain ⟨X1, hX1⟩ : ∃ X1, X1 = wr.alloc (.cells #[.int .u8 m.src, .int .u8 m.dst, .int .u64 m.lo, .int .u64 m.hi, .int .i64 m.pairs] 62) := ⟨_, rfl⟩
      have hRow : Row X1 wr.heap.size [.int .u8 m.src, .int .u8 m.dst, .int .u64 m.lo, .int .u64 m.hi, .int .i64 m.pairs] := by rw [hX1]; exact Row.new wr [.int .u8 m.src, .int .u8 m.dst, .int .u64 m.lo, .int .u64 m.hi, .int .i64 m.pairs] _
      have hBX1 : Boxed X1 L8 32 (.slice (some ⟨g, 0, none⟩) t.length cap) := by rw [hX1]; exact HBX.out.alloc _
      have hO1 : OwnSegs X1 w.heap.size (.slice (some ⟨g, 0, none⟩) t.length cap) t := by rw [hX1]; exact HO.out.alloc _
      rw [← hX1] at hB1
      obtain ⟨NB, hNB⟩ : ∃ NB, NB = wr.heap.size := ⟨_, rfl⟩
      have hLne : L8 < NB := by rw [hNB]; exact HBX.out.lt
      rw [← hNB] at hRow
      have HX1 := hid hX1
      have HNB := hid hNB
      have hNX : NB < X1.heap.size := hRow.1
      have hL8X : L8 < X1.heap.size := by omega
      have hgX : g < X1.heap.size := by have := hO1.lt g rfl; exact this.2
      have eg : ∀ args w, (callFunc 48 args).run Try.prog w = .ok (.enter 48 args) w := enters_fn Try.func48 (by kernel_rfl) rfl
      have hSR : ∀ X, Below X1.heap.size X1 X → _ := fun X hX => searchSegs_any 48 #[.pointer (some ⟨L8, 0, none⟩), .pointer (some ⟨NB, 0, none⟩)] X t m.lo eg (by omega) (fun q i s hs => by
        have hi := (List.getElem?_eq_some_iff.1 hs).1
        exact playFn_any (X.drewN q) L8 NB g 0 cap t.length i m.lo s.hi ((hX.cell (by show L8 < _; omega)).trans hBX1.cell) ((hX.cell (by show NB < _; omega)).trans (hRow.2 2 _ rfl)) (by omega) (by rw [Nat.zero_add]; exact (hX.cell (by show g < _; omega)).trans (OwnSegs.at3 hO1 i s hs).2.1)) HT.out.tiles
      have HSR := hid hSR
      have S1 := hid s1
      obtain ⟨e0, e1, e2⟩ := OwnSegs.at3 hO1 _ s s1
      have bc := hBX1.cell
      obtain hr := hRow.2
      have r0 := hr 0 _ rfl
      have r1 := hr 1 _ rfl
      have r2 := hr 2 _ rfl
      have r3 := hr 3 _ rfl
      have r4 := hr 4 _ rfl
      have hali : ((Rng.at' t m.lo : Nat) : Int) < t.length := by omega
      clear hX1 hNB hSR eg s1 hr
      generalize Rng.at' t m.lo = at0 at *
      go_upto_region 10 with fail
      rw [← HX1.out, ← HNB.out]
      have ad : ∀ (W : World) j o, (W.drewN j).alloc o = (W.alloc o).drewN j := fun _ _ _ => rfl
      have sd : ∀ (W : World) j x v, (W.drewN j).setCell x v = (W.setCell x v).drewN j := fun _ _ _ _ => rfl
      have KP := hid (show ∀ w', Below X1.heap.size X1 w' → w'.cell? ⟨L8, 0, none⟩ = some (.slice (some ⟨g, 0, none⟩) t.length cap) ∧ w'.cell? ⟨g, at0 * 3, none⟩ = some (.int .u64 s.lo) ∧ w'.cell? ⟨g, at0 * 3 + 1, none⟩ = some (.int .u64 s.hi) ∧ w'.cell? ⟨g, at0 * 3 + 2, none⟩ = some (.int .u8 s.host) ∧ Below X1.heap.size X1 w' from
        fun w' hb => ⟨(hb.cell hL8X).trans bc, (hb.cell hgX).trans e0, (hb.cell hgX).trans e1, (hb.cell hgX).trans e2, hb⟩)
      go_cut [11] (fun v wc => v = .pointer (some ⟨X1.heap.size, 0, none⟩) ∧ Row wc X1.heap.size [.int .u64 s.lo, .int .u64 s.hi, .int .u8 s.host] ∧ Below X1.heap.size X1 wc)
      case first =>
        have hbx := Below.refl X1.heap.size X1
        go_region_held3 (fun w' => w'.cell? ⟨L8, 0, none⟩ = some (.slice (some ⟨g, 0, none⟩) t.length cap) ∧ w'.cell? ⟨g, at0 * 3, none⟩ = some (.int .u64 s.lo) ∧ w'.cell? ⟨g, at0 * 3 + 1, none⟩ = some (.int .u64 s.hi) ∧ w'.cell? ⟨g, at0 * 3 + 2, none⟩ = some (.int .u8 s.host) ∧ Below X1.heap.size X1 w')
          (first | (refine KP.out _ ?_; repeat' (first | assumption | exact Below.refl _ _ | refine Below.drew ?_ | refine below_drewN' ?_ _ | refine Below.alloc ?_ ?_ _ | refine Below.setCell ?_ ?_ _ | exact Nat.le_refl _ | exact Below.size (by assumption) | (simp; done) | (simp; omega))))
          (first
            | (go_simp; with_reducible refine (HSR.out _ (by repeat' (first | assumption | exact Below.refl _ _ | refine Below.drew ?_ | refine below_drewN' ?_ _ | refine Below.alloc ?_ ?_ _ | exact Nat.le_refl _ | exact Below.size (by assumption)))).mono ?_; rintro e w' ⟨rfl, q, rfl⟩))
        all_goals go_wp2_with fail
        all_goals go_meet
        all_goals refine ⟨rfl, ?_, ?_⟩
        all_goals first
          | exact Row.new X1 [.int .u64 s.lo, .int .u64 s.hi, .int .u8 s.host] 67
          | exact ((Below.refl X1.heap.size X1).alloc (Nat.le_refl _) _)
          | exact ((Below.refl X1.heap.size X1).alloc (Nat.le_refl _) _).drew
          | exact below_drewN' ((Below.refl X1.heap.size X1).alloc (Nat.le_refl _) _) _
      case rest =>
      obtain ⟨rfl, hR11, hB11⟩ := hcut
      have n0 := (hB11.cell (p := ⟨NB, 0, none⟩) hNX).trans r0
      have n1 := (hB11.cell (p := ⟨NB, 1, none⟩) hNX).trans r1
      have n2 := (hB11.cell (p := ⟨NB, 2, none⟩) hNX).trans r2
      have n3 := (hB11.cell (p := ⟨NB, 3, none⟩) hNX).trans r3
      have n4 := (hB11.cell (p := ⟨NB, 4, none⟩) hNX).trans r4
      have x0 := hR11.2 0 _ rfl
      have x1 := hR11.2 1 _ rfl
      have x2 := hR11.2 2 _ rfl
      have hbw : Boxed wc L8 32 (.slice (some ⟨g, 0, none⟩) t.length cap) := (hB11.block L8 hL8X).trans hBX1
      have bcw := hbw.cell
      have hOw : OwnSegs wc w.heap.size (.slice (some ⟨g, 0, none⟩) t.length cap) t := hO1.kept (grown_below hB11 none) (.inr (by simp [Value.ownBlock]))
      have hBw := hB1.trans (hB11.mono hB1.size)
      have hszw := hB11.size
      have HOw := hid hOw
      have HBw := hid hbw
      clear r0 r1 r2 r3 r4 e0 e1 e2 bc hO1 hBX1 hRow hR11 hOw hbw hB1 c0 c1 c2 c3 c4
      by_cases d1 : s.host = m.src
      case neg =>
        have hdb : (s.host != m.src) = true := by simpa using d1
        have HX := hid (BAD.out (.inr (fun h => d1 (HIFF.out.1 h).1)))
        clear d1
        go_wp2
        go_ret2
        exact ⟨_, by rw [HX.out]; rfl, by rw [HX.out]; exact World.ownsRow_nil _ _ _ _, hBw⟩
      case pos =>
      have hdb : (s.host != m.src) = false := by simp [d1]
      by_cases d2 : s.hi < m.hi
      · have HX := hid (BAD.out (.inr (fun h => absurd (HIFF.out.1 h).2 (by omega))))
        clear d1
        go_wp2
        go_ret2
        exact ⟨_, by rw [HX.out]; rfl, by rw [HX.out]; exact World.ownsRow_nil _ _ _ _, hBw⟩
      have HG := hid (HE.out.trans (by rw [hdr.out, playL_good GOOD.out (HIFF.out.2 ⟨d1, by omega⟩)]))
      obtain ⟨_, A9, c9, e9, hc9, _, hR9⟩ := owns_reads encSeg_len HOw.out (by decide)
      cases e9
      have hA := HASG.out wc (some ⟨g, 0, none⟩) cap hR9 hc9 (by omega) (by rw [d1]; omega)
      obtain ⟨wf9, -, ln9⟩ := HWS.out
      have WF9 := hid wf9
      have hpos9 := wf9.pos
      clear d1 wf9 hR9
      generalize Rng.withL t m.lo m.hi m.dst = t9 at *
      go_wp2_with fail
      refine hA.mono ?_
      rintro e w4 ⟨v4, rfl, hown4, hb4⟩
      obtain ⟨g4, cap4, rfl, hbg4, hgl4⟩ := hown4.form hpos9
      have hbx4 : Boxed w4 L8 32 (.slice (some ⟨g, 0, none⟩) t.length cap) := (hb4.block L8 (by omega)).trans HBw.out
      have bc4 := hbx4.cell
      have bf4 := hbx4.frozen
      have hB4 := hBw.trans (hb4.mono hBw.size)
      have hset := hbx4.set (.slice (some ⟨g4, 0, none⟩) t9.length cap4)
      have HST := hid hset
      have hOs := hown4.kept (grownBy_setCell' w4 L8 (.slice (some ⟨g4, 0, none⟩) t9.length cap4)) (.inr (fun e => by have := Option.some.inj e; simp at this; omega))
      have HOS := hid (ownsRow_mono hOs hBw.size)
      clear hset hOs hown4 hbx4 hA n0 n1 n2 n3 n4 x0 x1 x2 bcw
      go_wp2
      go_roundw
      case rel => exact ⟨k + 1, t9, g4, cap4, by omega, by go_num, HG, WF9, by omega, HST, HOS, by omega, hB4.setCell (p := ⟨L8, 0, none⟩) hL8w _⟩
      case measure => simp [intOf]; omega
    · obtain rfl : k = ms.length := by omega
      have HX : Hid (out = (0, t)) := by show _ = _; rw [HE.out, List.drop_length]; rfl
      have hbc := HBX.out.cell
      have hL8r := HBX.out.lt
      go_wp2
      go_ret2
      exact ⟨_, by rw [HX.out]; rfl, by rw [HX.out]; exact HO.out, hB⟩
end Go.Proofs.Ytpkcccphoolapaa
