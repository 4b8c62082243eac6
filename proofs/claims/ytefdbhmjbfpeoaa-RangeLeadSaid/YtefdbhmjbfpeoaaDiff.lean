/- Layer 6: the walk of Diff. -/
import Derived.Test.YtefdbhmjbfpeoaaGrow
import Derived.Test.YtefdbhmjbfpeoaaTab
import Derived.WalkMore
import Derived.Deep.LoopGhost
import Derived.StillTailTactics
namespace Go.Proofs.Ytefdbhmjbfpeoaa
open Go.RowKit

theorem grow_len (o : List Chg) (c : Chg) : (Rng.grow o c).length ≤ o.length + 1 := by
  rcases Rng.eq_nil_or_snoc o with rfl | ⟨o, p, rfl⟩
  · simp [Rng.grow_nil]
  · rw [Rng.grow_snoc]; split <;> simp

theorem diffGo_cons (s t : Seg) (ra rb : List Seg) (lo : Int) (o : List Chg) {hi : Int} {o' : List Chg} (hh : hi = if t.hi < s.hi then t.hi else s.hi) (ho : o' = if s.host = t.host then o else Rng.grow o ⟨lo, hi, s.host, t.host⟩) :
    Rng.diffGo (s :: ra) (t :: rb) lo o = if hi = maxK then o' else if hi = s.hi ∧ hi < t.hi then Rng.diffGo ra (t :: rb) (hi + 1) o' else if hi = s.hi then Rng.diffGo ra rb (hi + 1) o' else Rng.diffGo (s :: ra) rb (hi + 1) o' := by
  rw [Rng.diffGo]
  subst hh ho
  rfl

theorem grow_hi {o : List Chg} {c p : Chg} (h : p ∈ Rng.grow o c) : p ∈ o ∨ p.hi = c.hi := by
  rcases Rng.eq_nil_or_snoc o with rfl | ⟨o, q, rfl⟩
  · rw [Rng.grow_nil, List.mem_singleton] at h; exact .inr (by rw [h])
  · rw [Rng.grow_snoc] at h
    split at h
    · rcases List.mem_append.1 h with h | h
      · exact .inl (List.mem_append_left _ h)
      · rw [List.mem_singleton] at h; exact .inr (by rw [h])
    · rcases List.mem_append.1 h with h | h
      · exact .inl h
      · rw [List.mem_singleton] at h; exact .inr (by rw [h])

set_option maxRecDepth 100000 in
set_option maxHeartbeats 4000000 in
theorem diff_any (w : World) (T U : Nat) (la lb : Int) (a b : List Seg) (hT : IsTab w T la a) (hU : IsTab w U lb b) (ha : Rng.WF a) (hb : Rng.WF b) (hla : a.length ≤ 100000) (hlb : b.length ≤ 100000) :
    Calls Try.prog 21 #[.pointer (some ⟨T, 0, none⟩), .pointer (some ⟨U, 0, none⟩)] w fun e w' =>
      ∃ v, e = .returned (.tuple #[v, .int .i64 0]) ∧ OwnChgs w' w.heap.size v (Rng.diffL a b) ∧ Below w.heap.size w w' := by
  have hTl := hT.lt
  have hUl := hU.lt
  obtain ⟨b1, f1, c1, t1, _, _, hb1, hR1⟩ := hT.segs
  obtain ⟨b2, f2, c2, t2, _, _, hb2, hR2⟩ := hU.segs
  have HR1 := hid hR1
  have HR2 := hid hR2
  have HA := hid ha
  have HB := hid hb
  have T2 := hid t2
  clear hT hU hR1 hR2 ha hb
  go_enter Try.func21, Try.ntmps21
  go_wp2
  go_step3
  go_wp2
  go_step3
  go_wp2
  have hab : Hid (Rng.diffL a b = Rng.diffGo (a.drop 0) (b.drop 0) 0 []) := by show _ = _; rfl
  go_loopg [6, 7, 8, 23] a.length (fun gx so si sl sk wr => ∃ (k i : Nat) (lo : Int) (o : List Chg), k ≤ a.length ∧ i ≤ b.length ∧ a.length - k ≤ gx ∧ sk = .int .i64 k ∧ si = .int .i64 i ∧ sl = .int .u64 lo ∧ Hid (Rng.diffL a b = Rng.diffGo (a.drop k) (b.drop i) lo o) ∧ OwnChgs wr w.heap.size so o ∧ o.length ≤ k + i ∧ Hid (∀ p ∈ o, 0 ≤ p.hi ∧ p.hi < maxK) ∧ Below w.heap.size w wr)
  case atStart => exact ⟨0, 0, 0, [], Nat.zero_le _, Nat.zero_le _, by omega, rfl, rfl, rfl, hab, World.ownsRow_nil _ _ _ _, Nat.le_refl _, hid (by simp), Below.refl _ _⟩
  case round =>
    obtain ⟨k, i, lo, o, hk, hi, hgx, rfl, rfl, rfl, HD, hown, hol, HP, hB⟩ := hrel
    by_cases hlt : k < a.length
    · obtain ⟨_, _, s, hs, hA1, hbb, d0, d1, d2⟩ := Segs.at3 HR1.out k hlt
      cases hA1
      replace d0 := Tfact hB (a := ⟨b1, _, none⟩) hb1 d0
      replace d1 := Tfact hB (a := ⟨b1, _, none⟩) hb1 d1
      replace d2 := Tfact hB (a := ⟨b1, _, none⟩) hb1 d2
      have hbr : b1 < wr.heap.size := Nat.lt_of_lt_of_le hb1 hB.size
      have hkn : (k : Int) < a.length := by omega
      have hsm := HA.out.seg s (List.mem_of_getElem? hs.out)
      have hdr : Hid (a.drop k = s :: a.drop (k + 1)) := by
        obtain ⟨hk', rfl⟩ := List.getElem?_eq_some_iff.1 hs.out
        exact List.drop_eq_getElem_cons hk'
      have hRow := Row.new wr [.int .u64 s.lo, .int .u64 s.hi, .int .u8 s.host] 40
      have hB1 := hB.alloc hB.size (.cells #[.int .u64 s.lo, .int .u64 s.hi, .int .u8 s.host] 40)
      have hne : (u6 : Value).ownBlock ≠ some wr.heap.size := fun e => absurd ((hown.lt wr.heap.size e).2) (Nat.lt_irrefl _)
      have hown1 := hown.alloc (.cells #[.int .u64 s.lo, .int .u64 s.hi, .int .u8 s.host] 40)
      obtain ⟨NB, hNB⟩ : ∃ NB, NB = wr.heap.size := ⟨_, rfl⟩
      obtain ⟨W1, hW1⟩ : ∃ W1, W1 = wr.alloc (.cells #[.int .u64 s.lo, .int .u64 s.hi, .int .u8 s.host] 40) := ⟨_, rfl⟩
      rw [← hNB, ← hW1] at hRow
      rw [← hNB] at hne
      rw [← hW1] at hB1 hown1
      have HNB := hid hNB
      have HW1 := hid hW1
      have HD2 : Hid (Rng.diffL a b = Rng.diffGo (s :: a.drop (k + 1)) (b.drop i) lo o) := by show _ = _; rw [HD.out, hdr.out]
      clear hNB hW1 hown hB
      go_wp2
      rw [← HW1.out, ← HNB.out]
      go_loopg [6, 7, 8] b.length (fun gy so si sl wr => ∃ (i : Nat) (lo : Int) (o : List Chg), i ≤ b.length ∧ b.length - i ≤ gy ∧ si = .int .i64 i ∧ sl = .int .u64 lo ∧ Hid (Rng.diffL a b = Rng.diffGo (s :: a.drop (k + 1)) (b.drop i) lo o) ∧ OwnChgs wr w.heap.size so o ∧ o.length ≤ k + i ∧ Hid (∀ p ∈ o, 0 ≤ p.hi ∧ p.hi < maxK) ∧ Row wr NB [.int .u64 s.lo, .int .u64 s.hi, .int .u8 s.host] ∧ so.ownBlock ≠ some NB ∧ Below w.heap.size w wr)
      case atStart => exact ⟨i, lo, o, hi, by omega, rfl, rfl, HD2, hown1, hol, HP, hRow, hne, hB1⟩
      case round =>
        clear hol hi
        obtain ⟨i, lo, o, hi, hgy, rfl, rfl, HD, hown, hol, HP, hRow, hne, hB⟩ := hrel
        rename_i wr2 _ _
        have r0 := hRow.2 0 _ rfl
        have r1 := hRow.2 1 _ rfl
        have r2 := hRow.2 2 _ rfl
        have hNBl := hRow.1
        have u1 := Tfact hB hUl T2.out
        by_cases hlt2 : i < b.length
        · obtain ⟨_, _, t, ht, hA2, hbb2, e0, e1, e2⟩ := Segs.at3 HR2.out i hlt2
          cases hA2
          have E1 := hid e1
          replace e0 := Tfact hB (a := ⟨b2, _, none⟩) hb2 e0
          replace e1 := Tfact hB (a := ⟨b2, _, none⟩) hb2 e1
          replace e2 := Tfact hB (a := ⟨b2, _, none⟩) hb2 e2
          have hin : (i : Int) < b.length := by omega
          have htm := HB.out.seg t (List.mem_of_getElem? ht.out)
          obtain ⟨hv, hvx⟩ : ∃ hv, hv = (if t.hi < s.hi then t.hi else s.hi) := ⟨_, rfl⟩
          have HV := hid hvx
          have hv1 : hv ≤ s.hi ∧ hv ≤ t.hi ∧ (hv = s.hi ∨ hv = t.hi) := by rw [hvx]; split <;> omega
          clear hvx
          go_wp2
          go_cut [11] (fun v wc => v = .int .u64 hv ∧ ∃ q, wc = World.drewN _ q)
          case first =>
            by_cases g1 : t.hi < s.hi
            · go_quiet (fail)
              go_wp2_with fail
              go_meet
              exact ⟨by rw [HV.out, if_pos g1], _, rfl⟩
            · go_quiet (fail)
              go_wp2_with fail
              go_meet
              exact ⟨by rw [HV.out, if_neg (by omega)], _, rfl⟩
          case rest =>
          obtain ⟨rfl, q, rfl⟩ := hcut
          have hO2 : Hid (OwnChgs (World.drewN _ q) w.heap.size _ o) := hown
          have hR2 := hRow.drewN q
          have hB2 := below_drewN' hB q
          go_wp2
          have he : ∃ he : Bool, he = (s.host != t.host) := ⟨_, rfl⟩
          obtain ⟨he, hex⟩ := he
          have HEX := hid hex
          have hex2 : (s.host != t.host) = he := hex.symm
          clear hex
          go_cut [57] (fun v wc => v = .bool he ∧ ∃ q2, wc = World.drewN _ q2)
          case first =>
            go_quiet (fail)
            go_wp2_with fail
            go_meet
            exact ⟨by rw [HEX.out], _, rfl⟩
          case rest =>
          obtain ⟨rfl, q2, rfl⟩ := hcut
          go_upto_if 57 with fail
          obtain ⟨o', ho'⟩ : ∃ o', o' = (if s.host = t.host then o else Rng.grow o ⟨lo, hv, s.host, t.host⟩) := ⟨_, rfl⟩
          have HO' := hid ho'
          have hol' : o'.length ≤ k + i + 1 := by
            rw [ho']
            split
            · omega
            · have := grow_len o ⟨lo, hv, s.host, t.host⟩; omega
          clear ho'
          go_cut [6] (fun v wc => OwnChgs wc w.heap.size v o' ∧ Row wc NB [.int .u64 s.lo, .int .u64 s.hi, .int .u8 s.host] ∧ v.ownBlock ≠ some NB ∧ Below w.heap.size w wc)
          case first =>
            cases he with
            | false =>
              have hE : o' = o := by rw [HO'.out, if_pos (by simpa using hex2)]
              have hE2 := hid hE
              clear hE
              go_wp2_with fail
              go_meet
              rw [hE2.out]
              exact ⟨hown, by first | exact hRow.drewN _ | exact (hRow.drewN _).drewN _, hne, by first | exact below_drewN' hB _ | exact below_drewN' (below_drewN' hB _) _⟩
            | true =>
              have hne3 : ¬ s.host = t.host := by simpa using hex2
              have hE2 : Hid (o' = Rng.grow o ⟨lo, hv, s.host, t.host⟩) := by show _ = _; rw [HO'.out, if_neg hne3]
              clear hne3
              go_upto_region 12 with fail
              generalize hWx : World.drewN (World.drewN _ _) _ = Wx
              have x1 : Wx.cell? ⟨U, 1, none⟩ = some (.slice (some ⟨b2, f2, none⟩) b.length c2) := by rw [← hWx]; exact u1
              have x2 : Wx.cell? ⟨NB, 2, none⟩ = some (.int .u8 s.host) := by rw [← hWx]; exact r2
              have x3 : Wx.cell? ⟨b2, f2 + i * 3 + 2, none⟩ = some (.int .u8 t.host) := by rw [← hWx]; exact e2
              have xb : Below w.heap.size w Wx := by rw [← hWx]; exact below_drewN' (below_drewN' hB _) _
              have xo : OwnChgs Wx w.heap.size u6 o := by rw [← hWx]; exact hown
              have xr : Row Wx NB [.int .u64 s.lo, .int .u64 s.hi, .int .u8 s.host] := by rw [← hWx]; exact hRow
              have XB := hid xb
              have XO := hid xo
              have XR := hid xr
              clear hWx xb xo xr u1 r0 r1 r2 e0 e1 e2 hRow hB hown hO2 hR2 hB2
              go_still_tail 14, (by kernel_rfl)
              change wpList _ _ _ _ _ (World.drew Wx)
              have hg := grow_any w.heap.size Wx.drew u6 o ⟨lo, hv, s.host, t.host⟩ XO.out XB.out.size (by omega) HP.out
              have HG := hid hg
              have XB2 := hid (below_drewN' XB.out 1)
              have XR2 : Hid (Row Wx.drew NB [.int .u64 s.lo, .int .u64 s.hi, .int .u8 s.host]) := XR.out
              have HNE := hid hne
              have XO2 := hid (fun bb (e : (u6 : Value).ownBlock = some bb) => (XO.out.lt bb e).1)
              clear hg x1 x2 x3 XB XO XR hne
              generalize hWy : World.drew Wx = Wy
              rw [hWy] at HG
              replace XB2 : Hid (Below w.heap.size w Wy) := by rw [← hWy]; exact XB2.out
              replace XR2 : Hid (Row Wy NB [.int .u64 s.lo, .int .u64 s.hi, .int .u8 s.host]) := by rw [← hWy]; exact XR2.out
              clear hWy
              go_wp2_with fail
              refine HG.out.mono ?_
              rintro e w1 ⟨v', rfl, ho2, hgr, hvb⟩
              have HO2 := hid ho2
              have HGR := hid hgr
              have HVB := hid hvb
              clear ho2 hgr hvb
              go_wp2_with fail
              go_meet
              rw [hE2.out]
              refine ⟨HO2.out, XR2.out.grown HGR.out (fun e => HNE.out e.symm), ?_, XB2.out.grown HGR.out XB2.out.size XO2.out⟩
              rcases HVB.out with e | ⟨bb, e, hbb3⟩
              · rw [e]; exact HNE.out
              · rw [e]; intro e'; cases e'; exact absurd XR2.out.1 (Nat.not_lt.2 hbb3)
          case rest =>
          obtain ⟨hown', hRow', hne', hB'⟩ := hcut
          have HP' : Hid (hv < maxK → ∀ p ∈ o', 0 ≤ p.hi ∧ p.hi < maxK) := by
            intro hlt p hp
            rw [HO'.out] at hp
            split at hp
            · exact HP.out p hp
            · rcases grow_hi hp with hp | hp
              · exact HP.out p hp
              · simp only at hp; omega
          have HD' : Hid (Rng.diffL a b = if hv = maxK then o' else if hv = s.hi ∧ hv < t.hi then Rng.diffGo (a.drop (k + 1)) (b.drop i) (hv + 1) o' else if hv = s.hi then Rng.diffGo (a.drop (k + 1)) (b.drop (i + 1)) (hv + 1) o' else Rng.diffGo (s :: a.drop (k + 1)) (b.drop (i + 1)) (hv + 1) o') := by
            have hdr : b.drop i = t :: b.drop (i + 1) := by
              obtain ⟨hk', rfl⟩ := List.getElem?_eq_some_iff.1 ht.out
              exact List.drop_eq_getElem_cons hk'
            show _ = _
            rw [HD.out, hdr, diffGo_cons s t _ _ lo o HV.out HO'.out]
          have q1 := hRow'.2 1 _ rfl
          have q2 := Tfact hB' hUl T2.out
          have q3 := Tfact hB' (a := ⟨b2, _, none⟩) hbb2 E1.out
          have hOF := hid hown'
          have hRF := hid hRow'
          have hNF := hid hne'
          have hBF := hid hB'
          clear u1 r0 r1 r2 e0 e1 e2 hRow hB hown hO2 hR2 hB2 hne hown' hRow' hne' hB'
          have mk := maxK_eq
          have hv0 : 0 ≤ hv := by omega
          by_cases k1 : hv = 18446744073709551615
          · have b1' : (hv == 18446744073709551615) = true := by simpa using k1
            have hX : Hid (Rng.diffL a b = o') := by show _ = _; rw [HD'.out, if_pos (by rw [mk]; exact k1)]
            clear k1
            obtain ⟨_, A9, c9, rfl, _, _, _⟩ := owns_reads encChg_len hOF.out (by decide)
            go_wp2_with fail
            try rw [Exit.noGoto_ret]
            go_ret2
            exact ⟨_, rfl, by rw [hX.out]; exact hOF.out, hBF.out⟩
          · have b1' : (hv == 18446744073709551615) = false := by simpa using k1
            have hlt' : hv < maxK := by omega
            have hwu : IntKind.u64.wrap (hv + 1) = hv + 1 := wrap_u64_in (by omega) (by omega)
            have hwi : IntKind.i64.wrap ((i : Int) + 1) = (i : Int) + 1 := wrap_small _ (by omega) (by omega)
            have HP2 := hid (HP'.out hlt')
            by_cases k2 : hv = s.hi
            · have b2' : (hv == s.hi) = true := by simpa using k2
              by_cases k3 : hv < t.hi
              · have hX : Hid (Rng.diffL a b = Rng.diffGo (a.drop (k + 1)) (b.drop i) (hv + 1) o') := by show _ = _; rw [HD'.out, if_neg (by omega), if_pos ⟨k2, k3⟩]
                clear k1 k2
                go_wp2_with fail
                go_roundg (a.length - (k + 1))
                case measure => omega
                case rel => exact ⟨k + 1, i, hv + 1, o', by omega, by omega, Nat.le_refl _, by go_num, rfl, by go_num, hX, hOF.out, by omega, HP2, hBF.out⟩
              · have hX : Hid (Rng.diffL a b = Rng.diffGo (a.drop (k + 1)) (b.drop (i + 1)) (hv + 1) o') := by show _ = _; rw [HD'.out, if_neg (by omega), if_neg (fun h => k3 h.2), if_pos k2]
                clear k1 k2
                go_wp2_with fail
                go_roundg (a.length - (k + 1))
                case measure => omega
                case rel => exact ⟨k + 1, i + 1, hv + 1, o', by omega, by omega, Nat.le_refl _, by go_num, by go_num, by go_num, hX, hOF.out, by omega, HP2, hBF.out⟩
            · have b2' : (hv == s.hi) = false := by simpa using k2
              have hX : Hid (Rng.diffL a b = Rng.diffGo (s :: a.drop (k + 1)) (b.drop (i + 1)) (hv + 1) o') := by show _ = _; rw [HD'.out, if_neg (by omega), if_neg (fun h => k2 h.1), if_neg k2]
              clear k1 k2
              go_wp2_with fail
              go_roundg (b.length - (i + 1))
              case measure => omega
              case rel => exact ⟨i + 1, hv + 1, o', by omega, Nat.le_refl _, by go_num, by go_num, hX, hOF.out, by omega, HP2, hRF.out, hNF.out, hBF.out⟩
        · obtain rfl : i = b.length := by omega
          have HX : Hid (Rng.diffL a b = Rng.diffGo (a.drop (k + 1)) (b.drop b.length) lo o) := by show _ = _; rw [HD.out, List.drop_length]; simp [Rng.diffGo]
          go_wp2
          go_roundg (a.length - (k + 1))
          case measure => omega
          case rel => exact ⟨k + 1, b.length, lo, o, by omega, Nat.le_refl _, Nat.le_refl _, by go_num, rfl, rfl, HX, hown, by omega, HP, hB⟩
    · obtain rfl : k = a.length := by omega
      have hX : Hid (Rng.diffL a b = o) := by show _ = _; rw [HD.out, List.drop_length]; simp [Rng.diffGo]
      have HO := hid hown
      obtain ⟨_, A9, c9, rfl, _, _, _⟩ := owns_reads encChg_len hown (by decide)
      clear hown
      go_wp2
      try rw [Exit.noGoto_ret]
      go_ret2
      exact ⟨_, rfl, by rw [hX.out]; exact HO.out, hB⟩
end Go.Proofs.Ytefdbhmjbfpeoaa
