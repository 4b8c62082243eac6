/- Layer 7: the walk of StorePlaces. -/
import Derived.Test.YtfjeagffdijcoaaPlaA
import Derived.Test.YtfjeagffdijcoaaTsO
namespace Go.Proofs.Ytfjeagffdijcoaa
open Go.RowKit Go.Shelf

theorem wrote_ge {S : Nat → Prop} {w0 w w' : World} (h : Below w0.heap.size w0 w) (k : Wrote S w w') (hs : ∀ x, S x → w0.heap.size ≤ x) : Below w0.heap.size w0 w' := h.trans (k.toBelow' h.size hs)

theorem neq_first {ws : List ByteArray} {x : ByteArray} {i : Nat} {bh f : Bool} (h1 : bh = true ↔ ∃ j : Nat, j < i ∧ ws[j]? = some x) (h2 : f = true ↔ ∀ j : Nat, j < i → ws[j]? ≠ some x) : (bh == f) = false := by
  cases bh with
  | true =>
    obtain ⟨j, hj, hw⟩ := h1.1 rfl
    cases f with
    | true => exact absurd hw (h2.1 rfl j hj)
    | false => rfl
  | false =>
    cases f with
    | true => rfl
    | false =>
      have : ∀ j : Nat, j < i → ws[j]? ≠ some x := fun j hj hw => by have := h1.2 ⟨j, hj, hw⟩; cases this
      have := h2.2 this
      cases this

set_option maxRecDepth 100000 in
set_option maxHeartbeats 8000000 in
theorem storePlaces_walk (w : World) (A : Option Addr) (n c : Nat) (ws : List ByteArray) (A' : Option Addr) (n' c' : Nat) (os : List ByteArray)
    (hl : ws.length = n) (_ : n ≤ c) (_ : c ≤ maxLen) (_ : ∀ x ∈ ws, x.size ≤ maxLen) (hn : n * 16 ≤ 140737488351232) (hR : Reads w.heap.size w encS 1 A ws)
    (hl' : os.length = n') (_ : n' ≤ c') (_ : c' ≤ maxLen) (_ : ∀ x ∈ os, x.size ≤ maxLen) (hn' : n' * 16 ≤ 140737488351232) (hR' : Reads w.heap.size w encS 1 A' os) :
    Calls Try.prog 10 #[.slice A n c, .slice A' n' c'] w fun e w' => e = .returned (.bool true) ∧ Below w.heap.size w w' := by
  subst hl
  subst hl'
  obtain ⟨B0, hB0⟩ : ∃ B0, B0 = w.heap.size := ⟨_, rfl⟩
  have HR : Hid (Strs B0 w A ws) := by show Strs B0 w A ws; rw [hB0]; exact hR
  have HR' : Hid (Strs B0 w A' os) := by show Strs B0 w A' os; rw [hB0]; exact hR'
  have HB0 := hid hB0
  clear hR hR' hB0
  go_enter Try.func10, Try.ntmps10
  go_wp2_with fail
  refine (TS.newOrdered_any w).mono ?_
  rintro e w1 ⟨rfl, hM, hb⟩
  obtain ⟨M, hMe⟩ : ∃ M, M = w.heap.size := ⟨_, rfl⟩
  rw [← hMe] at hM ⊢
  have HME := hid hMe
  have HM := hid hM
  have HB := hid hb
  clear hM hb hMe
  go_wp2_with fail
  go_loopg [6] ws.length (fun gx si wr => ∃ (i : Nat) (T : Tr ByteArray Int), si = .int .i64 i ∧ i ≤ ws.length ∧ ws.length - i ≤ gx ∧ T.many ≤ i ∧ Hid (TS.IsMap wr M 99 #[] T) ∧ Hid (Up TS.cmpS T.pairs) ∧
    Hid (∀ k v, (k, v) ∈ T.pairs → ∃ j : Nat, j < i ∧ v = (j : Int) ∧ ws[j]? = some k) ∧ Hid (∀ (j : Nat) k, j < i → ws[j]? = some k → ∃ v, (k, v) ∈ T.pairs) ∧ Hid (Below w.heap.size w wr) ∧ Hid (∀ x ∈ T.blocks, w.heap.size ≤ x))
  case atStart => exact ⟨0, .nil, rfl, Nat.zero_le _, Nat.le_refl _, Nat.le_refl _, HM, List.Pairwise.nil, fun k v h => (by cases h), fun j k h => (by omega), HB, fun x h => (by cases h)⟩
  case round =>
    clear HM HB
    obtain ⟨i, T, rfl, hi, hg, hmi, HT, HU, HA1, HA2, HBr, HX⟩ := hrel
    have hwi : IntKind.i64.wrap ((i : Int) + 1) = (i : Int) + 1 := wrap_small _ (by omega) (by omega)
    by_cases hlt : i < ws.length
    · have hii : (i : Int) < (ws.length : Int) := by omega
      obtain ⟨b, off, x, hx, rfl, hb, hc0⟩ := HR.out.at' i hlt
      have hb0 := HB0.out
      have hbW : Below B0 w wr := by rw [hb0]; exact HBr.out
      have hc := (hbW.cell (p := ⟨b, _, none⟩) hb).trans hc0
      have HPUT := hid (TS.mapPut_any 99 #[] TS.cmpS (fun _ => True) (fun _ => False) TS.cmp_fn wr M T x (i : Int) HT.out (by omega) trivial (fun _ _ => id) id)
      clear hb0
      go_wp2_with fail
      refine HPUT.out.mono ?_
      rintro e w2 ⟨nb, g1, rfl, g2, g3, -⟩
      have hB2 : Below w.heap.size w w2 := wrote_ge HBr.out g3 (by
        rintro y (rfl | hy)
        · have := HME.out; omega
        · exact HX.out y hy)
      have hU2 : Up TS.cmpS (Tr.put TS.cmpS x (i : Int) nb T).pairs := by rw [Tr.put_pairs TS.cmpS_ord _ _ _ HU.out]; exact putL_up TS.cmpS_ord _ _ HU.out
      have hX2 : ∀ y ∈ (Tr.put TS.cmpS x (i : Int) nb T).blocks, w.heap.size ≤ y := fun y hy => by
        rcases Tr.put_mem _ _ nb T y hy with e | e
        · have := HBr.out.size; omega
        · exact HX.out y e
      have hmem : ∀ k v, (k, v) ∈ (Tr.put TS.cmpS x (i : Int) nb T).pairs ↔ (k = x ∧ v = (i : Int)) ∨ (k ≠ x ∧ (k, v) ∈ T.pairs) := fun k v => by rw [Tr.put_pairs TS.cmpS_ord _ _ _ HU.out]; exact putL_mem_iff TS.cmpS_ord cmpS_tight HU.out x (i : Int) k v
      have hm2 := Tr.put_many (c := TS.cmpS) x (i : Int) nb T
      obtain ⟨bh, hbh⟩ : ∃ bh, (Tr.get TS.cmpS x T).isSome = bh := ⟨_, rfl⟩
      have HBH : Hid (bh = true ↔ ∃ j : Nat, j < i ∧ ws[j]? = some x) := by
        show _ ↔ _
        rw [← hbh, Tr.get_pairs TS.cmpS_ord x HU.out]
        constructor
        · intro h
          obtain ⟨v, hv⟩ := Option.isSome_iff_exists.1 h
          obtain ⟨j, h1, _, h3⟩ := HA1.out x v ((getL_iff TS.cmpS_ord cmpS_tight HU.out x v).1 hv)
          exact ⟨j, h1, h3⟩
        · rintro ⟨j, h1, h3⟩
          obtain ⟨v, hv⟩ := HA2.out j x h1 h3
          rw [(getL_iff TS.cmpS_ord cmpS_tight HU.out x v).2 hv]
          rfl
      have HN1 : Hid (∀ k v, (k, v) ∈ (Tr.put TS.cmpS x (i : Int) nb T).pairs → ∃ j : Nat, j < i + 1 ∧ v = (j : Int) ∧ ws[j]? = some k) := fun k v hm => by
        rcases (hmem k v).1 hm with ⟨rfl, rfl⟩ | ⟨_, hm⟩
        · exact ⟨i, by omega, rfl, hx.out⟩
        · obtain ⟨j, h1, h2, h3⟩ := HA1.out k v hm
          exact ⟨j, by omega, h2, h3⟩
      have HN2 : Hid (∀ (j : Nat) k, j < i + 1 → ws[j]? = some k → ∃ v, (k, v) ∈ (Tr.put TS.cmpS x (i : Int) nb T).pairs) := fun j k hj hk => by
        rcases Nat.lt_or_ge j i with h | h
        · obtain ⟨v, hv⟩ := HA2.out j k h hk
          by_cases hkx : x = k
          · exact ⟨i, (hmem k _).2 (.inl ⟨hkx.symm, rfl⟩)⟩
          · exact ⟨v, (hmem k v).2 (.inr ⟨fun e => hkx e.symm, hv⟩)⟩
        · obtain rfl : j = i := by omega
          have : k = x := by have := hk.symm.trans hx.out; injection this
          exact ⟨j, (hmem k _).2 (.inl ⟨this, rfl⟩)⟩
      have hget : Tr.get TS.cmpS x (Tr.put TS.cmpS x (i : Int) nb T) = some (i : Int) := by
        rw [Tr.get_pairs TS.cmpS_ord x hU2]
        exact (getL_iff TS.cmpS_ord cmpS_tight hU2 x _).2 ((hmem x _).2 (.inl ⟨rfl, rfl⟩))
      have G2 := hid g2
      have HB2 := hid hB2
      have HU2 := hid hU2
      have HX2 := hid hX2
      have HGET := hid hget
      rw [hbh]
      clear g1 g2 g3 hB2 hU2 hX2 hget hmem hbh HPUT HT HU HA1 HA2 HBr HX
      generalize Tr.put TS.cmpS x (i : Int) nb T = T2 at *
      generalize (Tr.get TS.cmpS x T).getD 0 = old at *
      clear hbW hc
      go_wp2_with fail
      go_loopg [9, 10] i (fun gx sf sk wr => ∃ (k q : Nat) (f : Bool), sf = .bool f ∧ sk = .int .i64 k ∧ k ≤ i ∧ i - k ≤ gx ∧ Hid (f = true ↔ ∀ j : Nat, j < k → ws[j]? ≠ some x) ∧ Hid (wr = w2.drewN q))
      case atStart => exact ⟨0, 0, true, rfl, rfl, Nat.zero_le _, Nat.le_refl _, hid ⟨fun _ j h => (by omega), fun _ => rfl⟩, hid rfl⟩
      case round =>
        obtain ⟨k, q, f, rfl, rfl, hk, hgk, HF, HWR⟩ := hrel
        have hwk : IntKind.i64.wrap ((k : Int) + 1) = (k : Int) + 1 := wrap_small _ (by omega) (by omega)
        have hbq : Below B0 w wr := by rw [HWR.out, HB0.out]; exact below_drewN' HB2.out q
        have hcx := (hbq.cell (p := ⟨b, _, none⟩) hb).trans hc0
        by_cases hki : k < i
        · have hkl : (k : Int) < (i : Int) := by omega
          have hkw : (k : Int) < (ws.length : Int) := by omega
          obtain ⟨b1, off1, y, hy, e1, hb1, hcy0⟩ := HR.out.at' k (by omega)
          obtain ⟨rfl, rfl⟩ : b = b1 ∧ off = off1 := by cases e1; exact ⟨rfl, rfl⟩
          have hcy := (hbq.cell (p := ⟨b, _, none⟩) hb).trans hcy0
          have HD : Hid (∀ n, ∃ n', wr.drewN n = w2.drewN n') := fun n => ⟨q + n, by rw [HWR.out, World.drewN_drewN]⟩
          clear e1 hcy0
          by_cases hyx : y = x
          · subst hyx
            have hbe : (y.toList == y.toList) = true := by simp
            have HF2 : Hid (false = true ↔ ∀ j : Nat, j < k + 1 → ws[j]? ≠ some y) := ⟨fun h => (by cases h), fun h => absurd hy.out (h k (by omega))⟩
            clear hbq
            go_wp2_with fail
            go_quiet (fail)
            obtain ⟨qz, hqz⟩ := HD.out nq
            go_wp2_with fail
            go_roundg (i - (k + 1))
            case measure => omega
            case rel => exact ⟨k + 1, qz, false, rfl, by go_num, hki, Nat.le_refl _, HF2, hid (by first | rfl | exact hqz)⟩
          · have hbe : (y.toList == x.toList) = false := by rw [bytes_beq]; simpa using hyx
            have HF2 : Hid (f = true ↔ ∀ j : Nat, j < k + 1 → ws[j]? ≠ some x) := by
              show _ ↔ _
              rw [HF.out]
              constructor
              · intro h j hj
                rcases Nat.lt_or_ge j k with g | g
                · exact h j g
                · obtain rfl : j = k := by omega
                  rw [hy.out]
                  exact fun e => hyx (by injection e)
              · exact fun h j hj => h j (by omega)
            clear hbq hyx
            go_wp2_with fail
            go_quiet (fail)
            obtain ⟨qz, hqz⟩ := HD.out nq
            go_wp2_with fail
            go_roundg (i - (k + 1))
            case measure => omega
            case rel => exact ⟨k + 1, qz, f, rfl, by go_num, hki, Nat.le_refl _, HF2, hid (by first | rfl | exact hqz)⟩
        · obtain rfl : k = i := by omega
          have hkl : ¬ (k : Int) < (k : Int) := by omega
          have hbf : (bh == f) = false := neq_first HBH.out HF.out
          have hMq := G2.out.drewN q
          have hBq := below_drewN' HB2.out q
          have hwr := HWR.out
          rw [← hwr] at hMq hBq
          have HGT := hid (TS.mapGet_any 99 #[] TS.cmpS (fun _ => True) (fun _ => False) TS.cmp_fn wr M T2 x hMq trivial)
          rw [HGET.out] at HGT
          have HMQ := hid hMq
          have HBQ := hid hBq
          have hii2 : (k : Int) < (ws.length : Int) := by omega
          clear hbq hwr hMq hBq HWR
          go_wp2_with fail
          refine HGT.out.mono ?_
          rintro e w3 ⟨rfl, q3, rfl⟩
          have HM3 := hid (HMQ.out.drewN q3)
          have HB3 := hid (below_drewN' HBQ.out q3)
          clear HGT HMQ HBQ
          generalize wr.drewN q3 = w4 at *
          go_wp2_with fail
          go_roundg (ws.length - (k + 1))
          case measure => omega
          case rel => exact ⟨k + 1, T2, by go_num, hlt, Nat.le_refl _, by omega, HM3, HU2, HN1, HN2, HB3, HX2⟩
    · obtain rfl : i = ws.length := by omega
      have hii : ¬ ((ws.length : Int) < (ws.length : Int)) := by omega
      go_wp2_with fail
      have HS1 : Hid (∀ k v, (k, v) ∈ T.pairs → ∃ j : Nat, v = (j : Int) ∧ ws[j]? = some k) := fun k v hm => by
        obtain ⟨j, _, h2, h3⟩ := HA1.out k v hm
        exact ⟨j, h2, h3⟩
      have HS2 : Hid (∀ (j : Nat) k, ws[j]? = some k → ∃ v, (k, v) ∈ T.pairs) := fun j k hk => HA2.out j k (List.getElem?_eq_some_iff.1 hk).1 hk
      clear HA1 HA2 hii
      go_loopg [13] os.length (fun gx si wr => ∃ (i : Nat) (T : Tr ByteArray Int), si = .int .i64 i ∧ i ≤ os.length ∧ os.length - i ≤ gx ∧ T.many ≤ ws.length ∧ Hid (TS.IsMap wr M 99 #[] T) ∧ Hid (Up TS.cmpS T.pairs) ∧
        Hid (∀ k v, (k, v) ∈ T.pairs → ∃ j : Nat, v = (j : Int) ∧ ws[j]? = some k) ∧ Hid (∀ (j : Nat) k, ws[j]? = some k → k ∉ os → ∃ v, (k, v) ∈ T.pairs) ∧ Hid (Below w.heap.size w wr) ∧ Hid (∀ x ∈ T.blocks, w.heap.size ≤ x))
      case atStart => exact ⟨0, T, rfl, Nat.zero_le _, Nat.le_refl _, hmi, HT, HU, HS1, fun j k hk _ => HS2.out j k hk, HBr, HX⟩
      case round =>
        clear HT HU HS1 HS2 HBr HX
        obtain ⟨i, T, rfl, hi, hg, hmi, HT, HU, HS1, HS2, HBr, HX⟩ := hrel
        have hwi : IntKind.i64.wrap ((i : Int) + 1) = (i : Int) + 1 := wrap_small _ (by omega) (by omega)
        by_cases hlt : i < os.length
        · have hii : (i : Int) < (os.length : Int) := by omega
          obtain ⟨b, off, x, hx, rfl, hb, hc0⟩ := HR'.out.at' i hlt
          have hb0 := HB0.out
          have hbW : Below B0 w wr := by rw [hb0]; exact HBr.out
          have hc := (hbW.cell (p := ⟨b, _, none⟩) hb).trans hc0
          have HDEL := hid (TS.mapDelete_any 99 #[] TS.cmpS (fun _ => True) (fun _ => False) TS.cmp_fn wr M T x HT.out (by omega) trivial (fun _ _ => id) id)
          clear hb0
          go_wp2_with fail
          refine HDEL.out.mono ?_
          rintro e w2 ⟨rfl, g2, g3, -⟩
          have hB2 : Below w.heap.size w w2 := wrote_ge HBr.out g3 (by
            rintro y (rfl | hy)
            · have := HME.out; omega
            · exact HX.out y hy)
          have hcp := Tr.cut_pairs TS.cmpS_ord x HT.out.bal HU.out
          have hU2 : Up TS.cmpS (Tr.cut TS.cmpS x T).pairs := by rw [hcp]; exact cutP_up _ HU.out
          have hX2 : ∀ y ∈ (Tr.cut TS.cmpS x T).blocks, w.heap.size ≤ y := fun y hy => HX.out y (Tr.cut_blocks _ HT.out.bal y hy)
          have hmem : ∀ k v, (k, v) ∈ (Tr.cut TS.cmpS x T).pairs ↔ k ≠ x ∧ (k, v) ∈ T.pairs := fun k v => by rw [hcp]; exact cutP_mem_iff TS.cmpS_ord cmpS_tight HU.out x k v
          have hm2 := Tr.cut_many (c := TS.cmpS) x HT.out.bal
          have HN1 : Hid (∀ k v, (k, v) ∈ (Tr.cut TS.cmpS x T).pairs → ∃ j : Nat, v = (j : Int) ∧ ws[j]? = some k) := fun k v hm => HS1.out k v ((hmem k v).1 hm).2
          have HN2 : Hid (∀ (j : Nat) k, ws[j]? = some k → k ∉ os → ∃ v, (k, v) ∈ (Tr.cut TS.cmpS x T).pairs) := fun j k hk hn => by
            obtain ⟨v, hv⟩ := HS2.out j k hk hn
            exact ⟨v, (hmem k v).2 ⟨fun e => hn (by rw [e]; exact List.mem_of_getElem? hx.out), hv⟩⟩
          have hget : Tr.get TS.cmpS x (Tr.cut TS.cmpS x T) = none := by
            rw [Tr.get_pairs TS.cmpS_ord x hU2]
            exact (getL_none TS.cmpS_ord cmpS_tight hU2 x).2 (fun v hm => ((hmem x v).1 hm).1 rfl)
          have hc2 := ((show Below B0 w w2 by rw [HB0.out]; exact hB2).cell (p := ⟨b, _, none⟩) hb).trans hc0
          have HGT := hid (TS.mapGet_any 99 #[] TS.cmpS (fun _ => True) (fun _ => False) TS.cmp_fn w2 M _ x g2 trivial)
          rw [hget] at HGT
          have G2 := hid g2
          have HB2 := hid hB2
          have HU2 := hid hU2
          have HX2 := hid hX2
          clear g2 g3 hB2 hU2 hX2 hget hmem HDEL HT HU HS1 HS2 HBr HX hcp
          generalize Tr.cut TS.cmpS x T = T2 at *
          generalize (Tr.get TS.cmpS x T).getD 0 = old at *
          generalize (Tr.get TS.cmpS x T).isSome = oldb at *
          clear hbW hc
          go_wp2_with fail
          refine HGT.out.mono ?_
          rintro e w3 ⟨rfl, q3, rfl⟩
          have HM3 := hid (G2.out.drewN q3)
          have HB3 := hid (below_drewN' HB2.out q3)
          clear HGT G2 HB2
          generalize w2.drewN q3 = w4 at *
          go_wp2_with fail
          go_roundg (os.length - (i + 1))
          case measure => omega
          case rel => exact ⟨i + 1, T2, by go_num, hlt, Nat.le_refl _, by omega, HM3, HU2, HN1, HN2, HB3, HX2⟩
        · obtain rfl : i = os.length := by omega
          have hii : ¬ ((os.length : Int) < (os.length : Int)) := by omega
          have hlen := TS.mapLen_any wr M _ _ T HT.out
          have HLEN := hid hlen
          clear hlen
          go_wp2_with (go_at_call 48; refine HLEN.out.mono ?_; rintro e w3 ⟨rfl, hw3⟩; obtain rfl : wr = w3 := hw3.symm)
          clear HLEN hii
          generalize wr = wv at *
          go_loopg [17, 18] T.many (fun gx sl si wr => ∃ (i q : Nat) (last : ByteArray), sl = .string last ∧ si = .int .i64 i ∧ i ≤ T.many ∧ T.many - i ≤ gx ∧ Hid (0 < i → ∃ v, T.pairs[i - 1]? = some (last, v)) ∧ Hid (wr = wv.drewN q))
          case atStart => exact ⟨0, 0, _, rfl, rfl, Nat.zero_le _, Nat.le_refl _, fun h => (by omega), hid rfl⟩
          case round =>
            obtain ⟨i, q, last, rfl, rfl, hi, hg, HLA, HWR⟩ := hrel
            have hwi : IntKind.i64.wrap ((i : Int) + 1) = (i : Int) + 1 := wrap_small _ (by omega) (by omega)
            have HMr : Hid (TS.IsMap wr M 99 #[] T) := by show TS.IsMap _ _ _ _ _; rw [HWR.out]; exact HT.out.drewN q
            by_cases hlt : i < T.many
            · have hii : (i : Int) < (T.many : Int) := by omega
              obtain ⟨⟨kk, vv⟩, hkv⟩ : ∃ p, T.pairs[i]? = some p := ⟨_, List.getElem?_eq_getElem (by rw [← Tr.many_pairs]; exact hlt)⟩
              obtain ⟨p1, p2, p3⟩ := own_place TS.cmpS_ord HU.out i kk vv hkv
              obtain ⟨j, rfl, hj⟩ := HS1.out kk vv (List.mem_of_getElem? hkv)
              have hjl := (List.getElem?_eq_some_iff.1 hj).1
              obtain ⟨b, off, y, hy, rfl, hb, hc0⟩ := HR.out.at' j hjl
              obtain rfl : y = kk := by have := hy.out.symm.trans hj; injection this
              have hbW : Below B0 w wr := by rw [HWR.out, HB0.out]; exact below_drewN' HBr.out q
              have HAT := hid (TS.mapAt_any wr M _ _ T HMr.out (by omega) i y (j : Int) hkv)
              have HFL : Hid (∀ q, Calls Try.prog 50 #[.pointer (some ⟨M, 0, none⟩), .string y] (wr.drewN q) fun e w' => e = .returned (.tuple #[.string y, .int .i64 (j : Int), .bool true]) ∧ ∃ q', w' = (wr.drewN q).drewN q') := fun q => by
                have h := TS.mapFloor_any 99 #[] TS.cmpS (fun _ => True) (fun _ => False) TS.cmp_fn (wr.drewN q) M T y (HMr.out.drewN q) trivial
                rw [Tr.floor_pairs TS.cmpS_ord y HU.out, p2] at h
                exact h
              have HCE : Hid (∀ q, Calls Try.prog 51 #[.pointer (some ⟨M, 0, none⟩), .string y] (wr.drewN q) fun e w' => e = .returned (.tuple #[.string y, .int .i64 (j : Int), .bool true]) ∧ ∃ q', w' = (wr.drewN q).drewN q') := fun q => by
                have h := TS.mapCeil_any 99 #[] TS.cmpS (fun _ => True) (fun _ => False) TS.cmp_fn (wr.drewN q) M T y (HMr.out.drewN q) trivial
                rw [Tr.ceil_pairs TS.cmpS_ord y HU.out, p3] at h
                exact h
              have HRA : Hid (∀ q, Calls Try.prog 52 #[.pointer (some ⟨M, 0, none⟩), .string y] (wr.drewN q) fun e w' => e = .returned (.int .i64 (i : Nat)) ∧ ∃ q', w' = (wr.drewN q).drewN q') := fun q => by
                have h := TS.mapRank_any 99 #[] TS.cmpS (fun _ => True) (fun _ => False) TS.cmp_fn (wr.drewN q) M T y (HMr.out.drewN q) (by omega) trivial
                rw [Tr.rank_pairs TS.cmpS_ord y HU.out, p1] at h
                exact h
              have HCC : Hid (∀ q, (wr.drewN q).cell? ⟨b, off + j, none⟩ = some (.string y)) := fun q => (hbW.cell (p := ⟨b, _, none⟩) hb).trans hc0
              have HD : Hid (∀ n, wr.drewN n = wv.drewN (q + n)) := fun n => by rw [HWR.out, World.drewN_drewN]
              have HKV := hid hkv
              have HCM : Hid (0 < i → Op.bytesLess y.toList last.toList = false ∧ (y.toList == last.toList) = false) := fun h0 => by
                obtain ⟨v, hv⟩ := HLA.out h0
                have h1 := cmpS_neg (up_lt HU.out (i - 1) i (by omega) _ _ hv hkv)
                simp only at h1
                refine ⟨?_, ?_⟩
                · rw [TS.bless]
                  simp only [decide_eq_false_iff_not]
                  exact fun h => List.lt_irrefl _ (List.lt_trans h h1)
                · apply Bool.eq_false_iff.2
                  intro he
                  rw [eq_of_beq he] at h1
                  exact List.lt_irrefl _ h1
              have hy2 : (y.toList == y.toList) = true := by simp
              have hj0 : decide ((j : Int) < 0) = false := by simp
              have hjn : decide ((ws.length : Int) ≤ (j : Int)) = false := by simp; omega
              have hji : (j : Int) < (ws.length : Int) := by omega
              clear p1 p2 p3 hj hb hc0 hbW hkv HLA HMr
              go_wp2_with fail
              refine HAT.out.mono ?_
              rintro e w2 ⟨rfl, q1, rfl⟩
              go_wp2_with fail
              refine (HFL.out _).mono ?_
              rintro e w3 ⟨rfl, q2, hw3⟩
              rw [World.drewN_drewN] at hw3
              subst hw3
              go_wp2_with fail
              refine (HCE.out _).mono ?_
              rintro e w3 ⟨rfl, q3, hw3⟩
              rw [World.drewN_drewN] at hw3
              subst hw3
              generalize q1 + q2 + q3 = qq at *
              go_wp2_with fail
              refine (HRA.out _).mono ?_
              rintro e w3 ⟨rfl, q4, hw3⟩
              rw [World.drewN_drewN] at hw3
              subst hw3
              have hcc := HCC.out (qq + q4)
              have HDD := hid (HD.out (qq + q4))
              generalize wr.drewN (qq + q4) = wz at *
              clear HAT HFL HCE HRA HCC HD
              rcases Nat.eq_zero_or_pos i with h0 | h0
              · subst h0
                go_wp2_with fail
                go_roundg (T.many - (0 + 1))
                case measure => omega
                case rel => exact ⟨0 + 1, _, y, rfl, by go_num, hlt, Nat.le_refl _, fun _ => ⟨_, HKV.out⟩, HDD⟩
              · obtain ⟨hb1, hb2⟩ := HCM.out h0
                have hi0 : (0 : Int) < (i : Int) := by omega
                go_wp2_with fail
                go_roundg (T.many - (i + 1))
                case measure => omega
                case rel => exact ⟨i + 1, _, y, rfl, by go_num, hlt, Nat.le_refl _, fun _ => ⟨_, HKV.out⟩, HDD⟩
            · obtain rfl : i = T.many := by omega
              have hii : ¬ ((T.many : Int) < (T.many : Int)) := by omega
              have HBv : Hid (Below w.heap.size w wr) := by show Below _ _ _; rw [HWR.out]; exact below_drewN' HBr.out q
              have HMv := hid HMr.out
              go_wp2_with fail
              clear HWR HT HBr HLA hii hwi HMr
              generalize wr = wu at *
              go_loopg [28, 29] ws.length (fun gx sl si wr => ∃ (i q : Nat), sl = .int .i64 (belowN T.pairs i : Nat) ∧ si = .int .i64 i ∧ i ≤ ws.length ∧ ws.length - i ≤ gx ∧ Hid (wr = wu.drewN q))
              case atStart => exact ⟨0, 0, by rw [belowN_zero HS1.out]; rfl, rfl, Nat.zero_le _, Nat.le_refl _, hid rfl⟩
              case round =>
                obtain ⟨i, q, rfl, rfl, hi, hg, HWR⟩ := hrel
                have HMr : Hid (TS.IsMap wr M 99 #[] T) := by show TS.IsMap _ _ _ _ _; rw [HWR.out]; exact HMv.out.drewN q
                have hbl : belowN T.pairs i ≤ T.pairs.length := List.countP_le_length
                rw [← Tr.many_pairs] at hbl
                by_cases hlt : i < ws.length
                · have hii : (i : Int) < (ws.length : Int) := by omega
                  have hwi : IntKind.i64.wrap ((i : Int) + 1) = (i : Int) + 1 := wrap_small _ (by omega) (by omega)
                  obtain ⟨b, off, x, hx, rfl, hb, hc0⟩ := HR.out.at' i hlt
                  have hbW : Below B0 w wr := by rw [HWR.out, HB0.out]; exact below_drewN' HBv.out q
                  have hc := (hbW.cell (p := ⟨b, _, none⟩) hb).trans hc0
                  have HCC : Hid (∀ q, (wr.drewN q).cell? ⟨b, off + i, none⟩ = some (.string x)) := fun q => hc
                  have HD : Hid (∀ n, wr.drewN n = wu.drewN (q + n)) := fun n => by rw [HWR.out, World.drewN_drewN]
                  have HSC : Hid (belowN T.pairs (i + 1) = belowN T.pairs i + (if Tr.get TS.cmpS x T = some (i : Int) then 1 else 0)) := by
                    show _ = _
                    rw [belowN_succ TS.cmpS_ord HU.out HS1.out i x hx.out, Tr.get_pairs TS.cmpS_ord x HU.out]
                    by_cases h : (x, (i : Int)) ∈ T.pairs
                    · rw [if_pos h, if_pos ((getL_iff TS.cmpS_ord cmpS_tight HU.out x _).2 h)]
                    · rw [if_neg h, if_neg (fun h' => h ((getL_iff TS.cmpS_ord cmpS_tight HU.out x _).1 h'))]
                  have HGT := hid (TS.mapGet_any 99 #[] TS.cmpS (fun _ => True) (fun _ => False) TS.cmp_fn wr M T x HMr.out trivial)
                  have HNO : Hid (Tr.get TS.cmpS x T = none → x ∈ os) := fun h => Classical.byContradiction fun hn => by
                    obtain ⟨v, hv⟩ := HS2.out i x hx.out hn
                    rw [Tr.get_pairs TS.cmpS_ord x HU.out] at h
                    exact (getL_none TS.cmpS_ord cmpS_tight HU.out x).1 h v hv
                  have HHO : Hid (∀ q, Strs (wr.drewN q).heap.size (wr.drewN q) A' os) := fun q => by
                    have h1 : Below B0 w (wr.drewN q) := below_drewN' hbW q
                    refine (HR'.out.below h1).mono ?_
                    have := h1.size
                    have := HB0.out
                    omega
                  generalize Tr.get TS.cmpS x T = o at *
                  clear hbW hc0 hb HWR
                  go_wp2_with fail
                  refine HGT.out.mono ?_
                  rintro e w2 ⟨rfl, q1, rfl⟩
                  have hcc := HCC.out q1
                  have HDD := hid (HD.out q1)
                  have hho := holds_any (wr.drewN q1) A' os.length c' os x rfl (by omega) (HHO.out q1)
                  have HH := hid hho
                  clear HGT HCC HD HHO hho hc
                  generalize wr.drewN q1 = wz at *
                  cases o with
                  | some v =>
                    by_cases hv : v = (i : Int)
                    · have HS : Hid (belowN T.pairs (i + 1) = belowN T.pairs i + 1) := by show _ = _; rw [HSC.out, if_pos (by rw [hv])]
                      have hvb : (v == (i : Int)) = true := by simp [hv]
                      have hwb : IntKind.i64.wrap ((belowN T.pairs i : Int) + 1) = (belowN T.pairs i : Int) + 1 := wrap_small _ (by omega) (by omega)
                      clear hv
                      go_wp2_with fail
                      go_roundg (ws.length - (i + 1))
                      case measure => omega
                      case rel => exact ⟨i + 1, _, by rw [HS.out]; go_num, by go_num, hlt, Nat.le_refl _, HDD⟩
                    · have HS : Hid (belowN T.pairs (i + 1) = belowN T.pairs i) := by show _ = _; rw [HSC.out, if_neg (fun h => hv (by injection h))]; rfl
                      have hvb : (v == (i : Int)) = false := by simp [hv]
                      clear hv
                      go_wp2_with fail
                      go_roundg (ws.length - (i + 1))
                      case measure => omega
                      case rel => exact ⟨i + 1, _, by rw [HS.out], by go_num, hlt, Nat.le_refl _, HDD⟩
                  | none =>
                    have HS : Hid (belowN T.pairs (i + 1) = belowN T.pairs i) := by show _ = _; rw [HSC.out]; rfl
                    have hx2 := HNO.out rfl
                    have HX2 := hid hx2
                    clear hx2
                    go_wp2_with fail
                    refine HH.out.mono ?_
                    rintro e w3 ⟨bb, rfl, hbb, hw3⟩
                    obtain rfl : bb = true := hbb.2 HX2.out
                    obtain rfl : wz = w3 := hw3.symm
                    clear hbb
                    go_wp2_with fail
                    go_roundg (ws.length - (i + 1))
                    case measure => omega
                    case rel => exact ⟨i + 1, _, by rw [HS.out], by go_num, hlt, Nat.le_refl _, HDD⟩
                · obtain rfl : i = ws.length := by omega
                  have hii : ¬ ((ws.length : Int) < (ws.length : Int)) := by omega
                  have hall : belowN T.pairs ws.length = T.many := by rw [belowN_all HS1.out, Tr.many_pairs]
                  have HBz : Hid (Below w.heap.size w wr) := by show Below _ _ _; rw [HWR.out]; exact below_drewN' HBv.out q
                  rw [hall]
                  clear hall hbl HWR HMr
                  go_wp2_with fail
                  refine bodyPost_ret (results_tmp rfl _ _ _) rfl ?_
                  exact ⟨rfl, HBz.out⟩
end Go.Proofs.Ytfjeagffdijcoaa
