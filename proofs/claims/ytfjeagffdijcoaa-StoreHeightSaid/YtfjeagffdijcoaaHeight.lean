/- Layer 7: the walk of StoreHeight. -/
import Derived.Test.YtfjeagffdijcoaaTrJ
namespace Go.Proofs.Ytfjeagffdijcoaa
open Go.RowKit Go.Shelf TI

set_option maxRecDepth 100000 in
set_option maxHeartbeats 4000000 in
theorem storeHeight_walk (w : World) (count step drop : Int) (_ : (Lit.int .i64 count).wf = true) (_ : (Lit.int .i64 step).wf = true) (_ : (Lit.int .i64 drop).wf = true) :
    Calls Try.prog 7 #[.int .i64 count, .int .i64 step, .int .i64 drop] w fun e w' => e = .returned (.bool true) ∧ Below w.heap.size w w' := by
  by_cases hc : 0 ≤ count ∧ count ≤ 3000
  case neg =>
    rcases Int.lt_or_le count 0 with g | g
    · clear hc
      go_enter Try.func7, Try.ntmps7
      go_wp2_with fail
      go_ret
      exact ⟨rfl, Below.refl _ _⟩
    · have g2 : 3000 < count := by omega
      clear hc
      go_enter Try.func7, Try.ntmps7
      go_wp2_with fail
      go_ret
      exact ⟨rfl, Below.refl _ _⟩
  case pos =>
  obtain ⟨N, rfl⟩ : ∃ N : Nat, count = N := ⟨count.toNat, by omega⟩
  obtain ⟨hc0, hc1⟩ := hc
  have hN : N ≤ 3000 := by omega
  have hb1 : decide ((N : Int) < 0) = false := by simp
  have hb2 : decide (3000 < (N : Int)) = false := by simp; omega
  clear hc0 hc1
  go_enter Try.func7, Try.ntmps7
  go_wp2_with fail
  refine (newOrdered_any w).mono ?_
  rintro e w1 ⟨rfl, hM, hb⟩
  obtain ⟨M, hMe⟩ : ∃ M, M = w.heap.size := ⟨_, rfl⟩
  rw [← hMe] at hM
  have hMl := hM.lt
  have HME := hid hMe
  have HM := hid hM
  have HB := hid hb
  rw [← hMe]
  clear hM hb hMe
  go_wp2_with fail
  clear hb1 hb2
  go_loopg [8, 9] N (fun gx sk si wr => ∃ (k : Nat) (key : Int) (t : Tr Int Int), sk = .int .i64 key ∧ si = .int .i64 k ∧ k ≤ N ∧ N - k ≤ gx ∧ Hid (IsMap wr M 76 #[] t) ∧ Hid (Up cmpI t.pairs) ∧ t.many ≤ k ∧ (k = 0 ∨ 1 ≤ t.many) ∧ Hid (Below w.heap.size w wr) ∧ Hid (∀ x ∈ t.blocks, w.heap.size ≤ x))
  case atStart => exact ⟨0, 0, .nil, rfl, rfl, Nat.zero_le _, Nat.le_refl _, HM, List.Pairwise.nil, Nat.le_refl _, .inl rfl, HB, fun x hx => by cases hx⟩
  case round =>
    obtain ⟨k, key, t, rfl, rfl, hk, hg, HT, HU, hm, hm0, HBr, HX⟩ := hrel
    by_cases hlt : k < N
    · have hki : (k : Int) < N := by omega
      have hwk : IntKind.i64.wrap ((k : Int) + 1) = (k : Int) + 1 := wrap_small _ (by omega) (by omega)
      have hMr := HT.out.lt
      have hput : ∀ W x v, IsMap W M 76 #[] t → _ := fun W x v h => mapPut_any 76 #[] cmpI (fun _ => True) (fun _ => False) cmp_fn W M t x v h (by omega) trivial (fun _ _ => id) id
      have HP := hid hput
      clear hput
      go_wp2_with fail
      refine (HP.out _ _ _ HT.out).mono ?_
      rintro e w2 ⟨nb, g1, rfl, g2, g3, -⟩
      have hwr := HBr.out.size
      have hB2 : Below w.heap.size w w2 := HBr.out.trans (g3.toBelow' hwr (by
        rintro x (rfl | hx)
        · have := HME.out; omega
        · exact HX.out x hx))
      have hU2 : Up cmpI (Tr.put cmpI ((wrap64 (key + step)).tmod 100003) (k : Int) nb t).pairs := by rw [Tr.put_pairs cmpI_ord _ _ _ HU.out]; exact putL_up cmpI_ord _ _ HU.out
      have hm2 := Tr.put_many (c := cmpI) ((wrap64 (key + step)).tmod 100003) (k : Int) nb t
      have hm3 := Tr.put_pos (c := cmpI) ((wrap64 (key + step)).tmod 100003) (k : Int) nb t
      have hX2 : ∀ x ∈ (Tr.put cmpI ((wrap64 (key + step)).tmod 100003) (k : Int) nb t).blocks, w.heap.size ≤ x := fun x hx => by
        rcases Tr.put_mem _ _ nb t x hx with e | e
        · omega
        · exact HX.out x e
      have G2 := hid g2
      have HB2 := hid hB2
      have HU2 := hid hU2
      have HX2 := hid hX2
      clear g1 g2 g3 hB2 hU2 hX2 HP
      generalize Tr.put cmpI ((wrap64 (key + step)).tmod 100003) (k : Int) nb t = t2 at *
      generalize Tr.get cmpI ((wrap64 (key + step)).tmod 100003) t = o2 at *
      generalize wrap64 (key + step) = key2 at *
      have hl := mapLen_any w2 M _ _ t2 G2.out
      have hh := mapHeight_any w2 M _ _ t2 G2.out
      have hbd := bounded_any w2 t2.many t2.high (by omega) (Tr.high_le G2.out.bal) (Tr.many_high G2.out.bal).2
      have HL := hid hl
      have HH := hid hh
      have HBD := hid hbd
      clear hl hh hbd
      go_wp2_with (first
        | (go_at_call 22; refine HL.out.mono ?_; rintro e w3 ⟨rfl, hw3⟩; obtain rfl : w2 = w3 := hw3.symm)
        | (go_at_call 32; refine HH.out.mono ?_; rintro e w3 ⟨rfl, hw3⟩; obtain rfl : w2 = w3 := hw3.symm)
        | (go_at_call 31; refine HBD.out.mono ?_; rintro e w3 ⟨rfl, hw3⟩; obtain rfl : w2 = w3 := hw3.symm))
      go_roundg (N - (k + 1))
      case measure => omega
      case rel => exact ⟨k + 1, key2, t2, rfl, by go_num, hlt, Nat.le_refl _, G2, HU2, by omega, .inr hm3, HB2, HX2⟩
    · obtain rfl : k = N := by omega
      obtain ⟨zb, hz1, hz2⟩ : ∃ zb, ((t.many : Int) == 0) = zb ∧ ((k : Int) == 0) = zb := ⟨_, rfl, by rcases hm0 with h | h <;> (apply Bool.eq_iff_iff.2; simp; omega)⟩
      have b5 : decide ((k : Int) < (t.many : Int)) = false := by simp; omega
      have b6 : decide (k < t.many) = false := by simp; omega
      obtain ⟨n0, hn0⟩ : ∃ n0, n0 = t.many := ⟨_, rfl⟩
      have hn3 : n0 ≤ 3000 := by omega
      rw [← hn0] at hz1 b5 b6
      have hlen := mapLen_any wr M _ _ t HT.out
      rw [← hn0] at hlen
      have HN0 := hid hn0
      have HLN := hid hlen
      clear hn0 hlen hm hm0 hlt
      go_upto_if 60 with (go_at_call 22; refine HLN.out.mono ?_; rintro e w3 ⟨rfl, hw3⟩; obtain rfl : wr = w3 := hw3.symm)
      go_cut [2] (fun v wc => ∃ d : Nat, v = .int .i64 d ∧ 1 ≤ d ∧ d ≤ 999 ∧ wc = wr)
      case first =>
        by_cases hd : drop.tmod 1000 < 1
        · go_wp2_with fail
          go_meet
          exact ⟨1, rfl, by omega, by omega, rfl⟩
        · have hd2 := Int.tmod_lt_of_pos drop (show (0 : Int) < 1000 by omega)
          go_wp2_with fail
          go_meet
          exact ⟨(drop.tmod 1000).toNat, by congr 1; omega, by omega, by omega, rfl⟩
      case rest =>
      obtain ⟨d, rfl, hd1, hd2, hwe⟩ := hcut
      cases hwe
      clear hz1 hz2 b5 b6 HLN
      go_wp2_with fail
      go_loopg [11] n0 (fun gx si wr => ∃ (k2 : Nat) (t : Tr Int Int), si = .int .i64 k2 ∧ k2 ≤ n0 ∧ n0 - k2 ≤ gx ∧ Hid (IsMap wr M 76 #[] t) ∧ Hid (Up cmpI t.pairs) ∧ t.many + k2 = n0 ∧ Hid (Below w.heap.size w wr) ∧ Hid (∀ x ∈ t.blocks, w.heap.size ≤ x))
      case atStart => exact ⟨0, t, rfl, Nat.zero_le _, Nat.le_refl _, HT, HU, by rw [HN0.out]; rfl, HBr, HX⟩
      case round =>
        clear HT HU HBr HX HN0
        obtain ⟨k2, t, rfl, hk2, hg2, HT, HU, hm, HBr, HX⟩ := hrel
        by_cases hlt : k2 < n0
        · have hki : (k2 : Int) < n0 := by omega
          have hwk : IntKind.i64.wrap ((k2 : Int) + 1) = (k2 : Int) + 1 := wrap_small _ (by omega) (by omega)
          obtain ⟨pm, hpm⟩ : ∃ pm : Nat, pm = k2 * d := ⟨_, rfl⟩
          have hpm1 : (k2 : Int) * (d : Int) = (pm : Int) := by rw [hpm]; simp
          have hpm2 : pm ≤ 3000 * 999 := by rw [hpm]; exact Nat.mul_le_mul (by omega) hd2
          have hw1 : IntKind.i64.wrap (pm : Int) = (pm : Int) := wrap_small _ (by omega) (by omega)
          have hw2 : IntKind.i64.wrap ((n0 : Int) - (k2 : Int)) = (n0 : Int) - (k2 : Int) := wrap_small _ (by omega) (by omega)
          obtain ⟨ix, hix⟩ : ∃ ix, ix = pm % (n0 - k2) := ⟨_, rfl⟩
          have hixl : ix < t.many := by rw [hix]; have := Nat.mod_lt pm (show n0 - k2 > 0 by omega); omega
          have hrem : (pm : Int).tmod ((n0 : Int) - (k2 : Int)) = (ix : Int) := by rw [show (n0 : Int) - (k2 : Int) = ((n0 - k2 : Nat) : Int) by omega, hix]; rfl
          obtain ⟨⟨kk, vv⟩, hkv⟩ : ∃ p, t.pairs[ix]? = some p := ⟨_, List.getElem?_eq_getElem (by rw [← Tr.many_pairs]; exact hixl)⟩
          have hmem := List.mem_of_getElem? hkv
          have hget : Tr.get cmpI kk t = some vv := by rw [Tr.get_pairs cmpI_ord kk HU.out]; exact getL_mem cmpI_ord HU.out hmem
          have hcl : (Tr.cut cmpI kk t).many + 1 = t.many := by rw [Tr.many_pairs, Tr.cut_pairs cmpI_ord kk HT.out.bal HU.out, Tr.many_pairs]; exact cutP_len cmpI_ord HU.out hmem
          have hcu : Up cmpI (Tr.cut cmpI kk t).pairs := by rw [Tr.cut_pairs cmpI_ord kk HT.out.bal HU.out]; exact cutP_up kk HU.out
          have hcb := Tr.cut_blocks (c := cmpI) kk HT.out.bal
          have hat := mapAt_any wr M _ _ t HT.out (by omega) ix kk vv hkv
          have hle : ((t.many : Int) != (n0 : Int) - (k2 : Int)) = false := by simp; omega
          have HAT := hid hat
          have HGET := hid hget
          have HCU := hid hcu
          have HCB := hid hcb
          clear hat hget hcu hcb hkv hmem hix hpm
          go_wp2_with (go_at_call 33; refine HAT.out.mono ?_; rintro e w3 ⟨rfl, q, rfl⟩)
          have hMq := HT.out.drewN q
          have hBq := below_drewN' HBr.out q
          generalize wr.drewN q = w4 at *
          have hl := mapLen_any w4 M _ _ t hMq
          have hdl := mapDelete_any 76 #[] cmpI (fun _ => True) (fun _ => False) cmp_fn w4 M t kk hMq (by omega) trivial (fun _ _ => id) id
          rw [HGET.out] at hdl
          have HL := hid hl
          have HDL := hid hdl
          have HMQ := hid hMq
          have HBQ := hid hBq
          clear hl hdl hMq hBq
          go_wp2_with (go_at_call 22; refine HL.out.mono ?_; rintro e w3 ⟨rfl, hw3⟩; obtain rfl : w4 = w3 := hw3.symm)
          refine HDL.out.mono ?_
          rintro e w5 ⟨rfl, g2, g3, -⟩
          have hwr := HBQ.out.size
          have hB2 : Below w.heap.size w w5 := HBQ.out.trans (g3.toBelow' hwr (by
            rintro x (rfl | hx)
            · have := HME.out; omega
            · exact HX.out x hx))
          have HX2 : Hid (∀ x ∈ (Tr.cut cmpI kk t).blocks, w.heap.size ≤ x) := fun x hx => HX.out x (HCB.out x hx)
          have G2 := hid g2
          have HB2 := hid hB2
          clear g2 g3 hB2 HDL HL HCB HGET
          generalize Tr.cut cmpI kk t = t2 at *
          have hl := mapLen_any w5 M _ _ t2 G2.out
          have hh := mapHeight_any w5 M _ _ t2 G2.out
          have hbd := bounded_any w5 t2.many t2.high (by omega) (Tr.high_le G2.out.bal) (Tr.many_high G2.out.bal).2
          have HL := hid hl
          have HH := hid hh
          have HBD := hid hbd
          clear hl hh hbd
          go_wp2_with (first
            | (go_at_call 22; refine HL.out.mono ?_; rintro e w3 ⟨rfl, hw3⟩; obtain rfl : w5 = w3 := hw3.symm)
            | (go_at_call 32; refine HH.out.mono ?_; rintro e w3 ⟨rfl, hw3⟩; obtain rfl : w5 = w3 := hw3.symm)
            | (go_at_call 31; refine HBD.out.mono ?_; rintro e w3 ⟨rfl, hw3⟩; obtain rfl : w5 = w3 := hw3.symm))
          go_roundg (n0 - (k2 + 1))
          case measure => omega
          case rel => exact ⟨k2 + 1, t2, by go_num, hlt, Nat.le_refl _, G2, HCU, by omega, HB2, HX2⟩
        · obtain rfl : k2 = n0 := by omega
          have hz := Tr.high_zero (show t.many = 0 by omega)
          have hl := mapLen_any wr M _ _ t HT.out
          have hh := mapHeight_any wr M _ _ t HT.out
          rw [show t.many = 0 by omega] at hl
          rw [hz] at hh
          have HL := hid hl
          have HH := hid hh
          clear hl hh hz
          go_wp2_with (first
            | (go_at_call 22; refine HL.out.mono ?_; rintro e w3 ⟨rfl, hw3⟩; obtain rfl : wr = w3 := hw3.symm)
            | (go_at_call 32; refine HH.out.mono ?_; rintro e w3 ⟨rfl, hw3⟩; obtain rfl : wr = w3 := hw3.symm))
          refine bodyPost_ret (results_tmp rfl _ _ _) rfl ?_
          exact ⟨rfl, HBr.out⟩
end Go.Proofs.Ytfjeagffdijcoaa
