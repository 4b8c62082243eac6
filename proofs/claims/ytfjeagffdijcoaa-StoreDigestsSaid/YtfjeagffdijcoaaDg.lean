/- Layer 7: the walk of StoreDigests. -/
import Derived.Test.YtfjeagffdijcoaaDgP
import Derived.Test.YtfjeagffdijcoaaClo7
import Derived.Test.YtfjeagffdijcoaaOpenW
namespace Go.Proofs.Ytfjeagffdijcoaa
open Go.RowKit Go.Shelf

/-- clone, then Set, in the first of two shelves -/
theorem set_two {w wr : World} {Sa Sb n : Nat} {Pa Pb : Nat → Prop} {La Lb : List (Int × List Int)} {lv : Value} {last : List Nat} {vA : Option Addr} {vc B : Nat} {key : Int} {bs : List Int} (h : MvSt w wr Sa Sb n Pa Pb La Lb lv last) (hroom : (getL TI.cmpI key La).isSome = true ∨ (La.length : Int) < (n : Nat)) (hv : wr.ownsRow B 5 1 (.slice vA bs.length vc) bs.length (bs.flatMap u8s)) (hbs : ∀ x ∈ bs, 0 ≤ x ∧ x ≤ 255) (hk : 0 ≤ key ∧ key ≤ 18446744073709551615) :
    Calls Try.prog 38 #[.pointer (some ⟨Sa, 0, none⟩), .int .u64 key, .slice vA bs.length vc] wr fun e w' =>
      e = .returned (.tuple #[.bool (decide (bs.length ≤ 64) && !(getL TI.cmpI key La).isSome), .int .i64 (if bs.length ≤ 64 then 0 else 70)]) ∧ ∃ P', Hid (MvSt w w' Sa Sb n P' Pb (if bs.length ≤ 64 then putL TI.cmpI key bs La else La) Lb lv last) := by
  by_cases h64 : bs.length ≤ 64
  · obtain ⟨A', c', e, hn, hU⟩ := ownsRow_ev (v := (vA, bs.length, vc)) (ownsRow_zero hv)
    obtain ⟨rfl, rfl⟩ : vA = A' ∧ vc = c' := by injection e with e3 e4; injection e4 with _ e5; exact ⟨e3, e5⟩
    refine (shSet_ok wr Sa n Pa La vA bs.length vc key bs h.a rfl h64 hroom hn (by exact hU) hbs hk).mono ?_
    rintro e w' ⟨rfl, h1, h2⟩
    rw [if_pos h64, if_pos h64, decide_eq_true h64, Bool.true_and]
    exact ⟨rfl, _, h.call h1 h2 (fun x hx => hx.imp id fun h => h.1)⟩
  · refine (shSet_long wr Sa vA bs.length vc key (by omega)).mono ?_
    rintro e w' ⟨rfl, rfl⟩
    rw [if_neg h64, if_neg h64, decide_eq_false h64, Bool.false_and]
    exact ⟨rfl, Pa, h⟩
/-- Get of the first of two shelves -/
theorem get_two {w wr : World} {Sa Sb n : Nat} {Pa Pb : Nat → Prop} {La Lb : List (Int × List Int)} {lv : Value} {last : List Nat} (key : Int) (h : MvSt w wr Sa Sb n Pa Pb La Lb lv last) :
    Calls Try.prog 37 #[.pointer (some ⟨Sa, 0, none⟩), .int .u64 key] wr fun e w' =>
      ∃ A c, e = .returned (.tuple #[.slice A ((getL TI.cmpI key La).getD []).length c, .bool (getL TI.cmpI key La).isSome]) ∧ Hid (w'.ownsRow wr.heap.size 5 1 (.slice A ((getL TI.cmpI key La).getD []).length c) ((getL TI.cmpI key La).getD []).length (((getL TI.cmpI key La).getD []).flatMap u8s)) ∧ Hid (MvSt w w' Sa Sb n Pa Pb La Lb lv last) := by
  refine (shGet_any wr Sa n Pa La key h.a).mono ?_
  rintro e w' ⟨v, rfl, hv, hb⟩
  obtain ⟨_, A, c, rfl, _, _, _⟩ := owns_reads u8s_len hv (by decide)
  exact ⟨A, c, rfl, hv, h.below hb⟩

/-- one byte more -/
theorem app_one {w5 wz w6 : World} {ys : List Int} {m : Nat} {y : Int} {yA : Option Addr} {yc : Nat} {v1 : Value} (hl : ys.length = m) (ho : wz.ownsRow w5.heap.size 5 1 (.slice yA m yc) m (ys.flatMap u8s)) (hb : Below w5.heap.size w5 wz)
    (hown : w6.ownsRow w5.heap.size 5 1 v1 (ys ++ [y]).length ((ys ++ [y]).flatMap u8s)) (hgr : wz.grownBy w6 (Value.slice yA m yc).ownBlock) :
    ∃ A c, v1 = .slice A (m + 1) c ∧ Hid (w6.ownsRow w5.heap.size 5 1 (.slice A (m + 1) c) (m + 1) ((ys ++ [y]).flatMap u8s)) ∧ Hid (Below w5.heap.size w5 w6) := by
  have e : (ys ++ [y]).length = m + 1 := by simp [hl]
  obtain ⟨_, A, c, rfl, _, _, _⟩ := owns_reads (l := ys ++ [y]) u8s_len hown (by decide)
  rw [e] at hown ⊢
  exact ⟨A, c, rfl, hown, hb.grown hgr hb.size (fun k hk => own_ge ho k hk)⟩
theorem app_all {w5 wz w6 : World} {ys bs : List Int} {m : Nat} {yA : Option Addr} {yc : Nat} {v1 : Value} (ho : wz.ownsRow w5.heap.size 5 1 (.slice yA m yc) m (ys.flatMap u8s)) (hb : Below w5.heap.size w5 wz)
    (hown : w6.ownsRow w5.heap.size 5 1 v1 (m + bs.length) (ys.flatMap u8s ++ bs.flatMap u8s)) (hgr : wz.grownBy w6 (Value.slice yA m yc).ownBlock) :
    ∃ A c, v1 = .slice A (m + bs.length) c ∧ Hid (w6.ownsRow w5.heap.size 5 1 (.slice A (m + bs.length) c) (m + bs.length) ((ys ++ bs).flatMap u8s)) ∧ Hid (Below w5.heap.size w5 w6) := by
  rw [← List.flatMap_append] at hown
  obtain ⟨_, A, c, rfl, _, _, _⟩ := owns_reads (l := ys ++ bs) u8s_len hown (by decide)
  exact ⟨A, c, rfl, hown, hb.grown hgr hb.size (fun k hk => own_ge ho k hk)⟩

set_option maxRecDepth 100000 in
set_option maxHeartbeats 16000000 in
theorem storeDigests_walk (w : World) (A : Option Addr) (n c : Nat) (ps : List (Int × TU.SV)) (lo hi : Int)
    (hl : ps.length = n) (_ : n ≤ c) (_ : c ≤ maxLen) (hok : ∀ x ∈ ps, okPair w x) (_ : n * 32 ≤ 140737488351232) (hR : Reads w.heap.size w prE 2 A ps)
    (_ : (Lit.int .u64 lo).wf = true) (_ : (Lit.int .u64 hi).wf = true) :
    Calls Try.prog 9 #[.slice A n c, .int .u64 lo, .int .u64 hi] w fun e w' => e = .returned (.bool true) ∧ Below w.heap.size w w' := by
  have hn0 : (0 : Int) ≤ (n : Int) := by omega
  have HR := hid hR
  have HL := hid hl
  have HOK := hid hok
  have hA := fun W => newShelf_any W 1000 (by omega) (by omega)
  have HA := hid hA
  clear hR hl hok hA
  go_enter Try.func9, Try.ntmps9
  go_wp2_with fail
  refine (HA.out _).mono ?_
  rintro e w1 ⟨S1, rfl, hs1, hb1⟩
  have HS1 := hid hs1
  have HB1 := hid hb1
  clear hs1 hb1
  go_wp2_with fail
  refine (HA.out _).mono ?_
  rintro e w2 ⟨S2, rfl, hs2, hb2⟩
  have hst : MvSt w w2 S1 S2 (1000 : Nat) (fun x => w.heap.size ≤ x ∧ x < w1.heap.size) (fun x => w1.heap.size ≤ x ∧ x < w2.heap.size) [] [] (.slice none 0 0) [] :=
    ⟨HS1.out.below hb2, hs2, fun x h1 h2 => by omega, fun x h => h.1, fun x h => by have := HB1.out.size; omega, fun g e => (by cases e), World.ownsRow_nil _ _ _ _, HB1.out.trans (hb2.mono HB1.out.size)⟩
  have HST := hid hst
  clear hst hs2 hb2 HS1 HB1 HA
  go_wp2_with fail
  go_loopg [11] n (fun gx si wr => ∃ (i : Nat) (La : List (Int × List Int)) (Pa Pb : Nat → Prop), si = .int .i64 i ∧ i ≤ n ∧ n - i ≤ gx ∧ La.length ≤ i ∧ Hid (MvSt w wr S1 S2 (1000 : Nat) Pa Pb La [] (.slice none 0 0) []) ∧ Hid (∀ p ∈ La, p.1 ∈ ps.map Prod.fst))
  case atStart => exact ⟨0, [], _, _, rfl, Nat.zero_le _, Nat.le_refl _, Nat.le_refl _, HST, hid (fun p hp => by cases hp)⟩
  case round =>
    clear HST
    obtain ⟨i, La, Pa, Pb, rfl, hin, hg, hLi, HS, HK⟩ := hrel
    by_cases hlt : i < n
    · have hii : (i : Int) < (n : Int) := by omega
      have hi0 : (0 : Int) ≤ (i : Int) := by omega
      have hwi : IntKind.i64.wrap ((i : Int) + 1) = (i : Int) + 1 := wrap_small _ (by omega) (by omega)
      obtain ⟨b, off, p, hp, rfl, hb, hc⟩ := HR.out.at i (by have := HL.out; omega)
      have hokp := HOK.out p (List.mem_of_getElem? hp)
      have hpm : p.1 ∈ ps.map Prod.fst := List.mem_map_of_mem (List.mem_of_getElem? hp)
      obtain ⟨key, vA, vn, vc⟩ := p
      obtain ⟨hkey, bs, hbl, _, _, hbn, hbnil, hU, h255⟩ := hokp
      dsimp only at hbl hbn hU hkey hpm
      subst hbl
      have e0 := hc 0 _ rfl
      have e1 := hc 1 _ rfl
      simp only [Nat.add_zero] at e0
      dsimp only at e0 e1
      have c0 := (HS.out.bel.cell (p := ⟨b, off + i * 2, none⟩) hb).trans e0
      have hget := get_two key HS.out
      have hkeep : ∀ (w3 : World), Below w.heap.size w w3 → w3.cell? ⟨b, off + i * 2, none⟩ = some (.int .u64 key) ∧ w3.cell? ⟨b, off + i * 2 + 1, none⟩ = some (.slice vA bs.length vc) := fun w3 h3 => ⟨(h3.cell (p := ⟨b, off + i * 2, none⟩) hb).trans e0, (h3.cell (p := ⟨b, off + i * 2 + 1, none⟩) hb).trans e1⟩
      have HKP := hid hkeep
      have HU := hid hU
      have H255 := hid h255
      have HPM := hid hpm
      clear hkeep hbnil e0 e1 hc hp hU h255 hpm
      cases hgl : getL TI.cmpI key La with
      | some bs0 =>
        simp only [hgl, Option.getD_some, Option.isSome_some] at hget
        have HGT := hid hget
        clear hget hgl
        go_wp2_with fail
        refine HGT.out.mono ?_
        rintro e w3 ⟨A3, c3, rfl, HV3, HS3⟩
        go_wp2_with fail
        go_roundg (n - (i + 1))
        case measure => omega
        case rel => exact ⟨i + 1, La, Pa, Pb, by go_num, hlt, Nat.le_refl _, by omega, HS3, HK⟩
      | none =>
        simp only [hgl, Option.getD_none, Option.isSome_none, List.length_nil] at hget
        have HGT := hid hget
        have HGL := hid hgl
        clear hget hgl
        by_cases hk : i < 1000
        · have d0 : decide ((i : Int) < 1000) = true := by simp; omega
          have d1 : decide (i < 1000) = true := by simpa using hk
          go_wp2_with fail
          refine HGT.out.mono ?_
          rintro e w3 ⟨A3, c3, rfl, HV3, HS3⟩
          obtain ⟨x0, x1⟩ := HKP.out w3 HS3.out.bel
          have hcl := clone7_any w3.drew vA bs.length vc bs rfl (by omega) ((HU.out.below (HS3.out.drewN 1).bel).mono (HS3.out.drewN 1).bel.size)
          have hset := fun w4 vA2 vc2 (hb4 : Below w3.drew.heap.size w3.drew w4) (hv : w4.ownsRow w3.drew.heap.size 5 1 (.slice vA2 bs.length vc2) bs.length (bs.flatMap u8s)) => set_two (key := key) ((HS3.out.drewN 1).below hb4) (.inr (by omega)) (vA := vA2) (vc := vc2) (bs := bs) hv H255.out hkey
          have hkp3 : ∀ w4 : World, Below w3.drew.heap.size w3.drew w4 → w4.cell? ⟨b, off + i * 2, none⟩ = some (.int .u64 key) ∧ w4.cell? ⟨b, off + i * 2 + 1, none⟩ = some (.slice vA bs.length vc) := fun w4 hb4 => HKP.out w4 ((HS3.out.drewN 1).below hb4).bel
          have HCL := hid hcl
          have HSET := hid hset
          have HKP3 := hid hkp3
          have hpl := putL_len TI.cmpI key bs La
          rw [HGL.out] at hpl
          have hLQ : ∀ k : Int, (if bs.length ≤ 64 then putL TI.cmpI key bs La else La).length ≤ i + 1 := fun _ => by split <;> simp at hpl <;> omega
          have hKQ : ∀ k : Int, ∀ p ∈ (if bs.length ≤ 64 then putL TI.cmpI key bs La else La), p.1 ∈ ps.map Prod.fst := fun _ => by
            split
            · intro p hp
              rcases putL_keys p hp with h1 | h1
              · rw [h1]; exact HPM.out
              · exact HK.out p h1
            · exact HK.out
          have HLQ := hid hLQ
          have HKQ := hid hKQ
          clear hcl hset hkp3 hpl hLQ hKQ HGT hk
          generalize (if bs.length ≤ 64 then putL TI.cmpI key bs La else La) = L' at *
          generalize (if bs.length ≤ 64 then (0 : Int) else 70) = g0 at *
          generalize (decide (bs.length ≤ 64) && !(getL TI.cmpI key La).isSome) = nb at *
          go_wp2_with fail
          go_region_held3 (fun w' => w'.cell? ⟨b, off + i * 2, none⟩ = some (.int .u64 key) ∧ w'.cell? ⟨b, off + i * 2 + 1, none⟩ = some (.slice vA bs.length vc)) (first | (refine ⟨?_, ?_⟩ <;> assumption) | go_keep)
            (first
            | (go_at_call 39; refine HCL.out.mono ?_; rintro e w4 ⟨vA2, vc2, rfl, hv4, hb4⟩; obtain ⟨y0, y1⟩ := HKP3.out w4 hb4; have HS4 := hid (HSET.out w4 vA2 vc2 hb4 hv4); clear hv4 hb4)
            | (go_at_call 38; refine HS4.out.mono ?_; rintro e w5 ⟨rfl, P', H5⟩; obtain ⟨z0, z1⟩ := HKP.out w5 H5.out.bel))
          all_goals
            go_wp2_with fail
            go_roundg (n - (i + 1))
            case measure => omega
            case rel => exact ⟨i + 1, L', P', Pb, by go_num, hlt, Nat.le_refl _, HLQ.out 0, H5, hid (HKQ.out 0)⟩
        · have d0 : decide ((i : Int) < 1000) = false := by simp; omega
          have d1 : decide (i < 1000) = false := by simpa using hk
          go_wp2_with fail
          refine HGT.out.mono ?_
          rintro e w3 ⟨A3, c3, rfl, HV3, HS3⟩
          go_wp2_with fail
          go_roundg (n - (i + 1))
          case measure => omega
          case rel => exact ⟨i + 1, La, Pa, Pb, by go_num, hlt, Nat.le_refl _, by omega, HS3, HK⟩
    · obtain rfl : n = i := by omega
      have hii : ¬ (n : Int) < (n : Int) := by omega
      have hwn : IntKind.i64.wrap ((n : Int) - 1) = (n : Int) - 1 := wrap_mid _ (by omega) (by omega)
      have HTK := hid (takeK_all HK.out)
      have hsm := HS.out.a.small
      have hup := HS.out.a.up
      have hlen := HS.out.a.few
      have HSM := hid hsm
      have HUP := hid hup
      have HLE := hid hlen.1
      clear hsm hup hlen HK hLi
      have HLL := hid HL.out
      have HTN : Hid (takeK ((ps.drop n).map Prod.fst) La = []) := hid (by rw [← HLL.out, List.drop_length]; exact takeK_nil La)
      go_wp2_with fail
      go_loopg [14] n (fun gx si wr => ∃ (j : Nat) (x : Int) (Pb : Nat → Prop), si = .int .i64 x ∧ x = (j : Int) - 1 ∧ j ≤ n ∧ j ≤ gx ∧ ∃ Pa, Hid (MvSt w wr S1 S2 (1000 : Nat) Pa Pb La (takeK ((ps.drop j).map Prod.fst) La) (.slice none 0 0) []))
      case atStart => exact ⟨n, _, Pb, rfl, rfl, Nat.le_refl _, Nat.le_refl _, Pa, by rw [HTN.out]; exact HS⟩
      case round =>
        clear HS
        obtain ⟨j, x, Pb, rfl, hx, hjn, hjg, Pa, HS⟩ := hrel
        cases j with
        | succ i =>
          obtain rfl : x = (i : Int) := by omega
          clear hx
          have hi0 : (0 : Int) ≤ (i : Int) := by omega
          have hii : (i : Int) < (n : Int) := by omega
          have hge : decide ((i : Int) ≥ 0) = true := by simp
          have hwi : IntKind.i64.wrap ((i : Int) - 1) = (i : Int) - 1 := wrap_mid _ (by omega) (by omega)
          obtain ⟨b, off, p, hp, rfl, hb, hc⟩ := HR.out.at i (by have := HLL.out; omega)
          have hdr : (ps.drop i).map Prod.fst = p.1 :: (ps.drop (i + 1)).map Prod.fst := by
            obtain ⟨hi', e⟩ := List.getElem?_eq_some_iff.1 hp
            rw [List.drop_eq_getElem_cons hi', e]; rfl
          have hokp := HOK.out p (List.mem_of_getElem? hp)
          obtain ⟨key, vA, vn, vc⟩ := p
          obtain ⟨hkey, _⟩ := hokp
          try dsimp only at hkey
          try dsimp only at hdr
          have e0 := hc 0 _ rfl
          simp only [Nat.add_zero] at e0
          try dsimp only at e0
          have c0 := (HS.out.bel.cell (p := ⟨b, off + i * 2, none⟩) hb).trans e0
          have hget := get_two key HS.out
          have hkeep : ∀ (w3 : World), Below w.heap.size w w3 → w3.cell? ⟨b, off + i * 2, none⟩ = some (.int .u64 key) := fun w3 h3 => (h3.cell (p := ⟨b, off + i * 2, none⟩) hb).trans e0
          have HKP := hid hkeep
          have HDR := hid hdr
          clear hkeep e0 hc hp hdr
          cases hgl : getL TI.cmpI key La with
          | none =>
            simp only [hgl, Option.getD_none, Option.isSome_none, List.length_nil] at hget
            have HGT := hid hget
            have HEQ := hid (takeK_none HUP.out hgl ((ps.drop (i + 1)).map Prod.fst))
            clear hget hgl
            go_wp2_with fail
            refine HGT.out.mono ?_
            rintro e w3 ⟨A3, c3, rfl, HV3, HS3⟩
            go_wp2_with fail
            go_roundg i
            case measure => omega
            case rel => exact ⟨i, _, Pb, rfl, rfl, by omega, Nat.le_refl _, Pa, by rw [HDR.out, HEQ.out]; exact HS3⟩
          | some bs =>
            simp only [hgl, Option.getD_some, Option.isSome_some] at hget
            have h255 : ∀ x ∈ bs, 0 ≤ x ∧ x ≤ 255 := by
              obtain ⟨M, T, hh⟩ := HS.out.a
              have := (hh.told key).2.2.2.1
              rw [hgl] at this
              exact this
            have hmem := (getL_iff TI.cmpI_ord cmpI_tight HUP.out key bs).1 hgl
            have h64 := (HSM.out _ hmem).1
            dsimp only at h64
            have hput := takeK_put HUP.out hgl ((ps.drop (i + 1)).map Prod.fst)
            have hroom : (getL TI.cmpI key (takeK ((ps.drop (i + 1)).map Prod.fst) La)).isSome = true ∨ ((takeK ((ps.drop (i + 1)).map Prod.fst) La).length : Int) < (1000 : Nat) := by
              have h1 := putL_len TI.cmpI key bs (takeK ((ps.drop (i + 1)).map Prod.fst) La)
              have h2 : (putL TI.cmpI key bs (takeK ((ps.drop (i + 1)).map Prod.fst) La)).length ≤ La.length := by rw [hput]; exact List.length_filter_le _ _
              have h3 := HLE.out
              by_cases h : (getL TI.cmpI key (takeK ((ps.drop (i + 1)).map Prod.fst) La)).isSome = true
              · exact .inl h
              · rw [if_neg h] at h1; exact .inr (by omega)
            have HGT := hid hget
            have HPT := hid hput
            have HRM := hid hroom
            have H255 := hid h255
            clear hget hgl hmem hput hroom h255
            go_wp2_with fail
            refine HGT.out.mono ?_
            rintro e w3 ⟨A3, c3, rfl, HV3, HS3⟩
            have ck3 := HKP.out w3 HS3.out.bel
            have hset := set_two (key := key) HS3.out.swap HRM.out HV3.out H255.out hkey
            simp only [if_pos h64, HPT.out] at hset
            generalize (decide (bs.length ≤ 64) && !(getL TI.cmpI key (takeK ((ps.drop (i + 1)).map Prod.fst) La)).isSome) = nb at *
            have HST := hid hset
            clear hset HGT HRM
            go_wp2_with fail
            refine HST.out.mono ?_
            rintro e w4 ⟨rfl, P', H4⟩
            go_wp2_with fail
            go_roundg i
            case measure => omega
            case rel => exact ⟨i, _, P', rfl, rfl, by omega, Nat.le_refl _, Pa, by rw [HDR.out]; exact H4.out.swap⟩
        | zero =>
          have hge : decide (x ≥ 0) = false := by simp; omega
          have hge' : decide (0 ≤ x) = false := by simp; omega
          clear hx
          go_wp2_with fail
          have hS : MvSt w wr S1 S2 (1000 : Nat) Pa Pb La La (.slice none 0 0) [] := by
            have := HS.out
            rwa [List.drop_zero, HTK.out] at this
          have HS := hid hS
          have hscan := shScan_any wr S1 _ _ La lo hi 1000 hS.a
          have hlf := List.length_filter_le (inR TI.cmpI lo hi) La
          have hlk := HLE.out
          obtain ⟨G, hG⟩ : ∃ G, G = La.filter (inR TI.cmpI lo hi) := ⟨_, rfl⟩
          rw [show (1000 : Int).toNat = 1000 from rfl, List.take_of_length_le (by omega), ← hG] at hscan
          rw [← hG] at hlf
          have hgn : G.length ≤ 1000 := by omega
          have HGS : Hid (∀ p ∈ G, p.2.length ≤ 64 ∧ 0 ≤ p.1 ∧ p.1 ≤ 18446744073709551615) := hid (fun p hp => by rw [hG] at hp; exact HSM.out p (List.mem_filter.1 hp).1)
          have HDA := hid (fun (W : World) (h : MvSt w W S1 S2 (1000 : Nat) Pa Pb La La (.slice none 0 0) []) => shDigest_any W S1 _ _ La lo hi h.a)
          have HDB := hid (fun (W : World) (h : MvSt w W S1 S2 (1000 : Nat) Pa Pb La La (.slice none 0 0) []) => shDigest_any W S2 _ _ La lo hi h.b)
          rw [← hG] at HDA HDB
          have HSC := hid hscan
          clear hscan hlf hlk hS hG HSM HTK HUP HLE HTN
          refine HSC.out.mono ?_
          rintro e w5 ⟨v5, rfl, hp5, hb5⟩
          obtain ⟨lA, lc, rfl, hc1, hc2, hat⟩ := hp5.slice
          have hS5 := HS.out.below hb5
          have HS5 := hid hS5
          have HAT := hid hat
          clear hp5 hb5 hS5 hat HSC HS
          generalize (decide (1000 < G.length)) = mo at *
          go_wp2_with fail
          go_loopg [21, 22] G.length (fun gx sv si wr => ∃ (i : Nat) (xs : List Int) (m : Nat) (xA : Option Addr) (xc : Nat), si = .int .i64 i ∧ sv = .slice xA m xc ∧ i ≤ G.length ∧ G.length - i ≤ gx ∧ m ≤ i * 74 ∧ Hid (xs.length = m) ∧ Hid (xs = (G.take i).flatMap pairB) ∧ Hid (∀ x ∈ xs, 0 ≤ x ∧ x ≤ 255) ∧ Hid (wr.ownsRow w5.heap.size 5 1 (.slice xA m xc) m (xs.flatMap u8s)) ∧ Hid (Below w5.heap.size w5 wr))
          case atStart => exact ⟨0, [], 0, none, 0, rfl, rfl, Nat.zero_le _, Nat.le_refl _, Nat.zero_le _, hid rfl, hid rfl, hid (fun x hx => by cases hx), hid (World.ownsRow_nil _ _ _ _), hid (Below.refl _ _)⟩
          case round =>
            obtain ⟨i, xs, m, xA, xc, rfl, rfl, hil, hgy, hxl, HL1, HX, H255, HO, HB⟩ := hrel
            by_cases hlt : i < G.length
            · have hii : (i : Int) < (G.length : Int) := by omega
              have hi0 : (0 : Int) ≤ (i : Int) := by omega
              have hwi : IntKind.i64.wrap ((i : Int) + 1) = (i : Int) + 1 := wrap_small _ (by omega) (by omega)
              obtain ⟨b', off', key, bs, vA, vc, hgi, rfl, _, hb', g0, g1, grow, g255⟩ := HAT.out i hlt
              obtain ⟨h64, hk0, hk1⟩ := HGS.out _ (List.mem_of_getElem? hgi)
              dsimp only at h64 hk0 hk1
              obtain ⟨A1', c1', e1, n1, u1⟩ := ownsRow_ev (v := (vA, bs.length, vc)) (ownsRow_zero grow)
              obtain ⟨rfl, rfl⟩ : vA = A1' ∧ vc = c1' := by injection e1 with e3 e4; injection e4 with _ e5; exact ⟨e3, e5⟩
              have hcell : ∀ wy, Below w5.heap.size w5 wy → wy.cell? ⟨b', off' + i * 2, none⟩ = some (.int .u64 key) ∧ wy.cell? ⟨b', off' + i * 2 + 1, none⟩ = some (.slice vA bs.length vc) := fun wy h => ⟨(h.cell (p := ⟨b', off' + i * 2, none⟩) hb').trans g0, (h.cell (p := ⟨b', off' + i * 2 + 1, none⟩) hb').trans g1⟩
              have HCE := hid hcell
              have HU := hid u1
              have HGI := hid hgi
              have HG255 := hid g255
              clear hcell u1 n1 e1 grow g255 g0 g1 hgi
              go_wp2_with fail
              go_loopg [21, 23] 8 (fun gz sv sk wz => ∃ (j : Nat) (k : Int) (ys : List Int) (m' : Nat) (yA : Option Addr) (yc : Nat), sk = .int .i64 k ∧ k = 56 - 8 * (j : Int) ∧ sv = .slice yA m' yc ∧ j ≤ 8 ∧ 8 - j ≤ gz ∧ m' = m + j ∧ Hid (ys.length = m') ∧ Hid (ys = xs ++ (head8 key).take j) ∧ Hid (wz.ownsRow w5.heap.size 5 1 (.slice yA m' yc) m' (ys.flatMap u8s)) ∧ Hid (Below w5.heap.size w5 wz))
              case atStart => exact ⟨0, 56, xs, m, xA, xc, rfl, rfl, rfl, Nat.zero_le _, Nat.le_refl _, rfl, HL1, hid (by simp), HO, HB⟩
              case round =>
                clear HO HB
                obtain ⟨j, k, ys, m', yA, yc, rfl, hk, rfl, hj8, hgz, hm', HL2, HY, HO2, HB2⟩ := hrel
                obtain ⟨ck0, ck1⟩ := HCE.out _ HB2.out
                have HMQ := hid hm'
                have hm75 : m' ≤ 80000 := by omega
                clear hm'
                rcases (show j = 0 ∨ j = 1 ∨ j = 2 ∨ j = 3 ∨ j = 4 ∨ j = 5 ∨ j = 6 ∨ j = 7 ∨ j = 8 by omega) with rfl | rfl | rfl | rfl | rfl | rfl | rfl | rfl | rfl
                · obtain rfl : k = 56 := by omega
                  clear hk
                  go_wp2_with (at_builtin; refine wpList_append_one (enc := u8s) wr w5.heap.size rfl _ _ 65 5 _ 1 rfl Try.underlying65 infoU8 rfl (by decide) u8s_len u8s_one (.slice yA m' yc) ys (key / 72057594037927936) _ rfl rfl _ rfl rfl (by rw [HL2.out]; exact HO2.out) (by rw [HL2.out]; simp only [maxLen]; omega) (by rw [HL2.out]; omega) HB2.out.size ?_; intro v1 w6 hown hgr hat; obtain ⟨yA', yc', rfl, HO3, HB3⟩ := app_one HL2.out HO2.out HB2.out hown hgr; clear hown hgr hat)
                  go_roundg 7
                  case measure => omega
                  case rel => exact ⟨1, (48), ys ++ [(key / 72057594037927936)], m' + 1, yA', yc', rfl, rfl, rfl, by omega, by omega, by have := HMQ.out; omega, hid (by simp [HL2.out]), hid (by rw [HY.out, show key / 72057594037927936 = key / 72057594037927936 % 256 by omega]; simp [head8]), HO3, HB3⟩
                · obtain rfl : k = 48 := by omega
                  clear hk
                  go_wp2_with (at_builtin; refine wpList_append_one (enc := u8s) wr w5.heap.size rfl _ _ 65 5 _ 1 rfl Try.underlying65 infoU8 rfl (by decide) u8s_len u8s_one (.slice yA m' yc) ys (key / 281474976710656 % 256) _ rfl rfl _ rfl rfl (by rw [HL2.out]; exact HO2.out) (by rw [HL2.out]; simp only [maxLen]; omega) (by rw [HL2.out]; omega) HB2.out.size ?_; intro v1 w6 hown hgr hat; obtain ⟨yA', yc', rfl, HO3, HB3⟩ := app_one HL2.out HO2.out HB2.out hown hgr; clear hown hgr hat)
                  go_roundg 6
                  case measure => omega
                  case rel => exact ⟨2, (40), ys ++ [(key / 281474976710656 % 256)], m' + 1, yA', yc', rfl, rfl, rfl, by omega, by omega, by have := HMQ.out; omega, hid (by simp [HL2.out]), hid (by rw [HY.out]; simp [head8]), HO3, HB3⟩
                · obtain rfl : k = 40 := by omega
                  clear hk
                  go_wp2_with (at_builtin; refine wpList_append_one (enc := u8s) wr w5.heap.size rfl _ _ 65 5 _ 1 rfl Try.underlying65 infoU8 rfl (by decide) u8s_len u8s_one (.slice yA m' yc) ys (key / 1099511627776 % 256) _ rfl rfl _ rfl rfl (by rw [HL2.out]; exact HO2.out) (by rw [HL2.out]; simp only [maxLen]; omega) (by rw [HL2.out]; omega) HB2.out.size ?_; intro v1 w6 hown hgr hat; obtain ⟨yA', yc', rfl, HO3, HB3⟩ := app_one HL2.out HO2.out HB2.out hown hgr; clear hown hgr hat)
                  go_roundg 5
                  case measure => omega
                  case rel => exact ⟨3, (32), ys ++ [(key / 1099511627776 % 256)], m' + 1, yA', yc', rfl, rfl, rfl, by omega, by omega, by have := HMQ.out; omega, hid (by simp [HL2.out]), hid (by rw [HY.out]; simp [head8]), HO3, HB3⟩
                · obtain rfl : k = 32 := by omega
                  clear hk
                  go_wp2_with (at_builtin; refine wpList_append_one (enc := u8s) wr w5.heap.size rfl _ _ 65 5 _ 1 rfl Try.underlying65 infoU8 rfl (by decide) u8s_len u8s_one (.slice yA m' yc) ys (key / 4294967296 % 256) _ rfl rfl _ rfl rfl (by rw [HL2.out]; exact HO2.out) (by rw [HL2.out]; simp only [maxLen]; omega) (by rw [HL2.out]; omega) HB2.out.size ?_; intro v1 w6 hown hgr hat; obtain ⟨yA', yc', rfl, HO3, HB3⟩ := app_one HL2.out HO2.out HB2.out hown hgr; clear hown hgr hat)
                  go_roundg 4
                  case measure => omega
                  case rel => exact ⟨4, (24), ys ++ [(key / 4294967296 % 256)], m' + 1, yA', yc', rfl, rfl, rfl, by omega, by omega, by have := HMQ.out; omega, hid (by simp [HL2.out]), hid (by rw [HY.out]; simp [head8]), HO3, HB3⟩
                · obtain rfl : k = 24 := by omega
                  clear hk
                  go_wp2_with (at_builtin; refine wpList_append_one (enc := u8s) wr w5.heap.size rfl _ _ 65 5 _ 1 rfl Try.underlying65 infoU8 rfl (by decide) u8s_len u8s_one (.slice yA m' yc) ys (key / 16777216 % 256) _ rfl rfl _ rfl rfl (by rw [HL2.out]; exact HO2.out) (by rw [HL2.out]; simp only [maxLen]; omega) (by rw [HL2.out]; omega) HB2.out.size ?_; intro v1 w6 hown hgr hat; obtain ⟨yA', yc', rfl, HO3, HB3⟩ := app_one HL2.out HO2.out HB2.out hown hgr; clear hown hgr hat)
                  go_roundg 3
                  case measure => omega
                  case rel => exact ⟨5, (16), ys ++ [(key / 16777216 % 256)], m' + 1, yA', yc', rfl, rfl, rfl, by omega, by omega, by have := HMQ.out; omega, hid (by simp [HL2.out]), hid (by rw [HY.out]; simp [head8]), HO3, HB3⟩
                · obtain rfl : k = 16 := by omega
                  clear hk
                  go_wp2_with (at_builtin; refine wpList_append_one (enc := u8s) wr w5.heap.size rfl _ _ 65 5 _ 1 rfl Try.underlying65 infoU8 rfl (by decide) u8s_len u8s_one (.slice yA m' yc) ys (key / 65536 % 256) _ rfl rfl _ rfl rfl (by rw [HL2.out]; exact HO2.out) (by rw [HL2.out]; simp only [maxLen]; omega) (by rw [HL2.out]; omega) HB2.out.size ?_; intro v1 w6 hown hgr hat; obtain ⟨yA', yc', rfl, HO3, HB3⟩ := app_one HL2.out HO2.out HB2.out hown hgr; clear hown hgr hat)
                  go_roundg 2
                  case measure => omega
                  case rel => exact ⟨6, (8), ys ++ [(key / 65536 % 256)], m' + 1, yA', yc', rfl, rfl, rfl, by omega, by omega, by have := HMQ.out; omega, hid (by simp [HL2.out]), hid (by rw [HY.out]; simp [head8]), HO3, HB3⟩
                · obtain rfl : k = 8 := by omega
                  clear hk
                  go_wp2_with (at_builtin; refine wpList_append_one (enc := u8s) wr w5.heap.size rfl _ _ 65 5 _ 1 rfl Try.underlying65 infoU8 rfl (by decide) u8s_len u8s_one (.slice yA m' yc) ys (key / 256 % 256) _ rfl rfl _ rfl rfl (by rw [HL2.out]; exact HO2.out) (by rw [HL2.out]; simp only [maxLen]; omega) (by rw [HL2.out]; omega) HB2.out.size ?_; intro v1 w6 hown hgr hat; obtain ⟨yA', yc', rfl, HO3, HB3⟩ := app_one HL2.out HO2.out HB2.out hown hgr; clear hown hgr hat)
                  go_roundg 1
                  case measure => omega
                  case rel => exact ⟨7, (0), ys ++ [(key / 256 % 256)], m' + 1, yA', yc', rfl, rfl, rfl, by omega, by omega, by have := HMQ.out; omega, hid (by simp [HL2.out]), hid (by rw [HY.out]; simp [head8]), HO3, HB3⟩
                · obtain rfl : k = 0 := by omega
                  clear hk
                  go_wp2_with (at_builtin; refine wpList_append_one (enc := u8s) wr w5.heap.size rfl _ _ 65 5 _ 1 rfl Try.underlying65 infoU8 rfl (by decide) u8s_len u8s_one (.slice yA m' yc) ys (key % 256) _ rfl rfl _ rfl rfl (by rw [HL2.out]; exact HO2.out) (by rw [HL2.out]; simp only [maxLen]; omega) (by rw [HL2.out]; omega) HB2.out.size ?_; intro v1 w6 hown hgr hat; obtain ⟨yA', yc', rfl, HO3, HB3⟩ := app_one HL2.out HO2.out HB2.out hown hgr; clear hown hgr hat)
                  go_roundg 0
                  case measure => omega
                  case rel => exact ⟨8, (-8), ys ++ [(key % 256)], m' + 1, yA', yc', rfl, rfl, rfl, by omega, by omega, by have := HMQ.out; omega, hid (by simp [HL2.out]), hid (by rw [HY.out]; simp [head8]), HO3, HB3⟩
                · obtain rfl : k = -8 := by omega
                  have hge : decide ((-8 : Int) ≥ 0) = false := by decide
                  clear hk
                  go_wp2_with (first
                    | (at_builtin; refine wpList_append_one (enc := u8s) wr w5.heap.size rfl _ _ 65 5 _ 1 rfl Try.underlying65 infoU8 rfl (by decide) u8s_len u8s_one (.slice yA m' yc) ys 0 _ rfl rfl _ rfl rfl (by rw [HL2.out]; exact HO2.out) (by rw [HL2.out]; simp only [maxLen]; omega) (by rw [HL2.out]; omega) HB2.out.size ?_; intro v6 w6 hown hgr hat; obtain ⟨yA6, yc6, rfl, HO6, HB6⟩ := app_one HL2.out HO2.out HB2.out hown hgr; have HL6 : Hid ((ys ++ [0]).length = m' + 1) := hid (by simp [HL2.out]); obtain ⟨cj0, cj1⟩ := HCE.out _ HB6.out; clear hown hgr hat)
                    | (at_builtin; refine wpList_append_one (enc := u8s) w6 w5.heap.size rfl _ _ 65 5 _ 1 rfl Try.underlying65 infoU8 rfl (by decide) u8s_len u8s_one (.slice yA6 (m' + 1) yc6) (ys ++ [0]) (bs.length : Int) _ rfl rfl _ rfl rfl (by rw [HL6.out]; exact HO6.out) (by rw [HL6.out]; simp only [maxLen]; omega) (by rw [HL6.out]; omega) HB6.out.size ?_; intro v7 w7 hown hgr hat; obtain ⟨yA7, yc7, rfl, HO7, HB7⟩ := app_one HL6.out HO6.out HB6.out hown hgr; have HL7 : Hid ((ys ++ [0] ++ [(bs.length : Int)]).length = m' + 1 + 1) := hid (by simp [HL2.out]); obtain ⟨cl0, cl1⟩ := HCE.out _ HB7.out; clear hown hgr hat)
                    | (at_builtin; refine wpList_append_reads (B := w5.heap.size) w7 w5.heap.size rfl _ _ 65 5 _ 1 rfl Try.underlying65 infoU8 rfl (by decide) (.slice yA7 (m' + 1 + 1) yc7) (m' + 1 + 1) _ rfl HO7.out vA bs.length vc bs rfl rfl (HU.out.below HB7.out) u8s_len u8s_one (by simp only [maxLen]; omega) (by omega) HB7.out.size ?_; intro v8 w8 hown hgr hat; obtain ⟨yA8, yc8, rfl, HO8, HB8⟩ := app_all HO7.out HB7.out hown hgr; clear hown hgr hat))
                  have hp2 : ys ++ [0] ++ [(bs.length : Int)] ++ bs = xs ++ pairB (key, bs) := by
                    rw [HY.out]
                    unfold pairB
                    dsimp only
                    rw [show (bs.length : Int) / 256 % 256 = 0 by omega, show (bs.length : Int) % 256 = (bs.length : Int) by omega, show (head8 key).take 8 = head8 key from rfl]
                    simp only [List.append_assoc, List.cons_append, List.nil_append]
                  have hlz : (ys ++ [0] ++ [(bs.length : Int)] ++ bs).length = m' + 1 + 1 + bs.length := by rw [List.length_append, HL7.out]
                  have hpe : ys ++ [0] ++ [(bs.length : Int)] ++ bs = (G.take (i + 1)).flatMap pairB := by rw [hp2, take_snoc' HGI.out, List.flatMap_append, List.flatMap_singleton, ← HX.out]
                  have hp3 : ∀ x ∈ ys ++ [0] ++ [(bs.length : Int)] ++ bs, 0 ≤ x ∧ x ≤ 255 := by
                    rw [hp2]
                    intro x hx
                    rcases List.mem_append.1 hx with hx | hx
                    · exact H255.out x hx
                    · exact pairB_byte _ HG255.out x hx
                  have HPE := hid hpe
                  have HP3 := hid hp3
                  have HLZ := hid hlz
                  clear hp2 hlz hpe hp3
                  go_roundg (G.length - (i + 1))
                  case measure => omega
                  case rel => exact ⟨i + 1, _, _, yA8, yc8, by go_num, rfl, hlt, Nat.le_refl _, by have := HMQ.out; omega, HLZ, HPE, HP3, HO8, HB8⟩
            · obtain rfl : G.length = i := by omega
              have hii : ¬ (G.length : Int) < (G.length : Int) := by omega
              have hx := HX.out
              rw [List.take_length] at hx
              have hz : fnvL 14695981039346656037 xs = digL G := by rw [hx]; rfl
              obtain ⟨_, A1, c1, e1, _, _, u1⟩ := owns_reads u8s_len HO.out (by decide)
              obtain ⟨rfl, rfl⟩ : xA = A1 ∧ xc = c1 := by injection e1 with e3 e4 e5; exact ⟨e3, e5⟩
              have hfn := fnv_any wr xA m xc xs HL1.out (by omega) H255.out u1
              rw [hz] at hfn
              have hS6 := HS5.out.below HB.out
              have HDW := hid (HDA.out wr hS6)
              have HS6 := hid hS6
              have HFN := hid hfn
              clear hx hz e1 u1 hfn hS6 HDA HX H255 HO
              generalize digL G = z at *
              go_wp2_with fail
              refine HFN.out.mono ?_
              rintro e w6 ⟨rfl, hw6⟩
              obtain rfl : wr = w6 := hw6.symm
              go_wp2_with fail
              refine HDW.out.mono ?_
              rintro e w7 ⟨rfl, hb7⟩
              have hS7 := HS6.out.below hb7
              have HDX := hid (HDB.out w7 hS7)
              have HS7 := hid hS7
              clear hS7 hb7 HDB HDW HFN
              go_wp2_with fail
              refine HDX.out.mono ?_
              rintro e w8 ⟨rfl, hb8⟩
              have hS8 := HS7.out.below hb8
              have HLA := hid (shLen_any w8 S1 _ _ La hS8.a)
              have HLB := hid (shLen_any w8 S2 _ _ La hS8.b)
              have HS8 := hid hS8
              clear hS8 hb8 HDX
              go_wp2_with fail
              refine HLA.out.mono ?_
              rintro e w9 ⟨rfl, hw9⟩
              obtain rfl : w8 = w9 := hw9.symm
              go_wp2_with fail
              refine HLB.out.mono ?_
              rintro e w10 ⟨rfl, hw10⟩
              obtain rfl : w8 = w10 := hw10.symm
              go_wp2_with fail
              go_ret
              exact ⟨rfl, HS8.out.bel⟩
end Go.Proofs.Ytfjeagffdijcoaa
