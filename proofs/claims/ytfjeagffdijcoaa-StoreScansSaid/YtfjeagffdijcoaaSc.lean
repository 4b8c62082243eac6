/- Layer 7: the walk of StoreScans. -/
import Derived.Test.YtfjeagffdijcoaaScP
import Derived.Test.YtfjeagffdijcoaaClo7
import Derived.Test.YtfjeagffdijcoaaOpenW
namespace Go.Proofs.Ytfjeagffdijcoaa
open Go.RowKit Go.Shelf

/-- the shelf of a statement: it, and what else is kept -/
structure OneSt (w wr : World) (S : Nat) (most : Int) (P : Nat → Prop) (L : List (Int × List Int)) : Prop where
  sh : IsShelf wr S most P L
  wa : ∀ x, P x → w.heap.size ≤ x
  bel : Below w.heap.size w wr
namespace OneSt
variable {w wr w' : World} {S : Nat} {most : Int} {P P' : Nat → Prop} {L L' : List (Int × List Int)}
theorem below (h : OneSt w wr S most P L) (hb : Below wr.heap.size wr w') : OneSt w w' S most P L := ⟨h.sh.below hb, h.wa, h.bel.trans (hb.mono h.bel.size)⟩
theorem drewN (h : OneSt w wr S most P L) (q : Nat) : OneSt w (wr.drewN q) S most P L := h.below (below_drewN' (Below.refl _ wr) q)
theorem call (h : OneSt w wr S most P L) (ha : IsShelf w' S most P' L') (hw : Wrote P wr w') (hP : ∀ x, P' x → P x ∨ wr.heap.size ≤ x) : OneSt w w' S most P' L' :=
  ⟨ha, fun x hx => (hP x hx).elim (h.wa x) (fun h1 => Nat.le_trans h.bel.size h1), (Wrote.step (S := fun _ => False) (Wrote.below h.bel) hw (fun x hx => .inr (h.wa x hx))).toBelow (fun _ h => h.elim)⟩
end OneSt

/-- clone, then Set: whatever the value's length -/
theorem set_all {w wr : World} {S n : Nat} {P : Nat → Prop} {L : List (Int × List Int)} {vA : Option Addr} {vc : Nat} {key : Int} {bs : List Int} (h : OneSt w wr S n P L) (hroom : L.length < n) (hv : wr.ownsRow w.heap.size 5 1 (.slice vA bs.length vc) bs.length (bs.flatMap u8s)) (hbs : ∀ x ∈ bs, 0 ≤ x ∧ x ≤ 255) (hk : 0 ≤ key ∧ key ≤ 18446744073709551615) :
    Calls Try.prog 38 #[.pointer (some ⟨S, 0, none⟩), .int .u64 key, .slice vA bs.length vc] wr fun e w' =>
      e = .returned (.tuple #[.bool (decide (bs.length ≤ 64) && !(getL TI.cmpI key L).isSome), .int .i64 (if bs.length ≤ 64 then 0 else 70)]) ∧ ∃ P', Hid (OneSt w w' S n P' (if bs.length ≤ 64 then putL TI.cmpI key bs L else L)) := by
  by_cases h64 : bs.length ≤ 64
  · obtain ⟨A', c', e, hn, hU⟩ := ownsRow_ev (v := (vA, bs.length, vc)) hv
    obtain ⟨rfl, rfl⟩ : vA = A' ∧ vc = c' := by injection e with e3 e4; injection e4 with _ e5; exact ⟨e3, e5⟩
    refine (shSet_ok wr S n P L vA bs.length vc key bs h.sh rfl h64 (.inr (by omega)) hn hU hbs hk).mono ?_
    rintro e w' ⟨rfl, h1, h2⟩
    rw [if_pos h64, if_pos h64, decide_eq_true h64, Bool.true_and]
    exact ⟨rfl, _, h.call h1 h2 (fun x hx => hx.imp id fun h => h.1)⟩
  · refine (shSet_long wr S vA bs.length vc key (by omega)).mono ?_
    rintro e w' ⟨rfl, rfl⟩
    rw [if_neg h64, if_neg h64, decide_eq_false h64, Bool.false_and]
    exact ⟨rfl, P, h⟩

set_option maxRecDepth 100000 in
set_option maxHeartbeats 16000000 in
theorem storeScans_walk (w : World) (A : Option Addr) (n c : Nat) (ps : List (Int × TU.SV)) (lo hi limit : Int)
    (hl : ps.length = n) (_ : n ≤ c) (_ : c ≤ maxLen) (hok : ∀ x ∈ ps, okPair w x) (_ : n * 32 ≤ 140737488351232) (hR : Reads w.heap.size w prE 2 A ps)
    (hlo : (Lit.int .u64 lo).wf = true) (hhi : (Lit.int .u64 hi).wf = true) (hlim : (Lit.int .i64 limit).wf = true) :
    Calls Try.prog 12 #[.slice A n c, .int .u64 lo, .int .u64 hi, .int .i64 limit] w fun e w' => e = .returned (.bool true) ∧ Below w.heap.size w w' := by
  have hn0 : (0 : Int) ≤ (n : Int) := by omega
  have hm1 : 0 ≤ (n : Int) % 30000 := by omega
  have hm2 : (n : Int) % 30000 ≤ 32768 := by omega
  have HLO := hid (wf_u64 hlo)
  have HHI := hid (wf_u64 hhi)
  have HLM := hid (wf_i64 hlim)
  have HR := hid hR
  have HL := hid hl
  have HOK := hid hok
  clear hR hl hok hlo hhi hlim
  by_cases hbig : 30000 ≤ n
  · have b0 : decide ((n : Int) ≥ 30000) = true := by simp; omega
    have b1 : decide (30000 ≤ (n : Int)) = true := by simp; omega
    have b2 : decide (30000 ≤ n) = true := by simpa using hbig
    have hA := fun W => newShelf_any W _ hm1 hm2
    have HA := hid hA
    clear hA
    go_enter Try.func12, Try.ntmps12
    go_wp2_with fail
    refine (HA.out _).mono ?_
    rintro e w1 ⟨S1, rfl, _, hb1⟩
    go_wp2_with fail
    go_ret
    exact ⟨rfl, hb1⟩
  · have b0 : decide ((n : Int) ≥ 30000) = false := by simp; omega
    have b1 : decide (30000 ≤ (n : Int)) = false := by simp; omega
    have b2 : decide (30000 ≤ n) = false := by simpa using hbig
    have hA := fun W => newShelf_any W (n : Int) hn0 (by omega)
    have hmod : (n : Int) % 30000 = (n : Int) := by omega
    have hnb : n < 30000 := by omega
    have HA := hid hA
    clear hA hbig hm1 hm2
    go_enter Try.func12, Try.ntmps12
    go_wp2_with fail
    refine (HA.out _).mono ?_
    rintro e w1 ⟨S, rfl, hs1, hb1⟩
    have HST : Hid (OneSt w w1 S n _ []) := hid ⟨hs1, fun x h => h.1, hb1⟩
    clear hs1 hb1 HA hmod
    go_wp2_with fail
    go_loopg [11, 12] n (fun gx sn si wr => ∃ (i : Nat) (L : List (Int × List Int)) (P : Nat → Prop) (m : Nat), si = .int .i64 i ∧ i ≤ n ∧ n - i ≤ gx ∧ sn = .int .i64 m ∧ m ≤ i ∧ L.length ≤ i ∧ Hid (OneSt w wr S n P L) ∧ Hid (m = (L.filter (inR TI.cmpI lo hi)).length))
    case atStart => exact ⟨0, [], _, 0, rfl, Nat.zero_le _, Nat.le_refl _, rfl, Nat.le_refl _, Nat.le_refl _, HST, hid rfl⟩
    case round =>
      clear HST
      obtain ⟨i, L, P, m, rfl, hin, hg, rfl, hmi, hLi, HS, HM⟩ := hrel
      by_cases hlt : i < n
      · have hii : (i : Int) < (n : Int) := by omega
        have hi0 : (0 : Int) ≤ (i : Int) := by omega
        have hwi : IntKind.i64.wrap ((i : Int) + 1) = (i : Int) + 1 := wrap_small _ (by omega) (by omega)
        have hwm : IntKind.i64.wrap ((m : Int) + 1) = (m : Int) + 1 := wrap_small _ (by omega) (by omega)
        obtain ⟨b, off, p, hp, rfl, hb, hc⟩ := HR.out.at i (by have := HL.out; omega)
        have hokp := HOK.out p (List.mem_of_getElem? hp)
        obtain ⟨key, vA, vn, vc⟩ := p
        obtain ⟨hkey, bs, hbl, _, _, hbn, hbnil, hU, h255⟩ := hokp
        dsimp only at hbl hbn hU hkey
        subst hbl
        have e0 := hc 0 _ rfl
        have e1 := hc 1 _ rfl
        simp only [Nat.add_zero] at e0
        dsimp only at e0 e1
        have c0 := (HS.out.bel.cell (p := ⟨b, off + i * 2, none⟩) hb).trans e0
        have c1 := (HS.out.bel.cell (p := ⟨b, off + i * 2 + 1, none⟩) hb).trans e1
        have hcl := clone7_any wr.drew vA bs.length vc bs rfl (by omega) ((hU.below (HS.out.drewN 1).bel).mono (HS.out.drewN 1).bel.size)
        have hset := fun w3 vA2 vc2 (hb3 : Below wr.drew.heap.size wr.drew w3) (hv : w3.ownsRow wr.drew.heap.size 5 1 (.slice vA2 bs.length vc2) bs.length (bs.flatMap u8s)) => set_all (key := key) ((HS.out.drewN 1).below hb3) (by omega) (vA := vA2) (vc := vc2) (bs := bs) ⟨hv.1, hv.2.imp id fun ⟨g, cap, cur, g1, g2, g3⟩ => ⟨g, cap, cur, g1, Nat.le_trans (HS.out.drewN 1).bel.size g2, g3⟩⟩ h255 hkey
        have hkeep : ∀ w3 : World, Below wr.drew.heap.size wr.drew w3 → w3.cell? ⟨b, off + i * 2, none⟩ = some (.int .u64 key) ∧ w3.cell? ⟨b, off + i * 2 + 1, none⟩ = some (.slice vA bs.length vc) := fun w3 hb3 => ⟨(((HS.out.drewN 1).below hb3).bel.cell (p := ⟨b, off + i * 2, none⟩) hb).trans e0, (((HS.out.drewN 1).below hb3).bel.cell (p := ⟨b, off + i * 2 + 1, none⟩) hb).trans e1⟩
        have hkeep2 : ∀ (w3 : World) P' L', OneSt w w3 S n P' L' → w3.cell? ⟨b, off + i * 2, none⟩ = some (.int .u64 key) ∧ w3.cell? ⟨b, off + i * 2 + 1, none⟩ = some (.slice vA bs.length vc) := fun w3 P' L' h3 => ⟨(h3.bel.cell (p := ⟨b, off + i * 2, none⟩) hb).trans e0, (h3.bel.cell (p := ⟨b, off + i * 2 + 1, none⟩) hb).trans e1⟩
        have hfp := filter_put (L := L) lo hi key bs
        have hpl := putL_len TI.cmpI key bs L
        have HCL := hid hcl
        have HSET := hid hset
        have HKP := hid hkeep
        have HKP2 := hid hkeep2
        have HFP := hid hfp
        have HPL := hid hpl
        clear hcl hset hkeep hkeep2 hfp hpl hU h255 hbnil e0 e1 hc hp
        obtain ⟨had, hhad⟩ : ∃ had, (getL TI.cmpI key L).isSome = had := ⟨_, rfl⟩
        rw [hhad] at HSET HFP HPL
        clear hhad
        by_cases h64 : bs.length ≤ 64
        · have d0 : decide ((bs.length : Int) ≤ 64) = true := by simp; omega
          have d1 : decide (bs.length ≤ 64) = true := by simpa using h64
          simp only [if_pos h64, d1, Bool.true_and] at HSET
          clear h64
          cases had with
          | true =>
            have hm := HM.out
            have hf := HFP.out
            rw [if_neg (fun h => by cases h.1)] at hf
            have HMQ := hid (show m = ((putL TI.cmpI key bs L).filter (inR TI.cmpI lo hi)).length by omega)
            have HLQ := hid (show (putL TI.cmpI key bs L).length ≤ i + 1 by have := HPL.out; simp at this; omega)
            clear hm hf
            go_wp2_with fail
            go_region_held3 (fun w' => w'.cell? ⟨b, off + i * 2, none⟩ = some (.int .u64 key) ∧ w'.cell? ⟨b, off + i * 2 + 1, none⟩ = some (.slice vA bs.length vc)) (first | (refine ⟨?_, ?_⟩ <;> assumption) | go_keep)
              (first
              | (go_at_call 39; refine HCL.out.mono ?_; rintro e w3 ⟨vA2, vc2, rfl, hv3, hb3⟩; obtain ⟨x0, x1⟩ := HKP.out w3 hb3; have HS3 := hid (HSET.out w3 vA2 vc2 hb3 hv3); clear hv3 hb3)
              | (go_at_call 38; refine HS3.out.mono ?_; rintro e w4 ⟨rfl, P', H4⟩; obtain ⟨y0, y1⟩ := HKP2.out w4 P' _ H4.out))
            all_goals
              go_wp2_with fail
              go_roundg (n - (i + 1))
              case measure => omega
              case rel => exact ⟨i + 1, _, P', m, by go_num, hlt, Nat.le_refl _, rfl, by omega, HLQ.out, H4, HMQ⟩
          | false =>
            have HLQ := hid (show (putL TI.cmpI key bs L).length ≤ i + 1 by have := HPL.out; simp at this; omega)
            by_cases k1 : lo ≤ key
            · have e1 : decide (key ≥ lo) = true := by simpa using k1
              have e1' : decide (lo ≤ key) = true := by simpa using k1
              by_cases k2 : key ≤ hi
              · have e2 : decide (key ≤ hi) = true := by simpa using k2
                have hm := HM.out
                have hf := HFP.out
                rw [if_pos ⟨rfl, k1, k2⟩] at hf
                have HMQ := hid (show m + 1 = ((putL TI.cmpI key bs L).filter (inR TI.cmpI lo hi)).length by omega)
                clear hm hf k1 k2
                go_wp2_with fail
                go_region_held3 (fun w' => w'.cell? ⟨b, off + i * 2, none⟩ = some (.int .u64 key) ∧ w'.cell? ⟨b, off + i * 2 + 1, none⟩ = some (.slice vA bs.length vc)) (first | (refine ⟨?_, ?_⟩ <;> assumption) | go_keep)
                  (first
                  | (go_at_call 39; refine HCL.out.mono ?_; rintro e w3 ⟨vA2, vc2, rfl, hv3, hb3⟩; obtain ⟨x0, x1⟩ := HKP.out w3 hb3; have HS3 := hid (HSET.out w3 vA2 vc2 hb3 hv3); clear hv3 hb3)
                  | (go_at_call 38; refine HS3.out.mono ?_; rintro e w4 ⟨rfl, P', H4⟩; obtain ⟨y0, y1⟩ := HKP2.out w4 P' _ H4.out))
                all_goals
                  go_wp2_with fail
                  go_roundg (n - (i + 1))
                  case measure => omega
                  case rel => exact ⟨i + 1, _, P', m + 1, by go_num, hlt, Nat.le_refl _, by go_num, by omega, HLQ.out, H4, HMQ⟩
              · have e2 : decide (key ≤ hi) = false := by simpa using k2
                have hm := HM.out
                have hf := HFP.out
                rw [if_neg (fun h => k2 h.2.2)] at hf
                have HMQ := hid (show m = ((putL TI.cmpI key bs L).filter (inR TI.cmpI lo hi)).length by omega)
                clear hm hf k1 k2
                go_wp2_with fail
                go_region_held3 (fun w' => w'.cell? ⟨b, off + i * 2, none⟩ = some (.int .u64 key) ∧ w'.cell? ⟨b, off + i * 2 + 1, none⟩ = some (.slice vA bs.length vc)) (first | (refine ⟨?_, ?_⟩ <;> assumption) | go_keep)
                  (first
                  | (go_at_call 39; refine HCL.out.mono ?_; rintro e w3 ⟨vA2, vc2, rfl, hv3, hb3⟩; obtain ⟨x0, x1⟩ := HKP.out w3 hb3; have HS3 := hid (HSET.out w3 vA2 vc2 hb3 hv3); clear hv3 hb3)
                  | (go_at_call 38; refine HS3.out.mono ?_; rintro e w4 ⟨rfl, P', H4⟩; obtain ⟨y0, y1⟩ := HKP2.out w4 P' _ H4.out))
                all_goals
                  go_wp2_with fail
                  go_roundg (n - (i + 1))
                  case measure => omega
                  case rel => exact ⟨i + 1, _, P', m, by go_num, hlt, Nat.le_refl _, rfl, by omega, HLQ.out, H4, HMQ⟩
            · have e1 : decide (key ≥ lo) = false := by simpa using k1
              have e1' : decide (lo ≤ key) = false := by simpa using k1
              have hm := HM.out
              have hf := HFP.out
              rw [if_neg (fun h => k1 h.2.1)] at hf
              have HMQ := hid (show m = ((putL TI.cmpI key bs L).filter (inR TI.cmpI lo hi)).length by omega)
              clear hm hf k1
              go_wp2_with fail
              go_region_held3 (fun w' => w'.cell? ⟨b, off + i * 2, none⟩ = some (.int .u64 key) ∧ w'.cell? ⟨b, off + i * 2 + 1, none⟩ = some (.slice vA bs.length vc)) (first | (refine ⟨?_, ?_⟩ <;> assumption) | go_keep)
                (first
                | (go_at_call 39; refine HCL.out.mono ?_; rintro e w3 ⟨vA2, vc2, rfl, hv3, hb3⟩; obtain ⟨x0, x1⟩ := HKP.out w3 hb3; have HS3 := hid (HSET.out w3 vA2 vc2 hb3 hv3); clear hv3 hb3)
                | (go_at_call 38; refine HS3.out.mono ?_; rintro e w4 ⟨rfl, P', H4⟩; obtain ⟨y0, y1⟩ := HKP2.out w4 P' _ H4.out))
              all_goals
                go_wp2_with fail
                go_roundg (n - (i + 1))
                case measure => omega
                case rel => exact ⟨i + 1, _, P', m, by go_num, hlt, Nat.le_refl _, rfl, by omega, HLQ.out, H4, HMQ⟩
        · have d0 : decide ((bs.length : Int) ≤ 64) = false := by simp; omega
          have d1 : decide (bs.length ≤ 64) = false := by simpa using h64
          simp only [if_neg h64, d1, Bool.false_and] at HSET
          have HLQ := hid (show L.length ≤ i + 1 by omega)
          clear h64
          go_wp2_with fail
          go_region_held3 (fun w' => w'.cell? ⟨b, off + i * 2, none⟩ = some (.int .u64 key) ∧ w'.cell? ⟨b, off + i * 2 + 1, none⟩ = some (.slice vA bs.length vc)) (first | (refine ⟨?_, ?_⟩ <;> assumption) | go_keep)
            (first
            | (go_at_call 39; refine HCL.out.mono ?_; rintro e w3 ⟨vA2, vc2, rfl, hv3, hb3⟩; obtain ⟨x0, x1⟩ := HKP.out w3 hb3; have HS3 := hid (HSET.out w3 vA2 vc2 hb3 hv3); clear hv3 hb3)
            | (go_at_call 38; refine HS3.out.mono ?_; rintro e w4 ⟨rfl, P', H4⟩; obtain ⟨y0, y1⟩ := HKP2.out w4 P' _ H4.out))
          all_goals
            go_wp2_with fail
            go_roundg (n - (i + 1))
            case measure => omega
            case rel => exact ⟨i + 1, _, P', m, by go_num, hlt, Nat.le_refl _, rfl, by omega, HLQ.out, H4, HM⟩
      · obtain rfl : n = i := by omega
        obtain ⟨K, hK, hK1⟩ : ∃ K : Nat, (if limit < 1 then 1 else limit) = (K : Int) ∧ 1 ≤ K := ⟨(if limit < 1 then 1 else limit).toNat, by split <;> omega, by split <;> omega⟩
        have HK := hid hK
        have hKb : (K : Int) ≤ 9223372036854775807 := by have := HLM.out; rw [← hK]; split <;> omega
        have HKB := hid hKb
        have hii : ¬ (n : Int) < (n : Int) := by omega
        clear hK hKb hin hg hlt
        go_upto_if 96 with fail
        go_cut [3] (fun v wc => v = .int .i64 (K : Int) ∧ wc = wr)
        case first =>
          by_cases d1 : limit < 1
          · have hk := HK.out
            rw [if_pos d1] at hk
            have HK2 := hid hk
            clear hk
            go_wp2_with fail
            go_meet
            exact ⟨by rw [← HK2.out], rfl⟩
          · have hk := HK.out
            rw [if_neg d1] at hk
            have HK2 := hid hk
            clear hk
            go_wp2_with fail
            go_meet
            exact ⟨by rw [← HK2.out], rfl⟩
        case rest =>
        obtain ⟨rfl, rfl⟩ := hcut
        obtain ⟨G, hG⟩ : ∃ G, G = L.filter (inR TI.cmpI lo hi) := ⟨_, rfl⟩
        have hGm : G.length = m := by rw [hG]; exact HM.out.symm
        have hup := HS.out.sh.up
        have hno := fun W9 (h : OneSt w W9 S n P L) => shNth_out W9 S n P L lo hi (m : Nat) h.sh (.inr (by rw [← hG]; omega))
        have hcn := fun W9 (h : OneSt w W9 S n P L) => shCount_any W9 S n P L lo hi h.sh
        rw [← hG, hGm] at hcn
        have HNO := hid hno
        have HCN := hid hcn
        have HG := hid hG
        have HGM := hid hGm
        have HUP := hid hup
        have hmn : m ≤ 40000 := by omega
        have hst : (lo ≤ hi ∨ m = 0) := by
          by_cases h : lo ≤ hi
          · exact .inl h
          · rw [← hGm, hG, inR_none (by omega)]; exact .inr rfl
        have HST := hid hst
        clear hG hGm hup hno hcn hst HM
        go_wp2_with fail
        go_loopg [15, 16] m (fun gx ss sa wr => ∃ (s : Nat) (a0 : Int), ss = .int .i64 s ∧ sa = .int .u64 a0 ∧ s ≤ m ∧ m - s ≤ gx ∧ lo ≤ a0 ∧ 0 ≤ a0 ∧ a0 ≤ 18446744073709551615 ∧ Hid (OneSt w wr S n P L) ∧ Hid (a0 ≤ hi → L.filter (inR TI.cmpI a0 hi) = G.drop s) ∧ Hid (a0 ≤ hi ∨ s = m))
        case atStart => exact ⟨0, lo, rfl, rfl, Nat.zero_le _, Nat.le_refl _, Int.le_refl _, HLO.out.1, HLO.out.2, HS, hid (fun _ => by rw [List.drop_zero, HG.out]), hid (HST.out.imp id fun h => h.symm)⟩
        case round =>
          clear HS HST
          obtain ⟨s, a0, rfl, rfl, hs, hg, hla, ha0, ha1, HS, HD, HE⟩ := hrel
          by_cases hle : a0 ≤ hi
          · have b3 : decide (a0 ≤ hi) = true := by simpa using hle
            obtain ⟨D, hD⟩ : ∃ D, D = G.drop s := ⟨_, rfl⟩
            have hfl := HD.out hle
            have hscan := shScan_any wr S n P L a0 hi (K : Nat) HS.out.sh
            rw [hfl, ← hD, Int.toNat_natCast] at hscan
            have hDl : D.length = m - s := by rw [hD, List.length_drop, HGM.out]
            have HSC := hid hscan
            have HFL := hid hfl
            have HDD := hid hD
            clear hscan hfl hD hle
            go_wp2_with fail
            refine HSC.out.mono ?_
            rintro e w5 ⟨v, rfl, hp, hb5⟩
            obtain ⟨pA, pc, rfl, hpc1, hpc2, hat⟩ := hp.slice
            have HAT := hid hat
            have HS5 := hid (HS.out.below hb5)
            have hll : (D.take K).length ≤ K ∧ (D.take K).length ≤ m - s := by rw [List.length_take]; omega
            have hlc : K < D.length ∧ (D.take K).length = K ∨ ¬ K < D.length ∧ (D.take K).length = D.length := by rw [List.length_take]; omega
            have hel : ∀ i p, (D.take K)[i]? = some p → G[s + i]? = some p ∧ a0 ≤ p.1 ∧ p.1 ≤ hi ∧ getL TI.cmpI p.1 L = some p.2 := fun i p hip => by
              have h1 : D[i]? = some p := by
                rw [List.getElem?_take] at hip
                split at hip
                · exact hip
                · cases hip
              have h2 : G[s + i]? = some p := by rw [HDD.out, List.getElem?_drop] at h1; exact h1
              have h3 : p ∈ L.filter (inR TI.cmpI a0 hi) := by rw [HFL.out, ← HDD.out]; exact List.mem_of_getElem? h1
              obtain ⟨h4, h5⟩ := List.mem_filter.1 h3
              exact ⟨h2, ((inR_iff a0 hi p).1 h5).1, ((inR_iff a0 hi p).1 h5).2, (getL_iff TI.cmpI_ord cmpI_tight HUP.out _ _).2 h4⟩
            have HEL := hid hel
            have HLC := hid hlc
            clear hp hb5 hat hel hlc hpc1 HS HSC HD HE
            generalize hln : (D.take K).length = ll at *
            have HLN := hid hln
            clear hln
            obtain ⟨more, hmore⟩ : ∃ more, decide (K < D.length) = more := ⟨_, rfl⟩
            rw [hmore]
            have b4 : decide ((ll : Int) > (K : Int)) = false := by simp; omega
            have b4' : decide ((K : Int) < (ll : Int)) = false := by simp; omega
            have b4'' : decide (K < ll) = false := by simp; omega
            have HMO := hid hmore
            have b5 : more = true → ((ll : Int) != (K : Int)) = false := fun h => by
              rw [h] at hmore
              have := of_decide_eq_true hmore
              have := HLC.out
              have : ll = K := by omega
              rw [this]; simp
            have B5 := hid b5
            clear hmore b5
            cases more with
            | true =>
              have b6 := B5.out rfl
              clear B5
              go_wp2_with fail
              clear b4 b4' b4''
              go_loopg [15, 19] ll (fun gy ss si wy => ∃ i t : Nat, ss = .int .i64 t ∧ si = .int .i64 i ∧ i ≤ ll ∧ ll - i ≤ gy ∧ t ≤ m ∧ Hid (t = s + i) ∧ Hid (OneSt w wy S n P L) ∧ Hid (Below w5.heap.size w5 wy))
              case atStart => exact ⟨0, s, rfl, rfl, Nat.zero_le _, Nat.le_refl _, hs, hid rfl, HS5, hid (Below.refl _ _)⟩
              case round =>
                clear HS5
                obtain ⟨i, t, rfl, rfl, hil, hgy, htm, HT, HS, HB⟩ := hrel
                by_cases hlt : i < ll
                · have hii : (i : Int) < (ll : Int) := by omega
                  have hi0 : (0 : Int) ≤ (i : Int) := by omega
                  have hwi : IntKind.i64.wrap ((i : Int) + 1) = (i : Int) + 1 := wrap_small _ (by omega) (by omega)
                  have hwt : IntKind.i64.wrap ((t : Int) + 1) = (t : Int) + 1 := wrap_small _ (by omega) (by omega)
                  obtain ⟨b', off', key, bs, vA, vc, hgi, rfl, _, hb', g0, g1, grow, g255⟩ := HAT.out i hlt
                  obtain ⟨e1, e2, e3, e4⟩ := HEL.out i _ hgi
                  dsimp only at e2 e3 e4
                  have htl : t < m := by
                    have := (List.getElem?_eq_some_iff.1 e1).1
                    rw [HGM.out] at this
                    rw [HT.out]; exact this
                  have f0 := (HB.out.cell (p := ⟨b', off' + i * 2, none⟩) hb').trans g0
                  have f1 := (HB.out.cell (p := ⟨b', off' + i * 2 + 1, none⟩) hb').trans g1
                  have hnth := shNth_in wr S n P L lo hi t (key, bs) HS.out.sh (by rw [← HG.out, HT.out]; exact e1)
                  have hget := fun q => shGet_any (wr.drewN q) S n P L key (HS.out.sh.drewN q)
                  simp only [e4, Option.isSome_some, Option.getD_some] at hget
                  have hcv : ∀ w8, Below w5.heap.size w5 w8 → (convert 65 9 (.slice vA bs.length vc)).run Try.prog w8 = .ok (.string (toStr bs)) w8 := fun w8 hb8 => by
                    have r1 := ownsRow_wrote grow (Wrote.below hb8 : Wrote (fun _ => False) w5 w8) (fun _ _ => id)
                    obtain ⟨A1', c1', e1, n1, u1⟩ := ownsRow_ev (v := (vA, bs.length, vc)) r1
                    obtain ⟨rfl, rfl⟩ : vA = A1' ∧ vc = c1' := by injection e1 with e3 e4; injection e4 with _ e5; exact ⟨e3, e5⟩
                    exact conv_bytes w8 vA vc bs n1 u1 g255
                  have hcv2 : ∀ (w8 : World) (A7 : Option Addr) (c7 B7 : Nat), w8.ownsRow B7 5 1 (.slice A7 bs.length c7) bs.length (bs.flatMap u8s) → (convert 65 9 (.slice A7 bs.length c7)).run Try.prog w8 = .ok (.string (toStr bs)) w8 := fun w8 A7 c7 B7 r1 => by
                    obtain ⟨A1', c1', e1, n1, u1⟩ := ownsRow_ev (v := (A7, bs.length, c7)) (ownsRow_zero r1)
                    obtain ⟨rfl, rfl⟩ : A7 = A1' ∧ c7 = c1' := by injection e1 with e3 e4; injection e4 with _ e5; exact ⟨e3, e5⟩
                    exact conv_bytes w8 A7 c7 bs n1 u1 g255
                  have k1 : decide (key < a0) = false := by simpa using e2
                  have k2 : decide (key > hi) = false := by simpa using e3
                  have k2' : decide (hi < key) = false := by simpa using e3
                  have HN := hid hnth
                  have HGT := hid hget
                  have HCV := hid hcv
                  have HCV2 := hid hcv2
                  have HF := hid (And.intro f0 f1)
                  clear hnth hget hcv hcv2 e1 e2 e3 e4 g0 g1 grow g255 hgi f0 f1
                  generalize toStr bs = z at *
                  go_wp2_with fail
                  refine HN.out.mono ?_
                  rintro e w6 ⟨rfl, q, rfl⟩
                  have f0 : (wr.drewN q).cell? ⟨b', off' + i * 2, none⟩ = some (.int .u64 key) := HF.out.1
                  have HB6 := hid (show Below wr.heap.size wr (wr.drewN q) from below_drewN' (Below.refl _ wr) q)
                  have HG6 := hid (HGT.out q)
                  clear HGT HN
                  generalize wr.drewN q = w6 at *
                  go_wp2_with fail
                  refine HG6.out.mono ?_
                  rintro e w7 ⟨v7, rfl, hv7, hb7⟩
                  obtain ⟨_, A7, c7, rfl, _, _, _⟩ := owns_reads u8s_len hv7 (by decide)
                  have hb67 : Below wr.heap.size wr w7 := HB6.out.trans (hb7.mono HB6.out.size)
                  have hb57 : Below w5.heap.size w5 w7 := HB.out.trans (hb67.mono HB.out.size)
                  have y0 := later hb67 HF.out.1
                  have y1 := later hb67 HF.out.2
                  have q1 : ∀ n, (convert 65 9 (.slice vA bs.length vc)).run Try.prog (w7.drewN n) = .ok (.string z) (w7.drewN n) := fun n => HCV.out _ (below_drewN' hb57 n)
                  have q2 : ∀ n, (convert 65 9 (.slice A7 bs.length c7)).run Try.prog (w7.drewN n) = .ok (.string z) (w7.drewN n) := fun n => HCV2.out _ A7 c7 w6.heap.size (ownsRow_wrote hv7 (Wrote.below (below_drewN' (Below.refl _ w7) n) : Wrote (fun _ => False) w7 _) (fun _ _ => id))
                  have hzz : (z.toList == z.toList) = true := by simp
                  have HS7 := hid (HS.out.below hb67)
                  have HB7 := hid hb57
                  clear hv7 hb7 hb67 hb57 HS HB HB6 HG6 HCV HCV2 HF f0
                  go_wp2_with fail
                  go_quiet (fail)
                  go_wp2_with fail
                  go_roundg (ll - (i + 1))
                  case measure => omega
                  case rel => exact ⟨i + 1, t + 1, by go_num, by go_num, hlt, Nat.le_refl _, htl, hid (by show _ = _; rw [HT.out]; omega), hid (HS7.out.drewN _), hid (below_drewN' HB7.out _)⟩
                · obtain rfl : ll = i := by omega
                  have hii : ¬ (ll : Int) < (ll : Int) := by omega
                  have hK : K < D.length := of_decide_eq_true HMO.out
                  have hlk : ll = K := by have := HLC.out; omega
                  obtain ⟨b', off', key, bs, vA, vc, hgi, hpe, _, hb', g0, _, _, _⟩ := HAT.out (ll - 1) (by omega)
                  obtain ⟨e1, e2, e3, e4⟩ := HEL.out (ll - 1) _ hgi
                  dsimp only at e2 e3
                  have hnx : G[s + K]? = some (D[K]'hK) := by
                    have h1 := congrArg (fun l : List (Int × List Int) => l[K]?) HDD.out
                    simp only [List.getElem?_drop] at h1
                    exact h1.symm.trans (List.getElem?_eq_getElem hK)
                  have hnh : (D[K]'hK).1 ≤ hi ∧ key < (D[K]'hK).1 := by
                    have h1 : D[K]'hK ∈ L.filter (inR TI.cmpI lo hi) := by rw [← HG.out]; exact List.mem_of_getElem? hnx
                    refine ⟨((inR_iff lo hi _).1 (List.mem_filter.1 h1).2).2, ?_⟩
                    have hp := up_pair (List.Pairwise.filter (inR TI.cmpI lo hi) HUP.out)
                    rw [← HG.out] at hp
                    have h2 := (List.pairwise_iff_getElem.1 hp) (s + (ll - 1)) (s + K) (List.getElem?_eq_some_iff.1 e1).1 (List.getElem?_eq_some_iff.1 hnx).1 (by omega)
                    rw [(List.getElem?_eq_some_iff.1 e1).2, (List.getElem?_eq_some_iff.1 hnx).2] at h2
                    exact h2
                  have hhm := HHI.out
                  have hwk : IntKind.u64.wrap (key + 1) = key + 1 := wrap_u64_in (by omega) (by omega)
                  have hrest := rest_range HUP.out (lo := lo) (hi := hi) (m := s + (ll - 1)) (p := (key, bs)) (by rw [← HG.out]; exact e1)
                  rw [← HG.out] at hrest
                  have he : s + (ll - 1) + 1 = t := by rw [HT.out]; omega
                  rw [he] at hrest
                  have HRS := hid (fun _ : key + 1 ≤ hi => hrest.symm)
                  have htm2 : t < m := by
                    have := (List.getElem?_eq_some_iff.1 hnx).1
                    rw [HGM.out] at this
                    rw [HT.out]; omega
                  have f0 := (HB.out.cell (p := ⟨b', off' + (ll - 1) * 2, none⟩) hb').trans g0
                  have HLE : Hid (key + 1 ≤ hi ∨ t = m) := .inl (by omega)
                  have hwl : IntKind.i64.wrap ((ll : Int) - 1) = ((ll - 1 : Nat) : Int) := by rw [wrap_mid _ (by omega) (by omega)]; omega
                  have hb1 : (0 : Int) ≤ ((ll - 1 : Nat) : Int) := by omega
                  have hb2 : ((ll - 1 : Nat) : Int) < (ll : Int) := by omega
                  have hts : m - t < m - s := by omega
                  have hk0 : lo ≤ key + 1 ∧ 0 ≤ key + 1 ∧ key + 1 ≤ 18446744073709551615 := by omega
                  have HK0 := hid hk0
                  have HTS := hid hts
                  subst hpe
                  clear hK hlk hgi e1 e2 e3 e4 hnx hnh hhm hrest he g0 hk0 hil hgy hlt
                  generalize ll - 1 = l1 at *
                  go_wp2_with fail
                  go_roundg (m - t)
                  case measure => have := HTS.out; omega
                  case rel => exact ⟨t, key + 1, rfl, rfl, htm, Nat.le_refl _, HK0.out.1, HK0.out.2.1, HK0.out.2.2, HS, HRS, HLE⟩
            | false =>
              clear B5
              go_wp2_with fail
              clear b4 b4' b4''
              go_loopg [15, 19] ll (fun gy ss si wy => ∃ i t : Nat, ss = .int .i64 t ∧ si = .int .i64 i ∧ i ≤ ll ∧ ll - i ≤ gy ∧ t ≤ m ∧ Hid (t = s + i) ∧ Hid (OneSt w wy S n P L) ∧ Hid (Below w5.heap.size w5 wy))
              case atStart => exact ⟨0, s, rfl, rfl, Nat.zero_le _, Nat.le_refl _, hs, hid rfl, HS5, hid (Below.refl _ _)⟩
              case round =>
                clear HS5
                obtain ⟨i, t, rfl, rfl, hil, hgy, htm, HT, HS, HB⟩ := hrel
                by_cases hlt : i < ll
                · have hii : (i : Int) < (ll : Int) := by omega
                  have hi0 : (0 : Int) ≤ (i : Int) := by omega
                  have hwi : IntKind.i64.wrap ((i : Int) + 1) = (i : Int) + 1 := wrap_small _ (by omega) (by omega)
                  have hwt : IntKind.i64.wrap ((t : Int) + 1) = (t : Int) + 1 := wrap_small _ (by omega) (by omega)
                  obtain ⟨b', off', key, bs, vA, vc, hgi, rfl, _, hb', g0, g1, grow, g255⟩ := HAT.out i hlt
                  obtain ⟨e1, e2, e3, e4⟩ := HEL.out i _ hgi
                  dsimp only at e2 e3 e4
                  have htl : t < m := by
                    have := (List.getElem?_eq_some_iff.1 e1).1
                    rw [HGM.out] at this
                    rw [HT.out]; exact this
                  have f0 := (HB.out.cell (p := ⟨b', off' + i * 2, none⟩) hb').trans g0
                  have f1 := (HB.out.cell (p := ⟨b', off' + i * 2 + 1, none⟩) hb').trans g1
                  have hnth := shNth_in wr S n P L lo hi t (key, bs) HS.out.sh (by rw [← HG.out, HT.out]; exact e1)
                  have hget := fun q => shGet_any (wr.drewN q) S n P L key (HS.out.sh.drewN q)
                  simp only [e4, Option.isSome_some, Option.getD_some] at hget
                  have hcv : ∀ w8, Below w5.heap.size w5 w8 → (convert 65 9 (.slice vA bs.length vc)).run Try.prog w8 = .ok (.string (toStr bs)) w8 := fun w8 hb8 => by
                    have r1 := ownsRow_wrote grow (Wrote.below hb8 : Wrote (fun _ => False) w5 w8) (fun _ _ => id)
                    obtain ⟨A1', c1', e1, n1, u1⟩ := ownsRow_ev (v := (vA, bs.length, vc)) r1
                    obtain ⟨rfl, rfl⟩ : vA = A1' ∧ vc = c1' := by injection e1 with e3 e4; injection e4 with _ e5; exact ⟨e3, e5⟩
                    exact conv_bytes w8 vA vc bs n1 u1 g255
                  have hcv2 : ∀ (w8 : World) (A7 : Option Addr) (c7 B7 : Nat), w8.ownsRow B7 5 1 (.slice A7 bs.length c7) bs.length (bs.flatMap u8s) → (convert 65 9 (.slice A7 bs.length c7)).run Try.prog w8 = .ok (.string (toStr bs)) w8 := fun w8 A7 c7 B7 r1 => by
                    obtain ⟨A1', c1', e1, n1, u1⟩ := ownsRow_ev (v := (A7, bs.length, c7)) (ownsRow_zero r1)
                    obtain ⟨rfl, rfl⟩ : A7 = A1' ∧ c7 = c1' := by injection e1 with e3 e4; injection e4 with _ e5; exact ⟨e3, e5⟩
                    exact conv_bytes w8 A7 c7 bs n1 u1 g255
                  have k1 : decide (key < a0) = false := by simpa using e2
                  have k2 : decide (key > hi) = false := by simpa using e3
                  have k2' : decide (hi < key) = false := by simpa using e3
                  have HN := hid hnth
                  have HGT := hid hget
                  have HCV := hid hcv
                  have HCV2 := hid hcv2
                  have HF := hid (And.intro f0 f1)
                  clear hnth hget hcv hcv2 e1 e2 e3 e4 g0 g1 grow g255 hgi f0 f1
                  generalize toStr bs = z at *
                  go_wp2_with fail
                  refine HN.out.mono ?_
                  rintro e w6 ⟨rfl, q, rfl⟩
                  have f0 : (wr.drewN q).cell? ⟨b', off' + i * 2, none⟩ = some (.int .u64 key) := HF.out.1
                  have HB6 := hid (show Below wr.heap.size wr (wr.drewN q) from below_drewN' (Below.refl _ wr) q)
                  have HG6 := hid (HGT.out q)
                  clear HGT HN
                  generalize wr.drewN q = w6 at *
                  go_wp2_with fail
                  refine HG6.out.mono ?_
                  rintro e w7 ⟨v7, rfl, hv7, hb7⟩
                  obtain ⟨_, A7, c7, rfl, _, _, _⟩ := owns_reads u8s_len hv7 (by decide)
                  have hb67 : Below wr.heap.size wr w7 := HB6.out.trans (hb7.mono HB6.out.size)
                  have hb57 : Below w5.heap.size w5 w7 := HB.out.trans (hb67.mono HB.out.size)
                  have y0 := later hb67 HF.out.1
                  have y1 := later hb67 HF.out.2
                  have q1 : ∀ n, (convert 65 9 (.slice vA bs.length vc)).run Try.prog (w7.drewN n) = .ok (.string z) (w7.drewN n) := fun n => HCV.out _ (below_drewN' hb57 n)
                  have q2 : ∀ n, (convert 65 9 (.slice A7 bs.length c7)).run Try.prog (w7.drewN n) = .ok (.string z) (w7.drewN n) := fun n => HCV2.out _ A7 c7 w6.heap.size (ownsRow_wrote hv7 (Wrote.below (below_drewN' (Below.refl _ w7) n) : Wrote (fun _ => False) w7 _) (fun _ _ => id))
                  have hzz : (z.toList == z.toList) = true := by simp
                  have HS7 := hid (HS.out.below hb67)
                  have HB7 := hid hb57
                  clear hv7 hb7 hb67 hb57 HS HB HB6 HG6 HCV HCV2 HF f0
                  go_wp2_with fail
                  go_quiet (fail)
                  go_wp2_with fail
                  go_roundg (ll - (i + 1))
                  case measure => omega
                  case rel => exact ⟨i + 1, t + 1, by go_num, by go_num, hlt, Nat.le_refl _, htl, hid (by show _ = _; rw [HT.out]; omega), hid (HS7.out.drewN _), hid (below_drewN' HB7.out _)⟩
                · obtain rfl : ll = i := by omega
                  have hii : ¬ (ll : Int) < (ll : Int) := by omega
                  have hK : ¬ K < D.length := of_decide_eq_false HMO.out
                  obtain rfl : m = t := by have := HLC.out; have := HT.out; omega
                  have HS9 := HS
                  obtain ⟨W9, rfl⟩ : ∃ W9, W9 = wr := ⟨_, rfl⟩
                  clear hK hil hgy hlt HS
                  go_wp2_with fail
                  refine (HNO.out _ HS9.out).mono ?_
                  rintro e w9 ⟨rfl, q, rfl⟩
                  have HS10 := hid (HS9.out.drewN q)
                  generalize W9.drewN q = w10 at *
                  go_wp2_with fail
                  refine (HCN.out w10 HS10.out).mono ?_
                  rintro e w11 ⟨rfl, q', rfl⟩
                  go_wp2_with fail
                  go_ret
                  exact ⟨by simp, (HS10.out.drewN q').bel⟩
          · have b3 : decide (a0 ≤ hi) = false := by simpa using hle
            have hsm : s = m := HE.out.resolve_left hle
            subst hsm
            have HS9 := HS
            have W9e : ∃ W9, W9 = wr := ⟨_, rfl⟩
            obtain ⟨W9, rfl⟩ := W9e
            clear hle HD HE HS
            go_wp2_with fail
            refine (HNO.out _ HS9.out).mono ?_
            rintro e w9 ⟨rfl, q, rfl⟩
            have HS10 := hid (HS9.out.drewN q)
            generalize W9.drewN q = w10 at *
            go_wp2_with fail
            refine (HCN.out w10 HS10.out).mono ?_
            rintro e w11 ⟨rfl, q', rfl⟩
            go_wp2_with fail
            go_ret
            exact ⟨by simp, (HS10.out.drewN q').bel⟩
end Go.Proofs.Ytfjeagffdijcoaa
