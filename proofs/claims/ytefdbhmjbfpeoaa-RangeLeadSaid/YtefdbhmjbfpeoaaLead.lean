/- Layer 6: the walk of RangeLead. -/
import Derived.Test.YtefdbhmjbfpeoaaBack
import Derived.Test.YtefdbhmjbfpeoaaDiff
import Derived.Test.YtefdbhmjbfpeoaaSame6
import Derived.Test.YtefdbhmjbfpeoaaLeadL
namespace Go.Proofs.Ytefdbhmjbfpeoaa
open Go.RowKit

theorem IsTab.grownOther {w w' : World} {U T : Nat} {limit : Int} {l : List Seg} (h : IsTab w U limit l) (hg : w.grownBy w' (some T)) (hne : U ≠ T) (hb : ∀ b off k c, w.cell? ⟨U, 1, none⟩ = some (.slice (some ⟨b, off, none⟩) k c) → b ≠ T) : IsTab w' U limit l := by
  have hl := h.lt
  obtain ⟨b, off, c, h1, h2, h3, h4, h5⟩ := h.segs
  have hbT := hb _ _ _ _ h1
  have hneU : some U ≠ some T := fun e => hne (Option.some.inj e)
  have hnb : some b ≠ some T := fun e => hbT (Option.some.inj e)
  have hblk := hg.block U hl hneU
  refine ⟨hg.cell h.lim hneU, (World.frozen?_of_block (a := ⟨U, 1, none⟩) hblk).trans h.fz, b, off, c, hg.cell h1 hneU, h2, h3, Nat.lt_of_lt_of_le h4 hg.size, ?_⟩
  rcases h5 with h5 | ⟨b', off', e, g1, g2⟩
  · exact .inl h5
  · cases e
    exact .inr ⟨b, off, rfl, Nat.lt_of_lt_of_le g1 hg.size, fun i x hx j v hv => hg.cell (g2 i x hx j v hv) hnb⟩

namespace Rng
theorem chain_apart {l : List Chg} (h : chain l) : ∀ (k : Nat) (p c : Chg), l[k]? = some p → l[k + 1]? = some c → apart p c := by
  induction l with
  | nil => intro k p c h1; simp at h1
  | cons x r ih =>
    intro k p c h1 h2
    cases k with
    | succ k => exact ih (chain_tail h) k p c (by simpa using h1) (by simpa using h2)
    | zero =>
      cases r with
      | nil => simp at h2
      | cons y r =>
        simp at h1 h2
        subst h1
        subst h2
        exact h.1
end Rng

set_option maxRecDepth 100000 in
set_option maxHeartbeats 4000000 in
theorem rangeLead_walk (w : World) (A : Option Addr) (n c : Nat) (a : List Seg) (B : Option Addr) (m d : Nat) (b : List Seg) (hl : a.length = n) (_ : n ≤ c) (_ : c ≤ maxLen) (hok : ∀ x ∈ a, okSeg x) (hbytes : n * 24 ≤ 140737488351232)
    (hR : Segs w.heap.size w A a) (hl2 : b.length = m) (_ : m ≤ d) (_ : d ≤ maxLen) (hok2 : ∀ x ∈ b, okSeg x) (hbytes2 : m * 24 ≤ 140737488351232) (hR2 : Segs w.heap.size w B b) :
    Calls Try.prog 6 #[.slice A n c, .slice B m d] w fun e w' => e = .returned (.bool true) ∧ Below w.heap.size w w' := by
  subst hl
  subst hl2
  have hws : IntKind.i64.wrap ((a.length : Int) + (b.length : Int)) = (a.length : Int) + (b.length : Int) := wrap_small _ (by omega) (by omega)
  have HR := hid hR
  have HR2 := hid hR2
  have HO := hid hok
  have HO2 := hid hok2
  have HF : Hid (∀ w', Below w.heap.size w w' → _) := fun w' hb => faultRef_any w' A a.length c a rfl hbytes ((HR.out.below hb).mono hb.size)
  have HF2 : Hid (∀ w', Below w.heap.size w w' → _) := fun w' hb => faultRef_any w' B b.length d b rfl hbytes2 ((HR2.out.below hb).mono hb.size)
  clear hR hR2 hok hok2
  by_cases hf : (Rng.faultL a).2 = 0 ∧ (Rng.faultL b).2 = 0 ∧ a.length + b.length ≤ 8192
  case neg =>
    generalize Rng.faultL a = fa at *
    generalize Rng.faultL b = fb at *
    go_enter Try.func6, Try.ntmps6
    go_wp2_with fail
    refine (HF.out w (Below.refl _ _)).mono ?_
    rintro e w2 ⟨rfl, q, rfl⟩
    have hB1 := below_drewN' (Below.refl w.heap.size w) q
    go_wp2_with fail
    refine (HF2.out _ hB1).mono ?_
    rintro e w3 ⟨rfl, q2, rfl⟩
    have hB2 := below_drewN' hB1 q2
    by_cases h0 : fa.2 = 0
    · have hb0 : (fa.2 != 0) = false := by simp [h0]
      by_cases h1 : fb.2 = 0
      · have hb1 : (fb.2 != 0) = false := by simp [h1]
        have hln : (8192 : Int) < (a.length : Int) + (b.length : Int) := by omega
        clear hf h0 h1
        go_wp2
        go_ret
        exact ⟨rfl, below_drewN' (Below.refl _ _) _⟩
      · have hb1 : (fb.2 != 0) = true := by simpa using h1
        clear hf h0 h1
        go_wp2
        go_ret
        exact ⟨rfl, below_drewN' (Below.refl _ _) _⟩
    · have hb0 : (fa.2 != 0) = true := by simpa using h0
      clear hf h0
      go_wp2
      go_ret
      exact ⟨rfl, below_drewN' (Below.refl _ _) _⟩
  case pos =>
  obtain ⟨hf0, hf1, hlen⟩ := hf
  have hWA := (Rng.joinL_wf HO.out hf0).1
  have hWB := (Rng.joinL_wf HO2.out hf1).1
  have hla := Rng.joinL_len a
  have hlb := Rng.joinL_len b
  have hpa := hWA.pos
  have hpb := hWB.pos
  have hld := loadL_ok (l := a) (limit := (a.length : Int) + (b.length : Int)) (by omega) (by omega) hf0 (by omega)
  have hld2 := loadL_ok (l := b) (limit := (b.length : Int)) (by omega) (by omega) hf1 (by omega)
  have hlo : ∀ w', Below w.heap.size w w' → _ := fun w' hb => load_any w' A a.length c a ((a.length : Int) + (b.length : Int)) rfl hbytes HO.out ((HR.out.below hb).mono hb.size)
  have hlo2 : ∀ w', Below w.heap.size w w' → _ := fun w' hb => load_any w' B b.length d b (b.length : Int) rfl hbytes2 HO2.out ((HR2.out.below hb).mono hb.size)
  rw [hld] at hlo
  rw [hld2] at hlo2
  have HLO := hid hlo
  have HLO2 := hid hlo2
  clear hlo hlo2 hld hld2
  have hfe : Rng.faultL a = (0, 0) := (Rng.fault_ok HO.out (fun _ => by rw [maxK_eq]; omega) hf0).1
  have hfe2 : Rng.faultL b = (0, 0) := (Rng.fault_ok HO2.out (fun _ => by rw [maxK_eq]; omega) hf1).1
  have hF1 := HF.out
  have hF2 := HF2.out
  rw [hfe] at hF1
  rw [hfe2] at hF2
  have HF1 := hid hF1
  replace HF2 := hid hF2
  have HWA := hid hWA
  have HWB := hid hWB
  clear hF1 hF2 HF hfe hfe2 hf0 hf1 hWA hWB HO HO2
  generalize Rng.joinL a = a0 at *
  generalize Rng.joinL b = b0 at *
  obtain ⟨lim, hlim⟩ : ∃ x : Int, x = (a.length : Int) + (b.length : Int) := ⟨_, rfl⟩
  go_enter Try.func6, Try.ntmps6
  go_wp2_with fail
  refine (HF1.out w (Below.refl _ _)).mono ?_
  rintro e w2 ⟨rfl, q, rfl⟩
  have hB1 := below_drewN' (Below.refl w.heap.size w) q
  generalize w.drewN q = w1 at *
  go_wp2_with fail
  refine (HF2.out _ hB1).mono ?_
  rintro e w3 ⟨rfl, q2, rfl⟩
  have hB2 := below_drewN' hB1 q2
  generalize w1.drewN q2 = w2 at *
  clear hB1
  have hsum : ¬ (8192 : Int) < (a.length : Int) + (b.length : Int) := by omega
  go_wp2_with fail
  refine (HLO.out _ hB2).mono ?_
  rintro e w4 ⟨p, rfl, hb4, _, hp⟩
  obtain ⟨T, rfl, hTw, hT4, _, _⟩ := hp (by first | rfl | trivial)
  have hB4 := hB2.trans (hb4.mono hB2.size)
  have hTB : w.heap.size ≤ T := Nat.le_trans hB2.size hTw
  clear hp hB2 hb4 hTw
  rw [← hlim] at hT4
  go_wp2_with fail
  refine (HLO2.out _ hB4).mono ?_
  rintro e w5 ⟨p, rfl, hb5, _, hp⟩
  obtain ⟨U, rfl, hUw, hU5, _, ub, uoff, uk, uc, hu1, hu2⟩ := hp (by first | rfl | trivial)
  have hT5 := hT4.below hb5
  have hTU : T < U := Nat.lt_of_lt_of_le hT4.lt hUw
  have hB5 := hB4.trans (hb5.mono hB4.size)
  have hUF : ∀ b off k c, w5.cell? ⟨U, 1, none⟩ = some (.slice (some ⟨b, off, none⟩) k c) → b ≠ T := fun b' off k c h e => by
    rw [hu1] at h; cases h; have := hT4.lt; omega
  have hUT : ∃ b off k c, w5.cell? ⟨U, 1, none⟩ = some (.slice (some ⟨b, off, none⟩) k c) ∧ b ≠ T := ⟨ub, uoff, uk, uc, hu1, by have := hT4.lt; omega⟩
  have HUT := hid hUT
  clear hp hB4 hb5 hUw hT4 hu1 hu2 hUF hUT
  have hTlt := hT5.lt
  have hUlt := hU5.lt
  have HT5 := hid hT5
  have HU5 := hid hU5
  clear hT5 hU5
  go_wp2_with (first | (go_at_call 9; refine (num6_any _ _).mono ?_; rintro e w' ⟨rfl, rfl⟩) | fail)
  refine (list_any w5 T lim a0 HT5.out HWA.out (by omega)).mono ?_
  rintro e w6 ⟨v1, rfl, hown1, hb6⟩
  obtain ⟨_, A1, k1, rfl, _, _, hRw⟩ := owns_reads encSeg_len hown1 (by decide)
  have HRW := hid hRw
  have HU6 := hid (HU5.out.below hb6)
  have HT6 := hid (HT5.out.below hb6)
  have HUT6 : Hid (∃ b off k c, w6.cell? ⟨U, 1, none⟩ = some (.slice (some ⟨b, off, none⟩) k c) ∧ b ≠ T) := by
    obtain ⟨x1, x2, x3, x4, x5, x6⟩ := HUT.out
    exact ⟨x1, x2, x3, x4, Tfact hb6 hUlt x5, x6⟩
  have hB6 := hB5.trans (hb6.mono hB5.size)
  have hs56 := hb6.size
  clear hown1 hRw hb6 hB5 HT5 HU5 HUT
  go_wp2_with fail
  refine (list_any w6 U (b.length : Int) b0 HU6.out HWB.out (by omega)).mono ?_
  rintro e w7 ⟨v2, rfl, hown2, hb7⟩
  obtain ⟨g2, cap2, rfl, hbg2, hgl2⟩ := hown2.form hpb
  have HOW := hid hown2
  have HRW7 := hid (HRW.out.below hb7)
  have HU7 := hid (HU6.out.below hb7)
  have HT7 := hid (HT6.out.below hb7)
  have HUT7 : Hid (∃ b off k c, w7.cell? ⟨U, 1, none⟩ = some (.slice (some ⟨b, off, none⟩) k c) ∧ b ≠ T) := by
    obtain ⟨x1, x2, x3, x4, x5, x6⟩ := HUT6.out
    exact ⟨x1, x2, x3, x4, Tfact hb7 HU6.out.lt x5, x6⟩
  have hB7 := hB6.trans (hb7.mono hB6.size)
  have hs67 := hb7.size
  clear hown2 hb7 hB6 HT6 HU6 HUT6 HRW
  go_wp2_with fail
  refine (diff_any w7 T U lim (b.length : Int) a0 b0 HT7.out HU7.out HWA.out HWB.out (by omega) (by omega)).mono ?_
  rintro e w8 ⟨v3, rfl, hown3, hb8⟩
  have hDI := Rng.diffL_spec HWA.out HWB.out
  have hnil := Rng.diff_nil HWA.out HWB.out hDI
  have HDI := hid hDI
  have HNIL := hid hnil
  clear hDI hnil
  generalize Rng.diffL a0 b0 = L at *
  obtain ⟨hLn, A3, k3, rfl, hLk, hk3, hRw3⟩ := owns_reads encChg_len hown3 (by decide)
  have HRW8 := hid ((HRW7.out.mono hs67).below hb8)
  have HU8 := hid (HU7.out.below hb8)
  have HT8 := hid (HT7.out.below hb8)
  have HOW8 : Hid (OwnSegs w8 w6.heap.size (.slice (some ⟨g2, 0, none⟩) b0.length cap2) b0) := HOW.out.kept (grown_below hb8 none) (.inr (by simp [Value.ownBlock]))
  have HUT8 : Hid (∃ b off k c, w8.cell? ⟨U, 1, none⟩ = some (.slice (some ⟨b, off, none⟩) k c) ∧ b ≠ T) := by
    obtain ⟨x1, x2, x3, x4, x5, x6⟩ := HUT7.out
    exact ⟨x1, x2, x3, x4, Tfact hb8 HU7.out.lt x5, x6⟩
  have hB8 := hB7.trans (hb8.mono hB7.size)
  have HOL := hid hown3
  have hs78 := hb8.size
  clear hown3 hb8 hB7 HT7 HU7 HUT7 HRW7 HOW hRw3 hLn
  obtain ⟨_, A2, k2, hv2, _, _, hRw2⟩ := owns_reads encSeg_len HOW8.out (by decide)
  cases hv2
  go_wp2_with fail
  refine (sameGen_any w8.heap.size w8.heap.size w8 A1 (some ⟨g2, 0, none⟩) a0.length k1 b0.length cap2 a0 b0 rfl rfl (by omega) (by omega) (HRW8.out.mono (by omega)) hRw2).mono ?_
  rintro e w9 ⟨v4, rfl, hv4, q9, rfl⟩
  have hal : Hid (∃ al : Bool, v4 = .bool al ∧ decide ((L.length : Int) = 0) = al) := by
    rcases hv4.out with ⟨g, h⟩ | ⟨g, h⟩
    · refine ⟨true, g, ?_⟩
      have := HNIL.out.2 h
      subst this; rfl
    · refine ⟨false, g, ?_⟩
      have : L ≠ [] := fun e => h (HNIL.out.1 e)
      have := List.length_pos_iff.2 this
      simp; omega
  obtain ⟨al, rfl, hal2⟩ := hal.out
  have HBX := hid (below_drewN' hB8 q9)
  have HOLX : Hid (OwnChgs (w8.drewN q9) w7.heap.size (.slice A3 L.length k3) L) := HOL.out
  have HOWX : Hid (OwnSegs (w8.drewN q9) w6.heap.size (.slice (some ⟨g2, 0, none⟩) b0.length cap2) b0) := HOW8.out
  have HTX := hid (HT8.out.drewN q9)
  have HUX := hid (HU8.out.drewN q9)
  have HUTX : Hid (∃ b off k c, (w8.drewN q9).cell? ⟨U, 1, none⟩ = some (.slice (some ⟨b, off, none⟩) k c) ∧ b ≠ T) := HUT8.out
  have hs8 : w8.heap.size ≤ (w8.drewN q9).heap.size := Nat.le_refl _
  generalize w8.drewN q9 = w9 at *
  clear HRW8 HU8 HT8 HOW8 HUT8 hB8 HOL hRw2 hal hv4
  have hln : L.length ≤ 9223372036854775807 := by simp only [maxLen] at hk3; omega
  have hae : ((L.length : Int) == 0) = al := by rw [← hal2]; exact (Bool.eq_iff_iff.2 (by simp))
  clear hal2
  go_wp2_with (first | (go_at_call 9; refine (num6_any _ _).mono ?_; rintro e w' ⟨rfl, rfl⟩) | fail)
  have HD0 := HDI.out
  clear hae
  go_loopw [18] (fun i wr => ∃ (k : Nat) (t : List Seg), k ≤ L.length ∧ i = .int .i64 k ∧ Hid (IsTab wr T lim t) ∧ Hid (Rng.WF t ∧ Rng.Lead a0 b0 t (Rng.cedge L k)) ∧ Hid (IsTab wr U (b.length : Int) b0) ∧ Hid (∃ b off k c, wr.cell? ⟨U, 1, none⟩ = some (.slice (some ⟨b, off, none⟩) k c) ∧ b ≠ T) ∧
    Hid (OwnChgs wr w7.heap.size (.slice A3 L.length k3) L) ∧ Hid (OwnSegs wr w6.heap.size (.slice (some ⟨g2, 0, none⟩) b0.length cap2) b0) ∧ Below w.heap.size w wr ∧ w7.heap.size ≤ wr.heap.size) (fun i _ => L.length - (intOf i).toNat)
  case atStart => exact ⟨0, a0, Nat.zero_le _, rfl, HTX, hid ⟨HWA.out, fun key z k0 k1 => absurd k1 (by show ¬ key < 0; omega), fun key z _ _ hz => hz⟩, HUX, HUTX, HOLX, HOWX, HBX.out, by omega⟩
  case round =>
    clear HD0
    obtain ⟨k, t, hk, rfl, HT, HLD, HU, HUTr, HOL, HOW, hbr, hsr⟩ := hrel
    by_cases hlt : k < L.length
    · obtain ⟨ch, hch⟩ : ∃ ch, L[k]? = some ch := ⟨_, List.getElem?_eq_getElem hlt⟩
      obtain ⟨g3, cap3, hv3, hbg3, hgl3⟩ := World.ownsRow.form HOL.out (by omega)
      cases hv3
      obtain ⟨z0, z1, z2, z3⟩ := OwnChgs.at4 HOL.out k ch hch
      obtain ⟨e1, e2, e3, e4, e5⟩ := HDI.out.each ch (List.mem_of_getElem? hch)
      have hld := Rng.lead_at HWB.out HDI.out hch HLD.out.2
      obtain ⟨q1, q2, q3, ⟨s1, q4, q5, q6⟩, ⟨s2, q7, q8, q9'⟩⟩ := Rng.lead_play HWA.out HWB.out HLD.out.1 e1 e2 (by omega) e5 hld
      have hln2 := Rng.lead_len HWA.out HWB.out q2 (show 0 ≤ ch.hi + 1 by omega) (by omega) q3
      have hOLk : OwnChgs wr w7.heap.size (.slice (some ⟨g3, 0, none⟩) L.length k3) L := HOL.out
      have hprev : Hid (k ≠ 0 → ∃ p, L[k - 1]? = some p ∧ p.hi < ch.lo ∧ ¬ (p.hi + 1 = ch.lo ∧ p.src = ch.src ∧ p.dst = ch.dst) ∧ 0 ≤ p.hi) := by
        intro h0
        have hlt' : k - 1 < L.length := by omega
        have hp : L[k - 1]? = some L[k - 1] := List.getElem?_eq_getElem hlt'
        have := Rng.chain_apart HDI.out.row (k - 1) _ ch hp (by rw [show k - 1 + 1 = k by omega]; exact hch)
        have h3 := HDI.out.each _ (List.mem_of_getElem? hp)
        exact ⟨_, hp, this.1, this.2, by omega⟩
      have HCH := hid hch
      have HE5 := hid e5
      have Q2 := hid q2
      have Q3 := hid q3
      have Q4 := hid q4
      have Q5 := hid q5
      have Q7 := hid q7
      have Q8 := hid q8
      have HLN2 := hid hln2
      have hne : (ch.src == ch.dst) = false := by simpa using e4
      have HE4 := hid e4
      clear hch e5 q2 q3 q4 q5 q7 q8 hld hln2 e4
      have hg3l : g3 < wr.heap.size := World.block_lt_of_cell? _ _ z0
      have hRow := Row.new wr [.int .u64 ch.lo, .int .u64 ch.hi, .int .u8 ch.src, .int .u8 ch.dst] 55
      have hBn : Below wr.heap.size wr (wr.alloc (.cells #[.int .u64 ch.lo, .int .u64 ch.hi, .int .u8 ch.src, .int .u8 ch.dst] 55)) := (Below.refl _ _).alloc (Nat.le_refl _) _
      obtain ⟨NB, hNB⟩ : ∃ NB, NB = wr.heap.size := ⟨_, rfl⟩
      obtain ⟨W1, hW1⟩ : ∃ W1, W1 = wr.alloc (.cells #[.int .u64 ch.lo, .int .u64 ch.hi, .int .u8 ch.src, .int .u8 ch.dst] 55) := ⟨_, rfl⟩
      rw [← hNB, ← hW1] at hRow
      rw [← hW1] at hBn
      have HNB := hid hNB
      have HW1 := hid hW1
      clear hNB hW1
      have hTl2 := HT.out.lt
      have hUl2 := HU.out.lt
      have y0 := Tfact hBn hg3l z0
      have y1 := Tfact hBn hg3l z1
      have y2 := Tfact hBn hg3l z2
      have y3 := Tfact hBn hg3l z3
      go_wp2_with fail
      rw [← HW1.out, ← HNB.out]
      have hbg : w7.heap.size ≤ NB := by rw [HNB.out]; exact hsr
      have hTN : T < NB := by rw [HNB.out]; exact hTl2
      have hW1N : NB < W1.heap.size := hRow.1
      have HBn : Hid (Below NB wr W1) := by rw [HNB.out]; exact hBn
      have hBw : Below w.heap.size w W1 := hbr.trans (hBn.mono hbr.size)
      have HBw := hid hBw
      clear hBn hBw
      go_cut [160] (fun v wc => v = .bool false ∧ ∃ q, wc = World.drewN W1 q)
      case first =>
        obtain ⟨r0, r1, r2, r3⟩ := hRow.four
        by_cases hk0 : k = 0
        · subst hk0
          go_quiet (fail)
          go_wp2_with fail
          go_meet
          exact ⟨rfl, _, rfl⟩
        · obtain ⟨p, hp, p1, p2, p3⟩ := hprev.out hk0
          obtain ⟨j, rfl⟩ : ∃ j, k = j + 1 := ⟨k - 1, by omega⟩
          rw [show j + 1 - 1 = j by omega] at hp
          obtain ⟨x0, x1, x2, x3⟩ := OwnChgs.at4 hOLk j p hp
          have x1 := (HBn.out.cell (p := ⟨g3, _, none⟩) (by rw [HNB.out]; exact hg3l)).trans x1
          have x2 := (HBn.out.cell (p := ⟨g3, _, none⟩) (by rw [HNB.out]; exact hg3l)).trans x2
          have x3 := (HBn.out.cell (p := ⟨g3, _, none⟩) (by rw [HNB.out]; exact hg3l)).trans x3
          clear x0 hp y0 y1 y2 y3 z0 z1 z2 z3 hk0
          have hjl : j < L.length := by omega
          have hwj : IntKind.i64.wrap ((j : Int) + 1 - 1) = (j : Int) := by rw [show (j : Int) + 1 - 1 = j by omega]; exact wrap_small _ (by omega) (by omega)
          have hwj2 : IntKind.i64.wrap (j : Int) = (j : Int) := wrap_small _ (by omega) (by omega)
          have hge : decide (ch.lo ≤ p.hi) = false := by simpa using p1
          have mk := maxK_eq
          have hwp : IntKind.u64.wrap (p.hi + 1) = p.hi + 1 := wrap_u64_in (by omega) (by omega)
          by_cases t1 : p.hi + 1 = ch.lo
          · have t1' : (p.hi + 1 == ch.lo) = true := by simpa using t1
            by_cases t2 : p.src = ch.src
            · have t2' : (p.src == ch.src) = true := by simpa using t2
              have t3' : (p.dst == ch.dst) = false := by simpa using fun h => p2 ⟨t1, t2, h⟩
              clear t1 t2 p2
              go_quiet (fail)
              go_wp2_with fail
              go_meet
              exact ⟨rfl, _, rfl⟩
            · have t2' : (p.src == ch.src) = false := by simpa using t2
              clear t1 t2 p2
              go_quiet (fail)
              go_wp2_with fail
              go_meet
              exact ⟨rfl, _, rfl⟩
          · have t1' : (p.hi + 1 == ch.lo) = false := by simpa using t1
            clear t1 p2
            go_quiet (fail)
            go_wp2_with fail
            go_meet
            exact ⟨rfl, _, rfl⟩
      case rest =>
      obtain ⟨rfl, q, rfl⟩ := hcut
      generalize hW2 : World.drewN W1 q = W2
      have hB2 : Below NB wr W2 := by rw [← hW2]; exact below_drewN' HBn.out q
      have hR2 : Row W2 NB [.int .u64 ch.lo, .int .u64 ch.hi, .int .u8 ch.src, .int .u8 ch.dst] := by rw [← hW2]; exact hRow
      have hbw2 : Below w.heap.size w W2 := by rw [← hW2]; exact below_drewN' HBw.out q
      have hBB : Below wr.heap.size wr W2 := by rw [← HNB.out]; exact hB2
      have hT2 := HT.out.below hBB
      have hU2 := HU.out.below hBB
      have hOL2 := hOLk.kept (grown_below hBB none) (.inr (by simp [Value.ownBlock]))
      have hOW2 := HOW.out.kept (grown_below hBB none) (.inr (by simp [Value.ownBlock]))
      have hUT2 : ∃ b off k c, W2.cell? ⟨U, 1, none⟩ = some (.slice (some ⟨b, off, none⟩) k c) ∧ b ≠ T := by
        obtain ⟨x1, x2, x3, x4, x5, x6⟩ := HUTr.out
        exact ⟨x1, x2, x3, x4, Tfact hBB hUl2 x5, x6⟩
      obtain ⟨r0, r1, r2, r3⟩ := hR2.four
      have hbs : wr.heap.size ≤ W2.heap.size := hBB.size
      have hbN := hR2.1
      clear hW2 hB2 hBB HT HU HOL HOW HUTr hOLk hRow HBn HBw hbr y0 y1 y2 y3 z0 z1 z2 z3 HW1
      have HT2 := hid hT2
      have HU2 := hid hU2
      have HOL2 := hid hOL2
      have HOW2 := hid hOW2
      have HUT2 := hid hUT2
      have HR2 := hid hR2
      have HBW2 := hid hbw2
      clear hT2 hU2 hOL2 hOW2 hUT2 hR2 hbw2
      have hls : t.length ≤ 1000000000 := by
        have := Rng.lead_len HWA.out HWB.out HLD.out.1 (Rng.cedge_le HDI.out k).1 (Rng.cedge_le HDI.out k).2 HLD.out.2
        omega
      have hon := owns_any W2 T lim t ch.lo ch.hi ch.src HT2.out HLD.out.1 hls s1 Q4.out
      rw [show ownsL s1 ch.lo ch.hi ch.src = true from by have hh := HLD.out.1.hosts s1 (List.mem_of_getElem? Q4.out); rw [Q5.out] at hh; unfold ownsL; simp [e2, Q5.out, q6, hh.2]] at hon
      go_wp2_with fail
      refine hon.mono ?_
      rintro e w10 ⟨rfl, hb10⟩
      have HT3 := hid (HT2.out.below hb10)
      have HU3 := hid (HU2.out.below hb10)
      have HOL3 := hid (HOL2.out.kept (grown_below hb10 none) (.inr (by simp [Value.ownBlock])))
      have HOW3 := hid (HOW2.out.kept (grown_below hb10 none) (.inr (by simp [Value.ownBlock])))
      have HUT3 : Hid (∃ b off k c, w10.cell? ⟨U, 1, none⟩ = some (.slice (some ⟨b, off, none⟩) k c) ∧ b ≠ T) := by
        obtain ⟨x1, x2, x3, x4, x5, x6⟩ := HUT2.out
        exact ⟨x1, x2, x3, x4, Tfact hb10 HU2.out.lt x5, x6⟩
      have HR3 := hid (HR2.out.below hb10)
      have HBW3 := hid (HBW2.out.trans (hb10.mono HBW2.out.size))
      have hbs3 : w7.heap.size ≤ w10.heap.size := by have := hb10.size; omega
      clear hb10 hon HT2 HU2 HOL2 HOW2 HUT2 HBW2 r0 r1 r2 r3 hbs hbN
      obtain ⟨r0, r1, r2, r3⟩ := HR3.out.four
      have hbN := HR3.out.1
      have hon := owns_any w10 U (b.length : Int) b0 ch.lo ch.hi ch.dst HU3.out HWB.out (by omega) s2 Q7.out
      rw [show ownsL s2 ch.lo ch.hi ch.dst = true from by have hh := HWB.out.hosts s2 (List.mem_of_getElem? Q7.out); rw [Q8.out] at hh; unfold ownsL; simp [e2, Q8.out, q9', hh.2]] at hon
      go_wp2_with fail
      refine hon.mono ?_
      rintro e w11 ⟨rfl, hb11⟩
      have HT4 := hid (HT3.out.below hb11)
      have HU4 := hid (HU3.out.below hb11)
      have HOL4 := hid (HOL3.out.kept (grown_below hb11 none) (.inr (by simp [Value.ownBlock])))
      have HOW4 := hid (HOW3.out.kept (grown_below hb11 none) (.inr (by simp [Value.ownBlock])))
      have HUT4 : Hid (∃ b off k c, w11.cell? ⟨U, 1, none⟩ = some (.slice (some ⟨b, off, none⟩) k c) ∧ b ≠ T) := by
        obtain ⟨x1, x2, x3, x4, x5, x6⟩ := HUT3.out
        exact ⟨x1, x2, x3, x4, Tfact hb11 HU3.out.lt x5, x6⟩
      have HR4 := hid (HR3.out.below hb11)
      have HBW4 := hid (HBW3.out.trans (hb11.mono HBW3.out.size))
      have hbs4 : w7.heap.size ≤ w11.heap.size := by have := hb11.size; omega
      clear hb11 hon HT3 HU3 HOL3 HOW3 HUT3 HBW3 r0 r1 r2 r3 hbs3 hbN HR3
      obtain ⟨r0, r1, r2, r3⟩ := HR4.out.four
      have hbN := HR4.out.1
      have has := assign_any w11 T lim t ch.lo ch.hi ch.dst HT4.out HLD.out.1 hls e1 (by omega) q1.1
      rw [assignL_ok e2 q1.2 (by have := HLN2.out; omega)] at has
      go_wp2_with fail
      refine has.mono ?_
      rintro e w12 ⟨rfl, hT5, hg5⟩
      have hg3T : g3 ≠ T := by omega
      have hg2T : g2 ≠ T := by omega
      have hneB : some NB ≠ some T := fun e => by have := Option.some.inj e; omega
      have HT5 := hid hT5
      have HU5 := hid (HU4.out.grownOther hg5 (by omega) (fun b off k c h e => by
        obtain ⟨x1, x2, x3, x4, x5, x6⟩ := HUT4.out
        rw [h] at x5; cases x5; exact x6 e))
      have HOL5 := hid (HOL4.out.kept hg5 (.inr (by simpa [Value.ownBlock] using hg3T)))
      have HOW5 := hid (HOW4.out.kept hg5 (.inr (by simpa [Value.ownBlock] using hg2T)))
      have HUT5 : Hid (∃ b off k c, w12.cell? ⟨U, 1, none⟩ = some (.slice (some ⟨b, off, none⟩) k c) ∧ b ≠ T) := by
        obtain ⟨x1, x2, x3, x4, x5, x6⟩ := HUT4.out
        exact ⟨x1, x2, x3, x4, hg5.cell x5 (fun e => by have := Option.some.inj e; simp only at this; omega), x6⟩
      have HR5 := hid (HR4.out.grown hg5 hneB)
      have HBW5 := hid (HBW4.out.grown hg5 HBW4.out.size (by intro k hk; cases hk; exact hTB))
      have hbs5 : w7.heap.size ≤ w12.heap.size := Nat.le_trans hbs4 hg5.size
      clear hg5 has HT4 HU4 HOL4 HOW4 HUT4 HBW4 r0 r1 r2 r3 hbs4 hbN HR4 hT5
      obtain ⟨r0, r1, r2, r3⟩ := HR5.out.four
      have hbN := HR5.out.1
      go_wp2_with (first | (go_at_call 9; refine (num6_any _ _).mono ?_; rintro e w' ⟨rfl, rfl⟩) | fail)
      go_roundw
      case rel => exact ⟨k + 1, Rng.withL t ch.lo ch.hi ch.dst, by omega, by go_num, HT5, hid ⟨Q2.out, by rw [Rng.cedge_some HCH.out]; exact Q3.out⟩, HU5, HUT5, HOL5, HOW5, HBW5.out, hbs5⟩
      case measure => simp [intOf]; omega
    · obtain rfl : k = L.length := by omega
      have htb : t = b0 := Rng.lead_done HWB.out HLD.out.1 HDI.out HLD.out.2
      subst htb
      have hTl2 := HT.out.lt
      go_wp2_with fail
      refine (list_any _ T lim t HT.out HWB.out (by omega)).mono ?_
      rintro e wy ⟨v9, rfl, hown9, hb9⟩
      obtain ⟨_, A9, k9, rfl, _, _, hRw9⟩ := owns_reads encSeg_len hown9 (by decide)
      obtain ⟨_, A8, k8, hv8, _, _, hRw8⟩ := owns_reads encSeg_len (HOW.out.kept (grown_below hb9 none) (.inr (by simp [Value.ownBlock]))) (by decide)
      cases hv8
      have HRa := hid hRw9
      have HRb := hid hRw8
      have hBy := hbr.trans (hb9.mono hbr.size)
      clear hown9 hRw9 hRw8 hb9
      go_wp2_with fail
      refine (sameGen_any wy.heap.size wy.heap.size wy A9 (some ⟨g2, 0, none⟩) t.length k9 t.length cap2 t t rfl rfl (by omega) (by omega) HRa.out HRb.out).mono ?_
      rintro e wz ⟨v7, rfl, hv7, q7, rfl⟩
      obtain ⟨rfl, _⟩ | ⟨_, h⟩ := hv7.out
      · go_wp2_with fail
        go_ret
        exact ⟨rfl, below_drewN' hBy _⟩
      · exact absurd rfl h
end Go.Proofs.Ytefdbhmjbfpeoaa
