/- Layer 9's laws: whole: all records that a replay stands for. -/
import Derived.Test.YtfcgmlofiaehkaaDoorKX
namespace Go.Proofs.YtfcgmlofiaehkaaDoor
open Go.RowKit

theorem or_len (q r n : Nat) (hq : q < 65536) (hr : r < 256) (hn : n = q * 256 + r) : bits .or .i64 ((q : Int) * 256) (r : Int) = (n : Int) := by
  rw [bits_join .i64 40 (by decide) (fun n h0 h1 => wrap_small _ h0 (by omega)) 8 ((q : Int) * 256) (r : Int) (by omega) (by omega) (by omega) (by omega) (by omega) (by omega)]
  omega
/-- a byte list in memory below B, as a reader sees it -/
def BRdB (B : Nat) (w : World) (s : SV) (l : List Int) : Prop := l.length = s.2.1 ∧ s.2.1 ≤ s.2.2 ∧ NilOk s.1 s.2.1 s.2.2 ∧ U8s B w s.1 l ∧ ∀ x ∈ l, isB x
theorem BRdB.below {B : Nat} {w W : World} {s : SV} {l : List Int} (h : BRdB B w s l) (hd : Below B w W) : BRdB B W s l := ⟨h.1, h.2.1, h.2.2.1, h.2.2.2.1.below hd, h.2.2.2.2⟩
theorem BRdB.sub {B : Nat} {w : World} {A : Option Addr} {n c : Nat} {l : List Int} (hl : l.length = n) (hc : n ≤ c) (hne : l ≠ []) (hR : U8s B w A l) (hb : ∀ x ∈ l, isB x) : BRdB B w (A, n, c) l := by
  refine ⟨hl, hc, ?_, hR, hb⟩
  rintro h0
  rcases hR with h | ⟨b, off, h, _⟩
  · exact absurd h hne
  · rw [show A = none from h0] at h; cases h
/-- the slices of 'out', as far as the list goes; what they show lies below base -/
def OutAt (w : World) (base : Nat) (B : Option Addr) (m cc : Nat) (ls : List (List Int)) : Prop :=
  ∃ vs : List SV, vs.length = m ∧ ls.length = m ∧ w.ownsRow base 22 1 (.slice B m cc) m (vs.flatMap svE) ∧ ∀ (k : Nat) (s : SV) (l : List Int), vs[k]? = some s → ls[k]? = some l → BRdB base w s l
theorem OutAt.nil (w : World) (base : Nat) : OutAt w base none 0 0 [] := ⟨[], rfl, rfl, World.ownsRow_nil _ _ _ _, by simp⟩
theorem OutAt.rd {w : World} {base : Nat} {B : Option Addr} {m cc : Nat} {ls : List (List Int)} (h : OutAt w base B m cc ls) (hb : base ≤ w.heap.size) : LsRd w B m cc ls := by
  obtain ⟨vs, h1, h2, h3, h4⟩ := h
  obtain ⟨_, A', c', e, h5, _, h6⟩ := owns_reads svE_len h3 (by decide)
  cases e
  exact ⟨vs, h1, h2, h5, h6, fun i s l hs hl => by
    obtain ⟨a, b, c, d, e⟩ := h4 i s l hs hl
    exact ⟨a, b, c, d.mono hb, e⟩⟩
/-- one element more: what a walk's append law says -/
theorem OutAt.push {W2 w3 : World} {base m : Nat} {ls : List (List Int)} {s : SV} {l : List Int} {vs : List SV} {v3 : Value} (h1 : vs.length = m) (h2 : ls.length = m) (h4 : ∀ (k : Nat) (s : SV) (l : List Int), vs[k]? = some s → ls[k]? = some l → BRdB base W2 s l)
    (hs : BRdB base W2 s l) (hown : w3.ownsRow base 22 1 v3 (vs ++ [s]).length ((vs ++ [s]).flatMap svE)) (hb : Below base W2 w3) : ∃ B' cc', v3 = .slice B' (m + 1) cc' ∧ OutAt w3 base B' (m + 1) cc' (ls ++ [l]) := by
  have hlen : (vs ++ [s]).length = m + 1 := by simp [h1]
  rw [hlen] at hown
  obtain ⟨_, B', cc', rfl, _, _, _⟩ := owns_reads svE_len hown (by decide)
  refine ⟨B', cc', rfl, vs ++ [s], hlen, by simp [h2], hown, fun k t x ht hx => ?_⟩
  by_cases hk : k < m
  · rw [List.getElem?_append_left (by omega)] at ht hx
    exact (h4 k t x ht hx).below hb
  · have hkm : k < m + 1 := by
      have := (List.getElem?_eq_some_iff.1 ht).1
      rw [hlen] at this; exact this
    rw [show k = vs.length by omega] at ht
    rw [show k = ls.length by omega] at hx
    simp at ht hx
    subst ht; subst hx
    exact hs.below hb
set_option maxRecDepth 100000 in
set_option maxHeartbeats 8000000 in
theorem whole_any (w : World) (g tn : Int) (As : Option Addr) (ns cs : Nat) (dl : List (List Int)) (Ar : Option Addr) (nr cr : Nat) (rs : List (List Int)) (hns : ns = laidLen dl) (hcs : ns ≤ cs) (hS : U8s w.heap.size w As (laidL dl)) (hdl : ∀ r ∈ dl, GoodR r) (hR : LsRd w Ar nr cr rs) (hbig : ns ≤ 100000000) (hbig2 : nr ≤ 100000000) :
    Calls Tryd.prog 66 #[.agg #[.int .u64 g, .slice As ns cs, .slice Ar nr cr, .int .i64 tn]] w fun e w' => ∃ A n c, e = .returned (.tuple #[.slice A n c, .bool true]) ∧ n = (dl ++ rs).length ∧ LsRd w' A n c (dl ++ rs) ∧ Below w.heap.size w w' := by
  have hdn : dl.length ≤ 100000000 := by
    have : ∀ l : List (List Int), l.length ≤ laidLen l := fun l => by
      induction l with
      | nil => exact Nat.le_refl _
      | cons x l ih => rw [laidLen, List.length_cons]; omega
    have := this dl
    omega
  obtain ⟨hnr, hncr⟩ := hR.len
  have HS := hid hS
  have HDL := hid hdl
  have HR := hid hR
  have HNS := hid hns
  obtain ⟨W1, hW1⟩ : ∃ W, W = w.alloc (.cells #[.int .u64 g, .slice As ns cs, .slice Ar nr cr, .int .i64 tn] 30) := ⟨_, rfl⟩
  have hb1 : Below w.heap.size w W1 := by rw [hW1]; exact (Below.refl _ w).alloc (Nat.le_refl _) _
  have hx1 : W1.heap[w.heap.size]? = some (.cells #[.int .u64 g, .slice As ns cs, .slice Ar nr cr, .int .i64 tn] 30 (0, 0)) := by rw [hW1]; exact heap_alloc_new w _
  have hz1 : W1.heap.size = w.heap.size + 1 := by rw [hW1]; simp
  have x1 : W1.cell? ⟨w.heap.size, 1, none⟩ = some (.slice As ns cs) := by simp [World.cell?, hx1]
  have x2 : W1.cell? ⟨w.heap.size, 2, none⟩ = some (.slice Ar nr cr) := by simp [World.cell?, hx1]
  have HB1 := hid hb1
  have HX2 := hid x2
  have HSS := hid ((hS.below hb1).mono hb1.size)
  have HR1 := hid (hR.below hb1)
  clear hb1 hx1 hz1 hS hdl hR hns x2 HS HR
  go_enter Tryd.func66, Tryd.ntmps66
  go_upto_region 2 with fail
  rw [← hW1]
  clear hW1
  go_wp2_with fail
  go_loopg [4, 5] dl.length (fun gx so sb wr => ∃ (i nb cb cc : Nat) (Ab B : Option Addr), sb = .slice Ab nb cb ∧ so = .slice B i cc ∧ i ≤ dl.length ∧ dl.length - i ≤ gx ∧ nb ≤ 100000000 ∧ nb ≤ cb ∧ Hid (nb = (laidL (dl.drop i)).length) ∧ Hid (U8s W1.heap.size wr Ab (laidL (dl.drop i))) ∧ Hid (OutAt wr W1.heap.size B i cc (dl.take i)) ∧ Hid (Below W1.heap.size W1 wr))
  case atStart => exact ⟨0, ns, cs, 0, As, none, rfl, rfl, Nat.zero_le _, Nat.le_refl _, hbig, hcs, hid (by rw [HNS.out, ← laidL_len]; rfl), hid HSS.out, hid (OutAt.nil _ _), hid (Below.refl _ _)⟩
  case round =>
    obtain ⟨i, nb, cb, cc, Ab, B, rfl, rfl, hi, hgx, hnb, hncb, HNB, HU, HO, HB⟩ := hrel
    by_cases hlt : i < dl.length
    · obtain ⟨r, hr⟩ : ∃ r, dl[i]? = some r := ⟨_, List.getElem?_eq_getElem hlt⟩
      have hdrop : dl.drop i = r :: dl.drop (i + 1) := by
        rw [List.drop_eq_getElem_cons hlt]
        have := (List.getElem?_eq_some_iff.1 hr).2
        rw [this]
      obtain ⟨g1, g2, g3⟩ := HDL.out r (List.mem_of_getElem? hr)
      have hla : laidL (dl.drop i) = ((r.length / 256 : Nat) : Int) :: ((r.length % 256 : Nat) : Int) :: (r ++ laidL (dl.drop (i + 1))) := by rw [hdrop]; rfl
      have hnb2 : nb = 2 + r.length + (laidL (dl.drop (i + 1))).length := by rw [HNB.out, hla]; simp only [List.length_cons, List.length_append]; omega
      obtain ⟨q8, hq8⟩ : ∃ q, r.length / 256 = q := ⟨_, rfl⟩
      obtain ⟨r8, hr8⟩ : ∃ q, r.length % 256 = q := ⟨_, rfl⟩
      obtain ⟨rest, hrest⟩ : ∃ q, laidL (dl.drop (i + 1)) = q := ⟨_, rfl⟩
      rw [hq8, hr8, hrest] at hla
      rw [hrest] at hnb2
      have hu := HU.out
      rw [hla] at hu
      have hor := or_len q8 r8 r.length (by omega) (by omega) (by omega)
      obtain ⟨b, off, x0, hx0, rfl, hb0, hc0⟩ := hu.at' 0 (by simp)
      obtain ⟨_, _, x1', hx1', he, _, hc1⟩ := hu.at' 1 (by simp)
      cases he
      have e0 : x0 = (q8 : Int) := by have := hx0.out; simpa using this.symm
      have e1 : x1' = (r8 : Int) := by have := hx1'.out; simpa using this.symm
      subst e0 e1
      rw [Nat.add_zero] at hc0
      obtain ⟨Ac, runc, rdc⟩ := cutB_run (some ⟨b, off, none⟩) nb cb 2 (2 + r.length) 2 (2 + (r.length : Int)) rfl (by omega) (by omega) (by omega) hncb
      obtain ⟨Ad, rund, rdd⟩ := drop_run (P := Tryd.prog) (enc := u8s) 22 5 _ 1 1 Tryd.underlying22 infoU8 (some ⟨b, off, none⟩) nb cb (2 + r.length) (2 + (r.length : Int)) (by omega) (by omega) hncb
      have hll : ((q8 : Int) :: (r8 : Int) :: (r ++ rest)).length = nb := by rw [← hla, HNB.out]
      have hrc := rdc W1.heap.size wr _ hll hu
      have hrd := rdd W1.heap.size wr _ hll hu
      have t1 : (((q8 : Int) :: (r8 : Int) :: (r ++ rest)).take (2 + r.length)).drop 2 = r := by
        rw [Nat.add_comm 2 r.length]; simp
      have t2 : ((q8 : Int) :: (r8 : Int) :: (r ++ rest)).drop (2 + r.length) = rest := by
        rw [Nat.add_comm 2 r.length]; simp
      rw [t1] at hrc
      rw [t2] at hrd
      have h2r : 2 + r.length - 2 = r.length := by omega
      rw [h2r] at runc
      have hbr := BRdB.sub (n := r.length) (c := cb - 2) rfl (by omega) (fun e => by rw [e] at g1; simp at g1) hrc g3
      obtain ⟨vs, v1, v2, v3, v4⟩ := HO.out
      have htk : dl.take (i + 1) = dl.take i ++ [r] := take_snoc hr
      have HBR := hid hbr
      have HRD := hid hrd
      have HV1 := hid v1
      have HV2 := hid v2
      have HV3 := hid (show wr.ownsRow W1.heap.size 22 1 (.slice B i cc) vs.length (vs.flatMap svE) by rw [v1]; exact v3)
      have HV4 := hid v4
      have HTK := hid htk
      have HREST := hid hrest
      have hvl : vs.length ≤ 100000000 := by omega
      have hw2 : IntKind.i64.wrap (2 + (r.length : Int)) = 2 + (r.length : Int) := wrap_small _ (by omega) (by omega)
      have hw3 : IntKind.i64.wrap ((nb : Int) - 2) = (nb : Int) - 2 := wrap_small _ (by omega) (by omega)
      have hws : IntKind.i64.wrap ((q8 : Int) * 256) = (q8 : Int) * 256 := wrap_small _ (by omega) (by omega)
      have hwq : IntKind.i64.wrap (q8 : Int) = (q8 : Int) := wrap_small _ (by omega) (by omega)
      have hwr8 : IntKind.i64.wrap (r8 : Int) = (r8 : Int) := wrap_small _ (by omega) (by omega)
      have d0 : decide (0 < nb) = true := by simp; omega
      have d1 : decide ((0 : Int) < (nb : Int)) = true := by simp; omega
      have d2 : decide ((nb : Int) < 2) = false := by simp; omega
      have d3 : decide ((nb : Int) - 2 < (r.length : Int)) = false := by simp; omega
      have i0 : (0 : Int) < (nb : Int) := by omega
      have i1 : (1 : Int) < (nb : Int) := by omega
      have HBZ := HB.out.size
      have HQ8 := hid hq8
      have HR8 := hid hr8
      have hnbr : nb - (2 + r.length) = rest.length := by omega
      have HNBR := hid hnbr
      have hnb' : nb - (2 + r.length) ≤ 100000000 := by omega
      have hnc' : nb - (2 + r.length) ≤ cb - (2 + r.length) := by omega
      clear hu rdc rdd hrc hrd t1 t2 hbr v1 v2 v3 v4 htk hrest hla hnb2 hdrop hr hx0 hx1' hll h2r g3 hq8 hr8 hnbr
      go_wp2_with fail
      go_quiet (fail)
      go_wp2_with (at_builtin; go_loud (refine wpList_append_one (enc := svE) _ W1.heap.size rfl _ _ 28 22 _ 24 rfl Tryd.underlying28 infoBs rfl (by decide) svE_len svE_one (.slice B i cc) vs (Ac, r.length, cb - 2) _ rfl rfl _ rfl rfl HV3.out (by simp only [maxLen]; omega) (by omega) HBZ ?_; intro v5 w3 hown3 hgr3 hat3; have HO3 := hid hown3; have HG3 := hid hgr3; clear hown3 hgr3 hat3))
      have hb3 : Below W1.heap.size wr w3 := (below_drewN' (Below.refl _ _) _).grown HG3.out HBZ (fun k e => own_ge HV3.out k e)
      obtain ⟨B', cc', rfl, hout⟩ := OutAt.push HV1.out HV2.out HV4.out HBR.out HO3.out hb3
      rw [← HTK.out] at hout
      go_roundg (dl.length - (i + 1))
      case measure => omega
      case rel => exact ⟨i + 1, nb - (2 + r.length), cb - (2 + r.length), cc', Ad, B', rfl, rfl, hlt, Nat.le_refl _, hnb', hnc', hid (by rw [HREST.out, HNBR.out]), hid (by rw [HREST.out]; exact HRD.out.below hb3), hid hout, hid (HB.out.trans hb3)⟩
    · have hid' : i = dl.length := by omega
      have hnb0 : nb = 0 := by rw [HNB.out, hid', List.drop_length]; rfl
      have ho := HO.out
      rw [hid', List.take_length] at ho
      have HO' := hid ho
      subst hnb0
      subst hid'
      have x2 : wr.cell? ⟨w.heap.size, 2, none⟩ = some (.slice Ar nr cr) := (HB.out.cell (p := ⟨w.heap.size, 2, none⟩) (World.block_lt_of_cell? _ _ HX2.out)).trans HX2.out
      have HX2r := hid x2
      obtain ⟨wL, hwL⟩ : ∃ W, W = wr := ⟨_, rfl⟩
      subst hwL
      clear ho HO HNB HU
      go_wp2_with fail
      go_loopg [4, 7] nr (fun gx so si wr => ∃ (i m cc : Nat) (B : Option Addr), si = .int .i64 i ∧ so = .slice B m cc ∧ i ≤ nr ∧ nr - i ≤ gx ∧ Hid (m = dl.length + i) ∧ Hid (OutAt wr W1.heap.size B m cc (dl ++ rs.take i)) ∧ Hid (Below W1.heap.size W1 wr) ∧ wr.cell? ⟨w.heap.size, 2, none⟩ = some (.slice Ar nr cr))
      case atStart => exact ⟨0, dl.length, cc, B, rfl, rfl, Nat.zero_le _, Nat.le_refl _, hid rfl, hid (by simpa using HO'.out), HB, x2⟩
      case round =>
        clear x2
        obtain ⟨i, m, cc, B, rfl, rfl, hi, hgx, HM, HO, HB2, x2⟩ := hrel
        by_cases hlt : i < nr
        · have hii : (i : Int) < (nr : Int) := by omega
          have hwi : IntKind.i64.wrap ((i : Int) + 1) = (i : Int) + 1 := wrap_small _ (by omega) (by omega)
          obtain ⟨b, off, s, l, rfl, hb, hc, hl, hr⟩ := HR1.out.at i hlt
          have c0 := (HB2.out.cell (p := ⟨b, off + i, none⟩) hb).trans hc
          have hr' : BRdB W1.heap.size wr s l := BRdB.below (B := W1.heap.size) hr HB2.out
          obtain ⟨vs, v1, v2, v3, v4⟩ := HO.out
          have hvl : vs.length ≤ 200000000 := by rw [v1, HM.out]; omega
          have HBR := hid hr'
          have HV1 := hid v1
          have HV2 := hid v2
          have HV3 := hid (show wr.ownsRow W1.heap.size 22 1 (.slice B m cc) vs.length (vs.flatMap svE) by rw [v1]; exact v3)
          have HV4 := hid v4
          have htk : dl ++ rs.take (i + 1) = dl ++ rs.take i ++ [l] := by rw [take_snoc hl, List.append_assoc]
          have HTK := hid htk
          obtain ⟨sA, sn, sc⟩ := s
          dsimp only at c0
          have HBZ := HB2.out.size
          have HMS := hid (show m + 1 = dl.length + (i + 1) by have := HM.out; omega)
          have hblk := World.block_lt_of_cell? _ _ HX2.out
          clear hc hr hr' v1 v2 v3 v4 htk hl hb
          go_wp2_with (at_builtin; go_loud (refine wpList_append_one (enc := svE) _ W1.heap.size rfl _ _ 28 22 _ 24 rfl Tryd.underlying28 infoBs rfl (by decide) svE_len svE_one (.slice B m cc) vs (sA, sn, sc) _ rfl rfl _ rfl rfl HV3.out (by simp only [maxLen]; omega) (by omega) HBZ ?_; intro v5 w3 hown3 hgr3 hat3; have HO3 := hid hown3; have HG3 := hid hgr3; clear hown3 hgr3 hat3))
          have hb3 : Below W1.heap.size wr w3 := (Below.refl _ _).grown HG3.out HBZ (fun k e => own_ge HV3.out k e)
          obtain ⟨B', cc', rfl, hout⟩ := OutAt.push HV1.out HV2.out HV4.out HBR.out HO3.out hb3
          rw [← HTK.out] at hout
          go_roundg (nr - (i + 1))
          case measure => omega
          case rel => exact ⟨i + 1, m + 1, cc', B', by go_num, rfl, hlt, Nat.le_refl _, HMS, hid hout, hid (HB2.out.trans hb3), (hb3.cell (p := ⟨w.heap.size, 2, none⟩) hblk).trans x2⟩
        · have hii : ¬ (i : Int) < (nr : Int) := by omega
          have ho := HO.out
          have hm := HM.out
          rw [List.take_of_length_le (by omega)] at ho
          have HO2 := hid ho
          have HM2 := hid (show m = (dl ++ rs).length by rw [List.length_append]; omega)
          clear ho hm
          go_wp2_with fail
          go_ret2
          exact ⟨B, m, cc, rfl, by first | exact HM2.out | (have h := HM2.out; rw [List.length_append] at h; omega), HO2.out.rd HB2.out.size, HB1.out.trans ((HB2.out).mono HB1.out.size)⟩
end Go.Proofs.YtfcgmlofiaehkaaDoor
