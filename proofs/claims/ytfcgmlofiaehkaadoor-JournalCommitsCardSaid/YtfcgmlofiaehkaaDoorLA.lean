/- Layer 9's laws: crash: the machine stops and starts again. -/
import Derived.Test.YtfcgmlofiaehkaaDoorKZ
namespace Go.Proofs.YtfcgmlofiaehkaaDoor
open Go.RowKit

/-- what a run is behind crash -/
def Crashed (w w' : World) (R : Nat) (p : PS) (ls : List (List Int)) (safe : Nat) (n : Int) (P Q : Nat → Prop) : Prop :=
  ∃ q k, k ≤ ls.length ∧ RunOk q (ls.take k) k ∧ q.gen ≤ p.gen ∧ (n ≤ 0 → k = safe) ∧ RunStep w w' R q (ls.take k) k P Q
theorem crash_fin {w w8 U : World} {R : Nat} {V Va V5 : Value} {p q : PS} {ls : List (List Int)} {safe k ca m1 m2 : Nat} {Aa : Option Addr} {P Q P5 : Nat → Prop} {n : Int} (h : RunAt w R V Va p ls safe P Q) (hT : Tch P w w8) (hbx : w8.heap[R]? = some (.cells #[V, Va, .int .i64 safe] 64 (0, 0)))
    (hall : AllAt w8 (.slice Aa ls.length ca) ls Q) (hJ : Jn w8 V5 q room P5) (hP5 : ∀ k, P5 k → m1 ≤ k ∧ k < m2) (hm : w.heap.size ≤ m1) (hk : k ≤ ls.length) (hq : RunOk q (ls.take k) k) (hg : q.gen ≤ p.gen) (hn : n ≤ 0 → k = safe)
    (hU : U = ((w8.setCell ⟨R, 0, none⟩ V5).setCell ⟨R, 1, none⟩ (.slice Aa k ca)).setCell ⟨R, 2, none⟩ (.int .i64 k)) : Crashed w U R p ls safe n P Q := by
  obtain ⟨Q', hall', hQ'⟩ := hall.take rfl hk
  have hRlt : R < w.heap.size := (Array.getElem?_eq_some_iff.1 h.box).1
  have htU : Tch (fun k => k = R) w8 U := by rw [hU]; exact (((Tch.refl (fun k => k = R) w8).setCell ⟨R, 0, none⟩ _ (.inl rfl)).setCell ⟨R, 1, none⟩ _ (.inl rfl)).setCell ⟨R, 2, none⟩ _ (.inl rfl)
  have hP5w : ∀ k, P5 k → w.heap.size ≤ k := fun k hk => Nat.le_trans hm (hP5 k hk).1
  have hPR : ¬ P5 R := fun e => by have := hP5w R e; omega
  have hQR : ¬ Q' R := fun e => h.qr (hQ' R e)
  refine ⟨q, k, hk, hq, hg, hn, V5, .slice Aa k ca, P5, Q', ⟨?_, hJ.keep htU (fun k hk e => hPR (e ▸ hk)), hall'.keep htU (fun k hk e => hQR (e ▸ hk)), hPR, hQR, fun k hk hq => ?_⟩, ?_, fun k hk => ?_⟩
  · rw [hU]; exact set10 2 (set10 1 (set10 0 hbx rfl) rfl) rfl
  · have h1 := hP5w k hk
    have h2 := h.all.lt k (hQ' k hq)
    omega
  · exact (hT.mono fun k hk => .inr (.inl hk)).trans htU (fun k hk => .inl (.inl hk))
  · rcases hk with hk | hk | hk
    · exact .inl (.inl hk)
    · exact .inr (hP5w k hk)
    · exact .inl (.inr (.inr (hQ' k hk)))
theorem cut_gen (p : PS) (n : Nat) : (p.cut n).gen ≤ p.gen := by
  unfold PS.cut
  split
  · exact Int.le_refl _
  · split
    · exact Int.le_refl _
    · show p.gen - 1 ≤ p.gen; omega
set_option maxRecDepth 100000 in
set_option maxHeartbeats 8000000 in
theorem crash_run (w : World) (R : Nat) (V Va : Value) (p : PS) (ls : List (List Int)) (safe : Nat) (P Q : Nat → Prop) (h : RunAt w R V Va p ls safe P Q) (hok : RunOk p ls safe) (hsz : sumF ls ≤ 8000000) (n : Int) (hn : okI64 n) :
    Calls Tryd.prog 45 #[.pointer (some ⟨R, 0, none⟩), .int .i64 n] w fun e w' => e = .returned (.bool true) ∧ Crashed w w' R p ls safe n P Q := by
  obtain ⟨hn0, hn1⟩ := hn
  obtain ⟨x0, x1, x2, f0, f1, f2⟩ := h.cells
  obtain ⟨Aa, ca, rfl, hca, hma, hna⟩ := h.all.slice
  have hAst := h.all.start
  have hst := jn_stat h.jn
  have hlsl : ls.length ≤ 8000000 := by have := sumF_len ls; omega
  have hsfl : p.sy ≤ p.len := h.jn.ok.sy1
  have hpl := hok.len_le
  obtain ⟨K, hK⟩ : ∃ K : Int, K = if n < 0 then 0 else n := ⟨_, rfl⟩
  have hK0 : 0 ≤ K ∧ K ≤ 9223372036854775807 := by rw [hK]; split <;> omega
  have hdb := h.jn.ok.d_byte (p.left K)
  have hcw := PS.cut_wa h.jn.ok (p.left_le h.jn.ok K).1
  obtain ⟨k, dl, k1, k2, k3, k4, k5, k6, k7, k8⟩ := hok.cut h.jn.ok (p.left K) (p.left_le h.jn.ok K).1 (p.left_le h.jn.ok K).2
  have hol := open_left h.jn.ok room_lim K
  have hqg := cut_gen p (p.left K)
  have hgd := hok.good
  obtain ⟨q, hq⟩ : ∃ q, p.cut (p.left K) = q := ⟨_, rfl⟩
  obtain ⟨T, hT⟩ : ∃ T, p.torn (p.left K) = T := ⟨_, rfl⟩
  rw [hq] at hcw k5 k6 k7 hol hqg
  rw [hT] at hol
  obtain ⟨un, hun⟩ : ∃ un, p.len - p.sy = un := ⟨_, rfl⟩
  have hk3 : K = 0 → k = safe := fun e => k3 (by unfold PS.left; rw [e]; simp)
  have hk4 : (un : Int) ≤ K → k = ls.length := fun e => k4 (by unfold PS.left; omega)
  have hkn : n ≤ 0 → k = safe := fun e => hk3 (by rw [hK]; split <;> omega)
  rw [hun] at hst
  have hdlen : laidLen dl ≤ 8000000 := by
    have h1 := laidLen_le dl
    have h2 := sumF_append dl q.rs
    have h3 := sumF_take ls k
    rw [← k7] at h3
    omega
  have hrsl : q.rs.length ≤ 8000000 := by
    have := congrArg List.length k7
    rw [List.length_append, List.length_take] at this
    omega
  have HK3 := hid hk3
  have HK4 := hid hk4
  have HH := hid h
  have HST := hid hst
  have HDB := hid hdb
  have HCW := hid hcw
  have HOL := hid hol
  have HK5 := hid k5
  have HK6 := hid k6
  have HK7 := hid k7
  have HK8 := hid k8
  have HKN := hid hkn
  have HQG := hid hqg
  have HGD := hid hgd
  have HSL := hid hAst
  have HNUM := hid (fun W => num_any W 0)
  have HGR := hid (fun r (hr : r ∈ q.rs) => hgd r (List.mem_of_mem_take (k7 ▸ List.mem_append_right dl hr)))
  have hkl : k ≤ 8000000 := by omega
  have HKL := hid (show (dl ++ q.rs).length = k by rw [k7, List.length_take]; omega)
  clear hk3 hk4 h hok hst hdb hcw hol k3 k4 k5 k6 k7 k8 hkn hqg hgd hq hT hun hAst f0 f1 f2 x1 x2
  by_cases hneg : n < 0
  · have hK1 : K = 0 := by rw [hK, if_pos hneg]
    subst hK1
    have dn : decide (n < 0) = true := by simpa using hneg
    clear hK
    go_enter Tryd.func45, Tryd.ntmps45
    go_wp2_with fail
    refine HST.out.mono ?_
    rintro e w1 ⟨rfl, hb1⟩
    obtain ⟨W2, hW2⟩ : ∃ W, W = w1.alloc (.cells #[.int .u64 p.gen, .int .i64 (slotOf p.gen : Nat), .int .i64 p.rs.length, .int .i64 p.len, .int .i64 p.wa, .int .i64 (un : Nat)] 89) := ⟨_, rfl⟩
    have hb2 : Below w1.heap.size w1 W2 := by rw [hW2]; exact (Below.refl _ w1).alloc (Nat.le_refl _) _
    have hs2 : W2.heap[w1.heap.size]? = some (.cells #[.int .u64 p.gen, .int .i64 (slotOf p.gen : Nat), .int .i64 p.rs.length, .int .i64 p.len, .int .i64 p.wa, .int .i64 (un : Nat)] 89 (0, 0)) := by rw [hW2]; exact heap_alloc_new w1 _
    have hb12 : Below w.heap.size w W2 := hb1.trans (hb2.mono hb1.size)
    have hr2 := HH.out.below hb12
    have hPs : ¬ P w1.heap.size := fun e => by
      have h1 := HH.out.jn.lt _ e
      have h2 := hb1.size
      omega
    have HC := hid (jn_crash hr2.jn (0) (by omega))
    have x0' := hr2.cells.1
    have HS2 := hid hs2
    have HPS := hid hPs
    have HR2 := hid hr2
    have HB12 := hid hb12
    clear hb1 hb2 hs2 hr2 hb12 hPs HST x0
    go_upto_region 4 with fail
    rw [← hW2]
    clear hW2
    go_wp2_with fail
    refine HC.out.mono ?_
    rintro e w3 ⟨A0, n0, c0, A1, n1, c1, rfl, hD, hG, ht⟩
    have hrd := DskRd.of hD HDB.out.1 HDB.out.2
    have hs3 := ht.box HS2.out HPS.out
    have hbx3 := ht.box HR2.out.box HH.out.pr
    have hall3 := HR2.out.all.keep ht (fun k hk hp => HH.out.pq k hp hk)
    have htw3 : Tch P w w3 := (Tch.below (P := P) HB12.out).trans ht (fun k hk => .inl hk)
    obtain ⟨W4, hW4⟩ : ∃ W, W = w3.alloc (.cells #[.slice A0 n0 c0, .slice A1 n1 c1] 25) := ⟨_, rfl⟩
    have hb4 : Below w3.heap.size w3 W4 := by rw [hW4]; exact (Below.refl _ w3).alloc (Nat.le_refl _) _
    have hrd4 := hrd.below hb4
    have HO := hid (jn_open W4 A0 n0 c0 A1 n1 c1 _ _ room q T hrd4.len0 hrd4.cap0 hrd4.len1 hrd4.cap1 hrd4.byte0 hrd4.byte1 hrd4.rd0 hrd4.rd1 HOL.out HCW.out)
    have HS4 := hid (box_below hs3 hb4)
    have HBX4 := hid (box_below hbx3 hb4)
    have HALL4 := hid (hall3.keep (Tch.below (P := fun _ => False) hb4) (fun _ _ => id))
    have HT4 := hid (htw3.trans (Tch.below (P := fun _ => False) hb4) (fun _ h => h.elim))
    have hd4 : W4.heap[w3.heap.size]? = some (.cells #[.slice A0 n0 c0, .slice A1 n1 c1] 25 (0, 0)) := by rw [hW4]; exact heap_alloc_new w3 _
    obtain ⟨d0, d1, _, _⟩ := disk_box hd4
    clear hD hG ht hrd hs3 hbx3 hall3 htw3 hb4 hrd4 HC hd4 x0'
    go_upto_region 5 with fail
    rw [← hW4]
    clear hW4
    go_wp2_with fail
    refine (HNUM.out _).mono ?_
    rintro e wx ⟨rfl, hwx⟩
    obtain rfl : W4 = wx := hwx.symm
    go_wp2_with fail
    refine HO.out.mono ?_
    rintro e w5 ⟨V5, sv, rv, P5, m1, m2, rfl, hne, hb5, hJn, hP5, hm1, hm2, hh, hs5⟩
    obtain ⟨j5, s0, s1, rfl, _, _⟩ := hJn.at'
    obtain ⟨Ar, cr, rfl, _, _⟩ := hh.holds.slice
    have hs5' : OwnB w5 m2 sv (laidL dl) := by rw [← HK6.out]; exact hs5
    have hs6 : w5.ownsRow m2 5 1 sv (laidLen dl) ((laidL dl).flatMap u8s) := by rw [← laidL_len]; exact hs5'
    obtain ⟨_, As, cs, rfl, hcs, _, hsr⟩ := owns_reads u8s_len hs6 (by decide)
    have hrl : LsRd w5 Ar q.rs.length cr q.rs := hh.rd (fun l hl x hx => (HGR.out l hl).2.2 x hx)
    obtain ⟨W6, hW6⟩ : ∃ W, W = w5.alloc (.cells #[.int .u64 q.gen, .slice As (laidLen dl) cs, .slice Ar q.rs.length cr, .int .i64 (T : Int)] 30) := ⟨_, rfl⟩
    have hb6 : Below w5.heap.size w5 W6 := by rw [hW6]; exact (Below.refl _ w5).alloc (Nat.le_refl _) _
    have hx6 : W6.heap[w5.heap.size]? = some (.cells #[.int .u64 q.gen, .slice As (laidLen dl) cs, .slice Ar q.rs.length cr, .int .i64 (T : Int)] 30 (0, 0)) := by rw [hW6]; exact heap_alloc_new w5 _
    have HWH := hid (whole_any W6 q.gen (T : Int) As (laidLen dl) cs dl Ar q.rs.length cr q.rs rfl hcs ((hsr.below hb6).mono hb6.size) HK8.out (hrl.below hb6) (by omega) (by omega))
    have HS6 := hid (box_below (box_below HS4.out hb5) hb6)
    have HBX6 := hid (box_below (box_below HBX4.out hb5) hb6)
    have HALL6 := hid ((HALL4.out.keep (Tch.below (P := fun _ => False) hb5) (fun _ _ => id)).keep (Tch.below (P := fun _ => False) hb6) (fun _ _ => id))
    have HT6 := hid ((HT4.out.trans (Tch.below (P := fun _ => False) hb5) (fun _ h => h.elim)).trans (Tch.below (P := fun _ => False) hb6) (fun _ h => h.elim))
    have HJ6 := hid (hJn.below hb6)
    have HP5 := hid hP5
    have HM1 := hid (Nat.le_trans HT4.out.size hm1)
    clear hne hb5 hJn hP5 hm1 hm2 hh hs5 hs5' hs6 hcs hsr hrl hb6 hx6 HO d0 d1 HS4 HBX4 HALL4
    go_upto_region 10 with fail
    rw [← hW6]
    obtain ⟨p0, p1, p2, p3⟩ : W6.cell? ⟨w5.heap.size, 0, none⟩ = some (.int .u64 q.gen) ∧ W6.cell? ⟨w5.heap.size, 1, none⟩ = some (.slice As (laidLen dl) cs) ∧ W6.cell? ⟨w5.heap.size, 2, none⟩ = some (.slice Ar q.rs.length cr) ∧ W6.cell? ⟨w5.heap.size, 3, none⟩ = some (.int .i64 (T : Int)) := by
      have hx6 : W6.heap[w5.heap.size]? = some (.cells #[.int .u64 q.gen, .slice As (laidLen dl) cs, .slice Ar q.rs.length cr, .int .i64 (T : Int)] 30 (0, 0)) := by rw [hW6]; exact heap_alloc_new w5 _
      refine ⟨?_, ?_, ?_, ?_⟩ <;> simp [World.cell?, hx6]
    clear hW6
    go_wp2_with fail
    refine HWH.out.mono ?_
    rintro e w7 ⟨Ag, ng, cg, rfl, hng, hgl, hb7⟩
    rw [HKL.out] at hng
    subst hng
    rw [HK7.out] at hgl
    have hbx7 := box_below HBX6.out hb7
    have hall7 := HALL6.out.keep (Tch.below (P := fun _ => False) hb7) (fun _ _ => id)
    have hs7 := box_below HS6.out hb7
    have hard := hall7.rd (fun l hl x hx => (HGD.out l hl).2.2 x hx)
    have HBEG := hid (beginning_any w7 Ag ng cg _ Aa ls.length ca ls hgl hard rfl (by omega))
    have z1 : w7.cell? ⟨R, 1, none⟩ = some (.slice Aa ls.length ca) := by simp [World.cell?, hbx7]
    have HBX7 := hid hbx7
    have HALL7 := hid hall7
    have HS7 := hid hs7
    have HT7 := hid (HT6.out.trans (Tch.below (P := fun _ => False) hb7) (fun _ h => h.elim))
    have HJ7 := hid (HJ6.out.below hb7)
    clear p0 p1 p2 p3 hgl hb7 hbx7 hall7 hs7 hard HWH HBX6 HALL6 HS6 HT6 HJ6
    go_wp2_with fail
    refine HBEG.out.mono ?_
    rintro e w8 ⟨rfl, hD8⟩
    have hb8 := hD8.below w7.heap.size
    have hbx8 : w8.heap[R]? = some (.cells #[V, .slice Aa ls.length ca, .int .i64 safe] 64 (0, 0)) := box_below HBX7.out hb8
    have hs8 := box_below HS7.out hb8
    have y5 : w8.cell? ⟨w1.heap.size, 5, none⟩ = some (.int .i64 (un : Nat)) := by simp [World.cell?, hs8]
    obtain ⟨y0, y1, y2, f0, f1, f2⟩ : w8.cell? ⟨R, 0, none⟩ = some V ∧ w8.cell? ⟨R, 1, none⟩ = some (.slice Aa ls.length ca) ∧ w8.cell? ⟨R, 2, none⟩ = some (.int .i64 safe) ∧ w8.frozen? ⟨R, 0, none⟩ = false ∧ w8.frozen? ⟨R, 1, none⟩ = false ∧ w8.frozen? ⟨R, 2, none⟩ = false := by
      refine ⟨?_, ?_, ?_, ?_, ?_, ?_⟩ <;> simp [World.cell?, World.frozen?, hbx8]
    have HBX8 := hid hbx8
    have HALL8 := hid (HALL7.out.keep (Tch.below (P := fun _ => False) hb8) (fun _ _ => id))
    have HT8 := hid (HT7.out.trans (Tch.below (P := fun _ => False) hb8) (fun _ h => h.elim))
    have HJ8 := hid (HJ7.out.below hb8)
    have hhd := headL_run Aa ls.length ca ng (ng : Int) rfl k1 hca HSL.out
    have ds : decide (ng < safe) = false := by simp; omega
    have ds2 : decide ((ng : Int) < (safe : Int)) = false := by simp; omega
    clear hb8 hbx8 hs8 hD8 z1 HBEG HBX7 HALL7 HS7 HT7 HJ7
    by_cases hu : (un : Int) ≤ 0
    · have du : decide ((un : Int) ≤ 0) = true := by simpa using hu
      have du2 : decide ((un : Int) ≤ 0) = true := by simpa using hu
      have e1 : ng = ls.length := HK4.out (by omega)
      have m1' : ((ng : Int) != (ls.length : Int)) = false := by simp [e1]
      have HE1 := hid e1
      clear e1
      have e2 : ng = safe := HK3.out (by omega)
      have m2' : ((ng : Int) != (safe : Int)) = false := by simp [e2]
      have HE2 := hid e2
      clear e2
      go_wp2_with fail
      refine bodyPost_ret (results_tmp rfl _ _ _) rfl ?_
      exact ⟨rfl, crash_fin HH.out HT8.out HBX8.out HALL8.out HJ8.out HP5.out HM1.out k1 HK5.out HQG.out HKN.out rfl⟩
    · have du : decide ((un : Int) ≤ 0) = false := by simpa using hu
      have du2 : decide ((un : Int) ≤ 0) = false := by simpa using hu
      have e2 : ng = safe := HK3.out (by omega)
      have m2' : ((ng : Int) != (safe : Int)) = false := by simp [e2]
      have HE2 := hid e2
      clear e2
      go_wp2_with fail
      refine bodyPost_ret (results_tmp rfl _ _ _) rfl ?_
      exact ⟨rfl, crash_fin HH.out HT8.out HBX8.out HALL8.out HJ8.out HP5.out HM1.out k1 HK5.out HQG.out HKN.out rfl⟩
  · have hK1 : K = n := by rw [hK, if_neg hneg]
    subst hK1
    have dn : decide (K < 0) = false := by simpa using hneg
    clear hK
    go_enter Tryd.func45, Tryd.ntmps45
    go_wp2_with fail
    refine HST.out.mono ?_
    rintro e w1 ⟨rfl, hb1⟩
    obtain ⟨W2, hW2⟩ : ∃ W, W = w1.alloc (.cells #[.int .u64 p.gen, .int .i64 (slotOf p.gen : Nat), .int .i64 p.rs.length, .int .i64 p.len, .int .i64 p.wa, .int .i64 (un : Nat)] 89) := ⟨_, rfl⟩
    have hb2 : Below w1.heap.size w1 W2 := by rw [hW2]; exact (Below.refl _ w1).alloc (Nat.le_refl _) _
    have hs2 : W2.heap[w1.heap.size]? = some (.cells #[.int .u64 p.gen, .int .i64 (slotOf p.gen : Nat), .int .i64 p.rs.length, .int .i64 p.len, .int .i64 p.wa, .int .i64 (un : Nat)] 89 (0, 0)) := by rw [hW2]; exact heap_alloc_new w1 _
    have hb12 : Below w.heap.size w W2 := hb1.trans (hb2.mono hb1.size)
    have hr2 := HH.out.below hb12
    have hPs : ¬ P w1.heap.size := fun e => by
      have h1 := HH.out.jn.lt _ e
      have h2 := hb1.size
      omega
    have HC := hid (jn_crash hr2.jn (K) (by omega))
    have x0' := hr2.cells.1
    have HS2 := hid hs2
    have HPS := hid hPs
    have HR2 := hid hr2
    have HB12 := hid hb12
    clear hb1 hb2 hs2 hr2 hb12 hPs HST x0
    go_upto_region 4 with fail
    rw [← hW2]
    clear hW2
    go_wp2_with fail
    refine HC.out.mono ?_
    rintro e w3 ⟨A0, n0, c0, A1, n1, c1, rfl, hD, hG, ht⟩
    have hrd := DskRd.of hD HDB.out.1 HDB.out.2
    have hs3 := ht.box HS2.out HPS.out
    have hbx3 := ht.box HR2.out.box HH.out.pr
    have hall3 := HR2.out.all.keep ht (fun k hk hp => HH.out.pq k hp hk)
    have htw3 : Tch P w w3 := (Tch.below (P := P) HB12.out).trans ht (fun k hk => .inl hk)
    obtain ⟨W4, hW4⟩ : ∃ W, W = w3.alloc (.cells #[.slice A0 n0 c0, .slice A1 n1 c1] 25) := ⟨_, rfl⟩
    have hb4 : Below w3.heap.size w3 W4 := by rw [hW4]; exact (Below.refl _ w3).alloc (Nat.le_refl _) _
    have hrd4 := hrd.below hb4
    have HO := hid (jn_open W4 A0 n0 c0 A1 n1 c1 _ _ room q T hrd4.len0 hrd4.cap0 hrd4.len1 hrd4.cap1 hrd4.byte0 hrd4.byte1 hrd4.rd0 hrd4.rd1 HOL.out HCW.out)
    have HS4 := hid (box_below hs3 hb4)
    have HBX4 := hid (box_below hbx3 hb4)
    have HALL4 := hid (hall3.keep (Tch.below (P := fun _ => False) hb4) (fun _ _ => id))
    have HT4 := hid (htw3.trans (Tch.below (P := fun _ => False) hb4) (fun _ h => h.elim))
    have hd4 : W4.heap[w3.heap.size]? = some (.cells #[.slice A0 n0 c0, .slice A1 n1 c1] 25 (0, 0)) := by rw [hW4]; exact heap_alloc_new w3 _
    obtain ⟨d0, d1, _, _⟩ := disk_box hd4
    clear hD hG ht hrd hs3 hbx3 hall3 htw3 hb4 hrd4 HC hd4 x0'
    go_upto_region 5 with fail
    rw [← hW4]
    clear hW4
    go_wp2_with fail
    refine (HNUM.out _).mono ?_
    rintro e wx ⟨rfl, hwx⟩
    obtain rfl : W4 = wx := hwx.symm
    go_wp2_with fail
    refine HO.out.mono ?_
    rintro e w5 ⟨V5, sv, rv, P5, m1, m2, rfl, hne, hb5, hJn, hP5, hm1, hm2, hh, hs5⟩
    obtain ⟨j5, s0, s1, rfl, _, _⟩ := hJn.at'
    obtain ⟨Ar, cr, rfl, _, _⟩ := hh.holds.slice
    have hs5' : OwnB w5 m2 sv (laidL dl) := by rw [← HK6.out]; exact hs5
    have hs6 : w5.ownsRow m2 5 1 sv (laidLen dl) ((laidL dl).flatMap u8s) := by rw [← laidL_len]; exact hs5'
    obtain ⟨_, As, cs, rfl, hcs, _, hsr⟩ := owns_reads u8s_len hs6 (by decide)
    have hrl : LsRd w5 Ar q.rs.length cr q.rs := hh.rd (fun l hl x hx => (HGR.out l hl).2.2 x hx)
    obtain ⟨W6, hW6⟩ : ∃ W, W = w5.alloc (.cells #[.int .u64 q.gen, .slice As (laidLen dl) cs, .slice Ar q.rs.length cr, .int .i64 (T : Int)] 30) := ⟨_, rfl⟩
    have hb6 : Below w5.heap.size w5 W6 := by rw [hW6]; exact (Below.refl _ w5).alloc (Nat.le_refl _) _
    have hx6 : W6.heap[w5.heap.size]? = some (.cells #[.int .u64 q.gen, .slice As (laidLen dl) cs, .slice Ar q.rs.length cr, .int .i64 (T : Int)] 30 (0, 0)) := by rw [hW6]; exact heap_alloc_new w5 _
    have HWH := hid (whole_any W6 q.gen (T : Int) As (laidLen dl) cs dl Ar q.rs.length cr q.rs rfl hcs ((hsr.below hb6).mono hb6.size) HK8.out (hrl.below hb6) (by omega) (by omega))
    have HS6 := hid (box_below (box_below HS4.out hb5) hb6)
    have HBX6 := hid (box_below (box_below HBX4.out hb5) hb6)
    have HALL6 := hid ((HALL4.out.keep (Tch.below (P := fun _ => False) hb5) (fun _ _ => id)).keep (Tch.below (P := fun _ => False) hb6) (fun _ _ => id))
    have HT6 := hid ((HT4.out.trans (Tch.below (P := fun _ => False) hb5) (fun _ h => h.elim)).trans (Tch.below (P := fun _ => False) hb6) (fun _ h => h.elim))
    have HJ6 := hid (hJn.below hb6)
    have HP5 := hid hP5
    have HM1 := hid (Nat.le_trans HT4.out.size hm1)
    clear hne hb5 hJn hP5 hm1 hm2 hh hs5 hs5' hs6 hcs hsr hrl hb6 hx6 HO d0 d1 HS4 HBX4 HALL4
    go_upto_region 10 with fail
    rw [← hW6]
    obtain ⟨p0, p1, p2, p3⟩ : W6.cell? ⟨w5.heap.size, 0, none⟩ = some (.int .u64 q.gen) ∧ W6.cell? ⟨w5.heap.size, 1, none⟩ = some (.slice As (laidLen dl) cs) ∧ W6.cell? ⟨w5.heap.size, 2, none⟩ = some (.slice Ar q.rs.length cr) ∧ W6.cell? ⟨w5.heap.size, 3, none⟩ = some (.int .i64 (T : Int)) := by
      have hx6 : W6.heap[w5.heap.size]? = some (.cells #[.int .u64 q.gen, .slice As (laidLen dl) cs, .slice Ar q.rs.length cr, .int .i64 (T : Int)] 30 (0, 0)) := by rw [hW6]; exact heap_alloc_new w5 _
      refine ⟨?_, ?_, ?_, ?_⟩ <;> simp [World.cell?, hx6]
    clear hW6
    go_wp2_with fail
    refine HWH.out.mono ?_
    rintro e w7 ⟨Ag, ng, cg, rfl, hng, hgl, hb7⟩
    rw [HKL.out] at hng
    subst hng
    rw [HK7.out] at hgl
    have hbx7 := box_below HBX6.out hb7
    have hall7 := HALL6.out.keep (Tch.below (P := fun _ => False) hb7) (fun _ _ => id)
    have hs7 := box_below HS6.out hb7
    have hard := hall7.rd (fun l hl x hx => (HGD.out l hl).2.2 x hx)
    have HBEG := hid (beginning_any w7 Ag ng cg _ Aa ls.length ca ls hgl hard rfl (by omega))
    have z1 : w7.cell? ⟨R, 1, none⟩ = some (.slice Aa ls.length ca) := by simp [World.cell?, hbx7]
    have HBX7 := hid hbx7
    have HALL7 := hid hall7
    have HS7 := hid hs7
    have HT7 := hid (HT6.out.trans (Tch.below (P := fun _ => False) hb7) (fun _ h => h.elim))
    have HJ7 := hid (HJ6.out.below hb7)
    clear p0 p1 p2 p3 hgl hb7 hbx7 hall7 hs7 hard HWH HBX6 HALL6 HS6 HT6 HJ6
    go_wp2_with fail
    refine HBEG.out.mono ?_
    rintro e w8 ⟨rfl, hD8⟩
    have hb8 := hD8.below w7.heap.size
    have hbx8 : w8.heap[R]? = some (.cells #[V, .slice Aa ls.length ca, .int .i64 safe] 64 (0, 0)) := box_below HBX7.out hb8
    have hs8 := box_below HS7.out hb8
    have y5 : w8.cell? ⟨w1.heap.size, 5, none⟩ = some (.int .i64 (un : Nat)) := by simp [World.cell?, hs8]
    obtain ⟨y0, y1, y2, f0, f1, f2⟩ : w8.cell? ⟨R, 0, none⟩ = some V ∧ w8.cell? ⟨R, 1, none⟩ = some (.slice Aa ls.length ca) ∧ w8.cell? ⟨R, 2, none⟩ = some (.int .i64 safe) ∧ w8.frozen? ⟨R, 0, none⟩ = false ∧ w8.frozen? ⟨R, 1, none⟩ = false ∧ w8.frozen? ⟨R, 2, none⟩ = false := by
      refine ⟨?_, ?_, ?_, ?_, ?_, ?_⟩ <;> simp [World.cell?, World.frozen?, hbx8]
    have HBX8 := hid hbx8
    have HALL8 := hid (HALL7.out.keep (Tch.below (P := fun _ => False) hb8) (fun _ _ => id))
    have HT8 := hid (HT7.out.trans (Tch.below (P := fun _ => False) hb8) (fun _ h => h.elim))
    have HJ8 := hid (HJ7.out.below hb8)
    have hhd := headL_run Aa ls.length ca ng (ng : Int) rfl k1 hca HSL.out
    have ds : decide (ng < safe) = false := by simp; omega
    have ds2 : decide ((ng : Int) < (safe : Int)) = false := by simp; omega
    clear hb8 hbx8 hs8 hD8 z1 HBEG HBX7 HALL7 HS7 HT7 HJ7
    by_cases hu : (un : Int) ≤ K
    · have du : decide ((un : Int) ≤ K) = true := by simpa using hu
      have e1 : ng = ls.length := HK4.out (by omega)
      have m1' : ((ng : Int) != (ls.length : Int)) = false := by simp [e1]
      have HE1 := hid e1
      clear e1
      by_cases hz : K = 0
      · have dz : (K == 0) = true := by simpa using hz
        have e2 : ng = safe := HK3.out (by omega)
        have m2' : ((ng : Int) != (safe : Int)) = false := by simp [e2]
        have HE2 := hid e2
        have HZ := hid hz
        clear e2 hz
        go_wp2_with fail
        refine bodyPost_ret (results_tmp rfl _ _ _) rfl ?_
        exact ⟨rfl, crash_fin HH.out HT8.out HBX8.out HALL8.out HJ8.out HP5.out HM1.out k1 HK5.out HQG.out HKN.out rfl⟩
      · have dz : (K == 0) = false := by simpa using hz
        go_wp2_with fail
        refine bodyPost_ret (results_tmp rfl _ _ _) rfl ?_
        exact ⟨rfl, crash_fin HH.out HT8.out HBX8.out HALL8.out HJ8.out HP5.out HM1.out k1 HK5.out HQG.out HKN.out rfl⟩
    · have du : decide ((un : Int) ≤ K) = false := by simpa using hu
      by_cases hz : K = 0
      · have dz : (K == 0) = true := by simpa using hz
        have e2 : ng = safe := HK3.out (by omega)
        have m2' : ((ng : Int) != (safe : Int)) = false := by simp [e2]
        have HE2 := hid e2
        have HZ := hid hz
        clear e2 hz
        go_wp2_with fail
        refine bodyPost_ret (results_tmp rfl _ _ _) rfl ?_
        exact ⟨rfl, crash_fin HH.out HT8.out HBX8.out HALL8.out HJ8.out HP5.out HM1.out k1 HK5.out HQG.out HKN.out rfl⟩
      · have dz : (K == 0) = false := by simpa using hz
        go_wp2_with fail
        refine bodyPost_ret (results_tmp rfl _ _ _) rfl ?_
        exact ⟨rfl, crash_fin HH.out HT8.out HBX8.out HALL8.out HJ8.out HP5.out HM1.out k1 HK5.out HQG.out HKN.out rfl⟩
end Go.Proofs.YtfcgmlofiaehkaaDoor
