/- Layer 9's laws: act: a step of a script. -/
import Derived.Test.YtfcgmlofiaehkaaDoorLA
namespace Go.Proofs.YtfcgmlofiaehkaaDoor
open Go.RowKit

theorem RunStep.of_below {w W1 w' : World} {R : Nat} {p : PS} {ls : List (List Int)} {safe : Nat} {P Q : Nat → Prop} (hb : Below w.heap.size w W1) (h : RunStep W1 w' R p ls safe P Q) : RunStep w w' R p ls safe P Q := by
  obtain ⟨V, Va, P', Q', h1, h2, h3⟩ := h
  exact ⟨V, Va, P', Q', h1, (Tch.below (P := runT R P Q) hb).trans h2 (fun k hk => .inl hk), fun k hk => (h3 k hk).imp id (fun h => Nat.le_trans hb.size h)⟩
/-- the journal has gone on, and what is safe is told anew -/
theorem RunAt.after {w W w3 : World} {R : Nat} {V Va : Value} {p q : PS} {ls : List (List Int)} {safe s' : Nat} {P P' Q : Nat → Prop} (h : RunAt w R V Va p ls safe P Q) (hb : Below w.heap.size w W) (hJ : Jn w3 V q room P') (hs : JStep P P' W w3) :
    RunStep w (w3.setCell ⟨R, 2, none⟩ (.int .i64 s')) R q ls s' P Q := by
  have hW := h.below hb
  have hRlt := h.lt
  have htU : Tch (fun k => k = R) w3 (w3.setCell ⟨R, 2, none⟩ (.int .i64 s')) := (Tch.refl (fun k => k = R) w3).setCell ⟨R, 2, none⟩ _ (.inl rfl)
  have hn : ∀ k, P' k → P k ∨ w.heap.size ≤ k := fun k hk => (hs.new k hk).imp id (fun h => Nat.le_trans hb.size h)
  have hPR : ¬ P' R := fun e => by
    rcases hn R e with h1 | h1
    · exact h.pr h1
    · have := hRlt R (.inl rfl); omega
  refine ⟨V, Va, P', Q, ⟨set10 2 (hs.tch.box hW.box h.pr) rfl, hJ.keep htU (fun k hk e => hPR (e ▸ hk)), (hW.all.keep hs.tch (fun k hk hp => h.pq k hp hk)).keep htU (fun k hk e => h.qr (e ▸ hk)), hPR, h.qr, fun k hk hq => ?_⟩, ?_, fun k hk => ?_⟩
  · rcases hn k hk with h1 | h1
    · exact h.pq k h1 hq
    · have := hRlt k (.inr (.inr hq)); omega
  · exact ((Tch.below (P := runT R P Q) hb).trans (hs.tch.mono fun k hk => (.inr (.inl hk) : runT R P Q k)) (fun k hk => .inl hk)).trans htU (fun k hk => .inl (.inl hk))
  · rcases hk with hk | hk | hk
    · exact .inl (.inl hk)
    · exact (hn k hk).imp (fun h => .inr (.inl h)) id
    · exact .inl (.inr (.inr hk))
/-- what a run is behind a step -/
def Acted (w w' : World) (R : Nat) (p : PS) (ls : List (List Int)) (m : Nat) (P Q : Nat → Prop) : Prop :=
  ∃ q ls' safe', RunOk q ls' safe' ∧ sumF ls' ≤ sumF ls + m ∧ q.gen ≤ p.gen + 1 ∧ RunStep w w' R q ls' safe' P Q
theorem Acted.of_crash {w W1 w' : World} {R : Nat} {p : PS} {ls : List (List Int)} {safe m : Nat} {n : Int} {P Q : Nat → Prop} (hb : Below w.heap.size w W1) (h : Crashed W1 w' R p ls safe n P Q) : Acted w w' R p ls m P Q := by
  obtain ⟨q, k, _, h2, h3, _, h5⟩ := h
  exact ⟨q, ls.take k, k, h2, by have := sumF_take ls k; omega, by omega, RunStep.of_below hb h5⟩
theorem snap_zero {p : PS} {ls : List (List Int)} (hs : laidLen ls ≤ 4194304) (hg : p.gen < 18446744073709551615) : snapErr p room (laidL ls) = 0 := by
  unfold snapErr
  rw [laidL_len, if_neg (by omega), if_neg (by omega), if_neg (by show ¬ (16777216 : Int) < _; omega)]
set_option maxRecDepth 100000 in
set_option maxHeartbeats 8000000 in
theorem act_any (w : World) (R : Nat) (V Va : Value) (p : PS) (ls : List (List Int)) (safe : Nat) (P Q : Nat → Prop) (h : RunAt w R V Va p ls safe P Q) (hok : RunOk p ls safe) (kind nn : Int) (hn : okI64 nn) (sA : Option Addr) (bb : List Int) (sc : Nat) (hb : ∀ x ∈ bb, isB x) (hU : U8s w.heap.size w sA bb) (hA : bb ≠ [] → ∀ q, sA = some q → ¬ runT R P Q q.block)
    (hsz : sumF ls + (bb.length + 16) ≤ 4194304) (hg : p.gen < 18446744073709551615) : Calls Tryd.prog 44 #[.pointer (some ⟨R, 0, none⟩), .agg #[.int .i64 kind, .int .i64 nn, .slice sA bb.length sc]] w fun e w' => e = .returned (.bool true) ∧ Acted w w' R p ls (bb.length + 16) P Q := by
  obtain ⟨W1, hW1⟩ : ∃ W, W = w.alloc (.cells #[.int .i64 kind, .int .i64 nn, .slice sA bb.length sc] 69) := ⟨_, rfl⟩
  have hb1 : Below w.heap.size w W1 := by rw [hW1]; exact (Below.refl _ w).alloc (Nat.le_refl _) _
  have hx1 : W1.heap[w.heap.size]? = some (.cells #[.int .i64 kind, .int .i64 nn, .slice sA bb.length sc] 69 (0, 0)) := by rw [hW1]; exact heap_alloc_new w _
  obtain ⟨y0, y1, y2⟩ : W1.cell? ⟨w.heap.size, 0, none⟩ = some (.int .i64 kind) ∧ W1.cell? ⟨w.heap.size, 1, none⟩ = some (.int .i64 nn) ∧ W1.cell? ⟨w.heap.size, 2, none⟩ = some (.slice sA bb.length sc) := by
    refine ⟨?_, ?_, ?_⟩ <;> simp [World.cell?, hx1]
  have hr1 := h.below hb1
  obtain ⟨x0, x1, x2, f0, f1, f2⟩ := hr1.cells
  obtain ⟨Aa, ca, rfl, hca, hma, hna⟩ := h.all.slice
  have hll := sumF_len ls
  have hlsl : ls.length ≤ 1000000 := by omega
  have hpl := hok.len_le
  have HADD := hid (add_any W1 R V _ p ls safe P Q hr1 sA bb.length sc bb rfl (by omega) hb ((hU.below hb1).mono hb1.size) hA (fun _ => by show (p.len : Int) + 12 + (bb.length : Int) ≤ 16777216; omega) hlsl)
  have HCR := hid (crash_run W1 R V _ p ls safe P Q hr1 hok (by omega) nn hn)
  have HSY := hid (jn_sync hr1.jn)
  have HLD := hid (fun hA => laid_any W1 Aa ls.length ca ls hA hok.good (by have := laidLen_le ls; omega))
  have HRD := hid (hr1.all.rd (fun l hl x hx => (hok.good l hl).2.2 x hx))
  have HH := hid h
  have HR1 := hid hr1
  have HOK := hid hok
  have HB1 := hid hb1
  have HBB := hid hb
  have HNUM := hid (fun W => num_any W 0)
  have hld : laidLen ls ≤ 4194304 := by have := laidLen_le ls; omega
  have HSZ := hid (snap_zero (p := p) hld hg)
  have HSF := hid (sumF_addL ls bb)
  clear h hr1 hok hb hU hA hb1 hx1 hna hma hca hpl
  by_cases k1 : kind = 1
  · subst k1
    clear HCR HSY HLD
    go_enter Tryd.func44, Tryd.ntmps44
    go_upto_region 1 with fail
    rw [← hW1]
    clear hW1
    go_wp2_with fail
    refine HADD.out.mono ?_
    rintro e w2 ⟨rfl, hst⟩
    have HST := hid hst
    clear hst HADD
    go_wp2_with fail
    refine bodyPost_ret (results_tmp rfl _ _ _) rfl ?_
    exact ⟨rfl, _, _, _, HOK.out.add HBB.out, HSF.out, by unfold addP; split <;> first | (show p.gen ≤ p.gen + 1; omega) | omega, RunStep.of_below HB1.out HST.out⟩
  have d1 : (kind == 1) = false := by simpa using k1
  by_cases k2 : kind = 2
  · subst k2
    clear HCR HADD HLD k1
    go_enter Tryd.func44, Tryd.ntmps44
    go_upto_region 1 with fail
    rw [← hW1]
    clear hW1
    go_wp2_with fail
    refine HSY.out.mono ?_
    rintro e w2 ⟨rfl, P2, hJ2, hS2⟩
    have hbx2 := hS2.tch.box HR1.out.box HH.out.pr
    obtain ⟨z1, z2, g2⟩ : w2.cell? ⟨R, 1, none⟩ = some (.slice Aa ls.length ca) ∧ w2.cell? ⟨R, 2, none⟩ = some (.int .i64 safe) ∧ w2.frozen? ⟨R, 2, none⟩ = false := by
      refine ⟨?_, ?_, ?_⟩ <;> simp [World.cell?, World.frozen?, hbx2]
    have HJ2 := hid hJ2
    have HS2 := hid hS2
    clear hJ2 hS2 hbx2 HSY x0 x1 x2 f0 f1 f2
    go_wp2_with fail
    refine (HNUM.out _).mono ?_
    rintro e wx ⟨rfl, hwx⟩
    subst hwx
    go_wp2_with fail
    refine bodyPost_ret (results_tmp rfl _ _ _) rfl ?_
    exact ⟨rfl, _, _, _, HOK.out.sync, Nat.le_add_right _ _, by show p.gen ≤ p.gen + 1; omega, HH.out.after HB1.out HJ2.out HS2.out⟩
  have d2 : (kind == 2) = false := by simpa using k2
  by_cases k3 : kind = 3
  · subst k3
    clear HCR HADD HSY k1 k2
    go_enter Tryd.func44, Tryd.ntmps44
    go_upto_region 1 with fail
    rw [← hW1]
    clear hW1
    go_wp2_with fail
    refine (HLD.out HRD.out).mono ?_
    rintro e w2 ⟨A2, n2, c2, rfl, hn2, ho2, hb2⟩
    clear hn2
    have hr2 := HR1.out.below hb2
    obtain ⟨hl2, hc2, _, hrd2⟩ := OwnB.reads ho2
    have hblk := fun k hk => (ho2.lt k hk).1
    have hsn := jn_snap hr2.jn A2 n2 c2 (laidL ls) hl2 (laidL_byte HOK.out.good) hrd2 (fun hne q hq hp => by
      subst hq
      have h1 := hblk q.block rfl
      have h2 := HR1.out.jn.lt _ hp
      omega)
    rw [HSZ.out, if_pos rfl] at hsn
    have x0' := hr2.cells.1
    have HSN := hid hsn
    have HB2 := hid (HB1.out.trans (hb2.mono HB1.out.size))
    have HBX2 := hid hr2.box
    clear hr2 hl2 hc2 hrd2 hsn ho2 hb2 hblk HLD HRD x0 x1 x2 f0 f1 f2
    go_wp2_with fail
    refine HSN.out.mono ?_
    rintro e w3 ⟨rfl, P2, hJ2, hS2⟩
    have hbx2 := hS2.tch.box HBX2.out HH.out.pr
    obtain ⟨z1, z2, g2⟩ : w3.cell? ⟨R, 1, none⟩ = some (.slice Aa ls.length ca) ∧ w3.cell? ⟨R, 2, none⟩ = some (.int .i64 safe) ∧ w3.frozen? ⟨R, 2, none⟩ = false := by
      refine ⟨?_, ?_, ?_⟩ <;> simp [World.cell?, World.frozen?, hbx2]
    have HJ2 := hid hJ2
    have HS2 := hid hS2
    clear hJ2 hS2 hbx2 HSN x0'
    go_wp2_with fail
    refine (HNUM.out _).mono ?_
    rintro e wx ⟨rfl, hwx⟩
    subst hwx
    go_wp2_with fail
    refine bodyPost_ret (results_tmp rfl _ _ _) rfl ?_
    exact ⟨rfl, _, _, _, HOK.out.snap, Nat.le_add_right _ _, by show p.gen + 1 ≤ p.gen + 1; omega, HH.out.after HB2.out HJ2.out HS2.out⟩
  have d3 : (kind == 3) = false := by simpa using k3
  by_cases k6 : kind = 6
  · subst k6
    clear HLD HADD HSY k1 k2 k3
    go_enter Tryd.func44, Tryd.ntmps44
    go_upto_region 1 with fail
    rw [← hW1]
    clear hW1
    go_wp2_with fail
    refine HCR.out.mono ?_
    rintro e w2 ⟨rfl, hst⟩
    have HST := hid hst
    clear hst HCR
    go_wp2_with fail
    refine bodyPost_ret (results_tmp rfl _ _ _) rfl ?_
    exact ⟨rfl, Acted.of_crash HB1.out HST.out⟩
  have d6 : (kind == 6) = false := by simpa using k6
  clear HLD HADD HSY HCR k1 k2 k3 k6
  go_enter Tryd.func44, Tryd.ntmps44
  go_upto_region 1 with fail
  rw [← hW1]
  clear hW1
  go_wp2_with fail
  refine bodyPost_ret (results_tmp rfl _ _ _) rfl ?_
  exact ⟨rfl, p, ls, safe, HOK.out, Nat.le_add_right _ _, by omega, V, _, P, Q, HR1.out, Tch.below HB1.out, fun k hk => .inl hk⟩
end Go.Proofs.YtfcgmlofiaehkaaDoor
