/- Layer 9's laws: begin: a journal with nothing in it. -/
import Derived.Test.YtfcgmlofiaehkaaDoorKN
namespace Go.Proofs.YtfcgmlofiaehkaaDoor
open Go.RowKit

def room : Int := 16777216
theorem room_lim : goodLim room = true := by decide
set_option maxRecDepth 100000 in
set_option maxHeartbeats 4000000 in
theorem begin_any (w : World) : Calls Tryd.prog 25 #[] w fun e w' => ∃ j P, e = .returned (.tuple #[.agg #[.pointer (some ⟨j, 0, none⟩), .slice none 0 0, .int .i64 0], .bool true]) ∧ Jn w' (.pointer (some ⟨j, 0, none⟩)) (PS.fresh []) room P ∧ (∀ k, P k → w.heap.size ≤ k) ∧ Below w.heap.size w w' := by
  obtain ⟨W0, hW0⟩ : ∃ W, W = w.alloc (.cells #[.pointer none, .slice none 0 0, .int .i64 0] 64) := ⟨_, rfl⟩
  have hb0 : Below w.heap.size w W0 := by rw [hW0]; exact (Below.refl _ w).alloc (Nat.le_refl _) _
  have hr0 : W0.heap[w.heap.size]? = some (.cells #[.pointer none, .slice none 0 0, .int .i64 0] 64 (0, 0)) := by rw [hW0]; exact heap_alloc_new w _
  have hz0 : W0.heap.size = w.heap.size + 1 := by rw [hW0]; simp
  have HF := hid (jn_fresh W0 room none 0 0 [] rfl (by omega) room_lim (by decide) (by simp) (.inl rfl))
  have HB0 := hid hb0
  have HR0 := hid hr0
  have HZ0 := hid hz0
  have HN := hid (fun W => num_any W 0)
  clear hb0 hr0 hz0
  go_enter Tryd.func25, Tryd.ntmps25
  go_wp2_with fail
  rw [← hW0]
  clear hW0
  refine HF.out.mono ?_
  rintro e W1 ⟨A0, c0, rfl, ho, hb1⟩
  obtain ⟨W2, hW2⟩ : ∃ W, W = W1.alloc (.cells #[.slice A0 24 c0, .slice none 0 0] 25) := ⟨_, rfl⟩
  have hb2 : Below W1.heap.size W1 W2 := by rw [hW2]; exact (Below.refl _ W1).alloc (Nat.le_refl _) _
  have ho' : OwnB W1 W0.heap.size (.slice A0 24 c0) (begunB 1 []) := ho
  obtain ⟨hl, hcap, _, hrd⟩ := OwnB.reads ho'
  have HO := hid (jn_open W2 A0 24 c0 none 0 0 (begunB 1 []) [] room (PS.fresh []) 0 hl hcap rfl (Nat.le_refl _) (begunB_byte ⟨by omega, by omega⟩ (by simp) (by simp)) (by simp) ((hrd.below hb2).mono hb2.size) (.inl rfl) (open_fresh (by simp) (by simp) (by decide) room_lim) rfl)
  have HB2 := hid ((hb1.trans (hb2.mono hb1.size)))
  clear ho ho' hb1 hb2 hrd HF
  go_wp2_with fail
  rw [← hW2]
  clear hW2
  refine HO.out.mono ?_
  rintro e W3 ⟨V, sv, rv, P, m1, m2, rfl, hne, hb3, hJn, hP, hm1, hm2, hh, hs⟩
  obtain ⟨j, s0, s1, rfl, hJ, hPj⟩ := hJn.at'
  obtain ⟨Ar, cr, rfl, _, _⟩ := hh.holds.slice
  obtain ⟨_, As, cs, rfl, _, _, _⟩ := owns_reads u8s_len hs (by decide)
  have hl1 : (PS.fresh []).rs.length = 0 := rfl
  have hl2 : (PS.fresh []).st.length = 0 := rfl
  have hg1 : (PS.fresh []).gen = 1 := rfl
  rw [hl1, hl2, hg1]
  have hlt := hJn.lt
  have hJ3 : Jn W3 (.pointer (some ⟨j, 0, none⟩)) (PS.fresh []) room P := hJn
  have hr3 : W3.heap[w.heap.size]? = _ := box_below (box_below HR0.out HB2.out) hb3
  obtain ⟨r0, r1, r2, q0, q1, q2⟩ : W3.cell? ⟨w.heap.size, 0, none⟩ = some (.pointer none) ∧ W3.cell? ⟨w.heap.size, 1, none⟩ = some (.slice none 0 0) ∧ W3.cell? ⟨w.heap.size, 2, none⟩ = some (.int .i64 0) ∧ W3.frozen? ⟨w.heap.size, 0, none⟩ = false ∧ W3.frozen? ⟨w.heap.size, 1, none⟩ = false ∧ W3.frozen? ⟨w.heap.size, 2, none⟩ = false := ⟨by simp [World.cell?, hr3], by simp [World.cell?, hr3], by simp [World.cell?, hr3], by simp [World.frozen?, hr3], by simp [World.frozen?, hr3], by simp [World.frozen?, hr3]⟩
  have HJ := hid hJ3
  have HP := hid hP
  have HM := hid hm1
  have HB3 := hid hb3
  have HR3 := hid hr3
  have hrz : w.heap.size < W3.heap.size := (Array.getElem?_eq_some_iff.1 hr3).1
  clear hlt hJ3 hr3 hP hm1 hm2 hb3 hJn hh hs hJ hPj hne hl1 hl2 hg1 HO
  go_wp2_with fail
  refine (HN.out _).mono ?_
  rintro e W4 ⟨rfl, hw4⟩
  subst hw4
  go_wp2_with fail
  obtain ⟨V, hV⟩ : ∃ V, V = ((W3.setCell ⟨w.heap.size, 0, none⟩ (.pointer (some ⟨j, 0, none⟩))).setCell ⟨w.heap.size, 1, none⟩ (.slice none 0 0)).setCell ⟨w.heap.size, 2, none⟩ (.int .i64 0) := ⟨_, rfl⟩
  have hos : OneSet w.heap.size W3 V := by rw [hV]; exact (((OneSet.refl _ _).setCell 0 _).setCell 1 _).setCell 2 _
  have hrV : V.heap[w.heap.size]? = some (.cells #[.pointer (some ⟨j, 0, none⟩), .slice none 0 0, .int .i64 0] 64 (0, 0)) := by
    rw [hV]
    exact set10 2 (set10 1 (set10 0 HR3.out rfl) rfl) rfl
  rw [← hV]
  obtain ⟨U, hU⟩ : ∃ U, U = V.alloc (.cells #[.int .u64 1, .slice As 0 cs, .slice Ar 0 cr, .int .i64 0] 30) := ⟨_, rfl⟩
  have hb4 : Below V.heap.size V U := by rw [hU]; exact (Below.refl _ V).alloc (Nat.le_refl _) _
  have hrU := box_below hrV hb4
  have hsV := hos.size
  rw [← hU]
  refine bodyPost_ret (results_run rfl _ _ _ _ _ rfl hrU rfl rfl) rfl ?_
  have hz0 := HZ0.out
  have hb2 := HB2.out
  have hm := HM.out
  have hsz2 := hb2.size
  have hJU := (HJ.out.keep (oneTch hos) (fun k hk e => by have := (HP.out k hk).1; omega)).below hb4
  have hbU : Below w.heap.size w U := (((HB0.out.trans (hb2.mono (by omega))).trans (HB3.out.mono (by omega))).trans (hos.below (Nat.le_refl _))).trans (hb4.mono (by omega))
  exact ⟨j, P, rfl, hJU, fun k hk => by have := (HP.out k hk).1; omega, hbU⟩
end Go.Proofs.YtfcgmlofiaehkaaDoor
