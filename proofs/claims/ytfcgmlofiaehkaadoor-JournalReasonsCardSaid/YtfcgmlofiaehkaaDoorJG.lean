/- Layer 9: Fresh, whole. -/
import Derived.Test.YtfcgmlofiaehkaaDoorJO
import Derived.Test.YtfcgmlofiaehkaaDoorJB
namespace Go.Proofs.YtfcgmlofiaehkaaDoor
open Go.RowKit

/-- Fresh: what it answers -/
def freshErr (n : Nat) (limit : Int) : Int := if goodLim limit = false then 96 else if 4194304 < n then 90 else if limit < 24 + (n : Int) then 91 else 0
/-- the bytes of a fresh disk's first slot -/
def freshB (limit : Int) (st : List Int) : List Int := if freshErr st.length limit = 0 then begunB 1 st else []
theorem disk_box {W : World} {g : Nat} {a b : Value} (h : W.heap[g]? = some (.cells #[a, b] 25 (0, 0))) : W.cell? ⟨g, 0, none⟩ = some a ∧ W.cell? ⟨g, 1, none⟩ = some b ∧ W.frozen? ⟨g, 0, none⟩ = false ∧ W.frozen? ⟨g, 1, none⟩ = false := by
  refine ⟨?_, ?_, ?_, ?_⟩ <;> simp [World.cell?, World.frozen?, h]
theorem disk_info : (Tryd.prog.info? 25).map (·.size) = some 2 := by kernel_rfl
theorem results_disk {fn : Func} {p q : Tmp} (h : fn.results = #[.cell p 25, .tmp q]) (tmps : Array Value) (w : World) (g : Nat) (cs : Array Value) (v : Value)
    (hp : tmps.getD p undef = .pointer (some ⟨g, 0, none⟩)) (hg : w.heap[g]? = some (.cells cs 25 (0, 0))) (hi : cs.size = 2) (he : tmps.getD q undef = v) : (results fn tmps).run Tryd.prog w = .ok (.tuple #[.agg cs, v]) w := by
  have hp' : tmps[p]?.getD undef = .pointer (some ⟨g, 0, none⟩) := by simpa using hp
  have he' : tmps[q]?.getD undef = v := by simpa using he
  have hr := run_loadVar_row w g 25 25 cs (0, 0) _ hg Tryd.underlying25 rfl (by rw [hi]; kernel_rfl)
  simp [results, h, hp', he', asAddr, hr, Result.andThen]
set_option maxRecDepth 100000 in
set_option maxHeartbeats 4000000 in
theorem fresh_any (w : World) (limit : Int) (A : Option Addr) (n c : Nat) (st : List Int) (hl : st.length = n) (hm : n ≤ 100000000 ∨ 4194304 < n) (hm2 : n ≤ 4611686018427387904) (hb : ∀ x ∈ st, isB x) (hR : U8s w.heap.size w A st) :
    Calls Tryd.prog 29 #[.slice A n c, .int .i64 limit] w fun e w' => ∃ A0 n0 c0, e = .returned (.tuple #[.agg #[.slice A0 n0 c0, .slice none 0 0], .int .i64 (freshErr n limit)]) ∧ w'.ownsRow w.heap.size 5 1 (.slice A0 n0 c0) n0 ((freshB limit st).flatMap u8s) ∧ Below w.heap.size w w' := by
  subst hl
  have HGL := hid (fun W => goodLimit_any W limit)
  cases hg : goodLim limit with
  | false =>
    have e0 : freshErr st.length limit = 96 := by unfold freshErr; rw [if_pos hg]
    have eB : freshB limit st = [] := by unfold freshB; rw [e0]; rfl
    rw [e0, eB]
    clear hR hb hm
    go_enter Tryd.func29, Tryd.ntmps29
    go_wp2_with fail
    refine (HGL.out _).mono ?_
    rintro e w1 ⟨rfl, hw1⟩
    subst hw1
    rw [hg]
    go_wp2_with fail
    refine bodyPost_ret (results_disk rfl _ _ _ _ _ rfl (heap_alloc_new w _) rfl rfl) rfl ?_
    exact ⟨none, 0, 0, rfl, World.ownsRow_nil _ _ _ _, (Below.refl _ w).alloc (Nat.le_refl _) _⟩
  | true =>
    go_enter Tryd.func29, Tryd.ntmps29
    go_wp2_with fail
    refine (HGL.out _).mono ?_
    rintro e w1 ⟨rfl, hw1⟩
    subst hw1
    rw [hg]
    go_wp2_with fail
    · rename_i h1
      have e0 : freshErr st.length limit = 90 := by unfold freshErr; rw [if_neg (by rw [hg]; decide), if_pos (by omega)]
      have eB : freshB limit st = [] := by unfold freshB; rw [e0]; rfl
      rw [e0, eB]
      refine bodyPost_ret (results_disk rfl _ _ _ _ _ rfl (heap_alloc_new w _) rfl rfl) rfl ?_
      exact ⟨none, 0, 0, rfl, World.ownsRow_nil _ _ _ _, (Below.refl _ w).alloc (Nat.le_refl _) _⟩
    · rename_i h1 h2
      have e0 : freshErr st.length limit = 91 := by unfold freshErr; rw [if_neg (by rw [hg]; decide), if_neg (by omega), if_pos (by omega)]
      have eB : freshB limit st = [] := by unfold freshB; rw [e0]; rfl
      rw [e0, eB]
      refine bodyPost_ret (results_disk rfl _ _ _ _ _ rfl (heap_alloc_new w _) rfl rfl) rfl ?_
      exact ⟨none, 0, 0, rfl, World.ownsRow_nil _ _ _ _, (Below.refl _ w).alloc (Nat.le_refl _) _⟩
    · rename_i h1 h2
      have e0 : freshErr st.length limit = 0 := by unfold freshErr; rw [if_neg (by rw [hg]; decide), if_neg (by omega), if_neg (by omega)]
      obtain ⟨W1, hW1⟩ : ∃ W, W = w.alloc (.cells #[.slice none 0 0, .slice none 0 0] 25) := ⟨_, rfl⟩
      have hsz : W1.heap.size = w.heap.size + 1 := by rw [hW1]; simp
      have hbw : Below w.heap.size w W1 := by rw [hW1]; exact (Below.refl _ w).alloc (Nat.le_refl _) _
      have hbx : W1.heap[w.heap.size]? = some (.cells #[.slice none 0 0, .slice none 0 0] 25 (0, 0)) := by rw [hW1]; exact heap_alloc_new w _
      rw [← hW1]
      refine (begun_any W1 1 A st.length c st (by omega) rfl (by omega) hb ((hR.below hbw).mono (by omega))).mono ?_
      rintro e w2 ⟨A', c', rfl, ho, hb2⟩
      have hbx2 := (hb2.block _ (by omega)).trans hbx
      obtain ⟨y0, y1, y2, y3⟩ := disk_box hbx2
      have HO := hid ho
      have HB2 := hid hb2
      have HBW := hid hbw
      have HSZ := hid hsz
      have HE0 := hid e0
      have HBX := hid hbx2
      clear ho hb2 hbw hsz e0 hbx hbx2 hR hb hm hW1
      go_wp2_with fail
      obtain ⟨U, hU⟩ : ∃ U, U = (w2.setCell ⟨w.heap.size, 0, none⟩ (.slice A' (24 + st.length) c')).setCell ⟨w.heap.size, 1, none⟩ (.slice none 0 0) := ⟨_, rfl⟩
      have hos : OneSet w.heap.size w2 U := by rw [hU]; exact ((OneSet.refl _ _).setCell 0 _).setCell 1 _
      have hbx3 : U.heap[w.heap.size]? = some (.cells #[.slice A' (24 + st.length) c', .slice none 0 0] 25 (0, 0)) := by
        rw [hU]
        exact heap_setCell_at _ (heap_setCell_at _ HBX.out)
      rw [← hU]
      refine bodyPost_ret (results_disk rfl _ _ _ _ _ rfl hbx3 rfl rfl) rfl ?_
      refine ⟨A', 24 + st.length, c', by rw [HE0.out]; rfl, ?_, ?_⟩
      · have eB : freshB limit st = begunB 1 st := by unfold freshB; rw [if_pos HE0.out]
        rw [eB]
        have h1 := HO.out
        rw [HSZ.out] at h1
        exact own_mono (ownB_keep row_u8 h1 (hos.rows HBX.out (by decide) (by decide))) (by omega)
      · exact (HBW.out.trans (HB2.out.mono (by rw [HSZ.out]; omega))).trans (hos.below (Nat.le_refl _))
end Go.Proofs.YtfcgmlofiaehkaaDoor
