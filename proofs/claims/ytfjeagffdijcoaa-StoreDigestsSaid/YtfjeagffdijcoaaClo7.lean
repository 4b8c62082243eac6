/- Layer 7: the statements' own clone of bytes. -/
import Derived.Test.YtfjeagffdijcoaaClo
namespace Go.Proofs.Ytfjeagffdijcoaa
open Go.RowKit

set_option maxHeartbeats 1000000 in
theorem clone7_any (w : World) (A : Option Addr) (n c : Nat) (bs : List Int) (hl : bs.length = n) (hm : n ≤ 140737488351232) (hR : U8s w.heap.size w A bs) :
    Calls Try.prog 39 #[.slice A n c] w fun e w' => ∃ vA vc, e = .returned (.slice vA bs.length vc) ∧ w'.ownsRow w.heap.size 5 1 (.slice vA bs.length vc) bs.length (bs.flatMap u8s) ∧ Below w.heap.size w w' := by
  subst hl
  have HR := hid hR
  clear hR
  go_enter Try.func39, Try.ntmps39
  go_wp2_with fail
  go_loopg [3, 4] bs.length (fun gx sl si wr => ∃ (i : Nat) (vA : Option Addr) (vc : Nat), si = .int .i64 i ∧ i ≤ bs.length ∧ bs.length - i ≤ gx ∧ sl = .slice vA i vc ∧ Hid (wr.ownsRow w.heap.size 5 1 (.slice vA i vc) i ((bs.take i).flatMap u8s)) ∧ Hid (Below w.heap.size w wr))
  case atStart => exact ⟨0, none, 0, rfl, Nat.zero_le _, Nat.le_refl _, rfl, hid (World.ownsRow_nil _ _ _ _), hid (Below.refl _ _)⟩
  case round =>
    obtain ⟨i, vA, vc, rfl, hi, hg, rfl, HO, HB⟩ := hrel
    by_cases hlt : i < bs.length
    · have hii : (i : Int) < (bs.length : Int) := by omega
      have hwi : IntKind.i64.wrap ((i : Int) + 1) = (i : Int) + 1 := wrap_small _ (by omega) (by omega)
      obtain ⟨b, off, x, hx, rfl, hb, hc0⟩ := HR.out.at' i hlt
      have hc := (HB.out.cell (p := ⟨b, off + i, none⟩) hb).trans hc0
      have hti : (bs.take i).length = i := by rw [List.length_take]; omega
      have ho : wr.ownsRow w.heap.size 5 1 (.slice vA i vc) (bs.take i).length ((bs.take i).flatMap u8s) := by rw [hti]; exact HO.out
      have hts : bs.take (i + 1) = bs.take i ++ [x] := by rw [List.take_add_one, hx.out]; rfl
      have htl : (bs.take (i + 1)).length = i + 1 := by rw [List.length_take]; omega
      have HTI := hid hti
      have HTS := hid (And.intro hts htl)
      have HO2 := hid ho
      clear hc0 hti hts htl ho
      go_wp2_with (at_builtin; refine wpList_append_one (enc := u8s) wr w.heap.size rfl _ _ 65 5 _ 1 rfl Try.underlying65 infoU8 rfl (by decide) u8s_len u8s_one (.slice vA i vc) (bs.take i) x _ rfl rfl _ rfl rfl HO2.out (by have := HTI.out; simp only [maxLen]; omega) (by have := HTI.out; omega) HB.out.size ?_; intro v1 w1 hown hgr hat; rw [← HTS.out.1, HTS.out.2] at hown; obtain ⟨_, vA', vc', rfl, _, _, _⟩ := owns_reads (l := bs.take (i + 1)) u8s_len hown (by decide); have HB1 := hid (HB.out.grown hgr HB.out.size (fun k hk => own_ge HO.out k hk)); have HO1 := hid hown; clear hown hgr hat)
      go_roundg (bs.length - (i + 1))
      case measure => omega
      case rel => exact ⟨i + 1, vA', vc', by go_num, hlt, Nat.le_refl _, rfl, HO1, HB1⟩
    · obtain rfl : bs.length = i := by omega
      have ho := HO.out
      rw [List.take_length] at ho
      have HO1 := hid ho
      have hii : ¬ (bs.length : Int) < (bs.length : Int) := by omega
      clear ho
      go_wp2_with fail
      refine bodyPost_ret (results_tmp rfl _ _ _) rfl ?_
      exact ⟨vA, vc, rfl, HO1.out, HB.out⟩
end Go.Proofs.Ytfjeagffdijcoaa
