/- Layer 7: slices.Clone of bytes. -/
import Derived.Test.YtfjeagffdijcoaaFnv
import Derived.Lib.SliceRun
namespace Go.Proofs.Ytfjeagffdijcoaa
open Go.RowKit

theorem infoU8 : (Try.prog.info? 5).map (fun i => (i.zero, i.size, i.bytes)) = some (some (.int .u8 0), 1, 1) := by kernel_rfl

set_option maxRecDepth 100000 in
set_option maxHeartbeats 1000000 in
theorem clone_any (w : World) (A : Option Addr) (n c : Nat) (l : List Int) (hl : l.length = n) (hm : n ≤ 140737488355328) (hA : A = none → n = 0 ∧ c = 0) (hR : U8s w.heap.size w A l) :
    Calls Try.prog 94 #[.slice A n c] w fun e w' => ∃ v, e = .returned v ∧ w'.ownsRow w.heap.size 5 1 v l.length (l.flatMap u8s) ∧ Below w.heap.size w w' := by
  have HR := hid hR
  have hsn := fun w a n c n' c' => Go.Lib.run_eql_slice_nil (P := Try.prog) w 65 5 a n c n' c' Try.underlying65
  clear hR
  cases A with
  | none =>
    obtain ⟨rfl, rfl⟩ := hA rfl
    obtain rfl : l = [] := List.eq_nil_of_length_eq_zero hl
    go_enter Try.func94, Try.ntmps94
    go_wp2_with fail
    refine bodyPost_ret (results_tmp rfl _ _ _) rfl ?_
    exact ⟨_, rfl, World.ownsRow_nil _ _ _ _, Below.refl _ _⟩
  | some a =>
    have HO : Hid ((w.alloc (.cells #[] 5)).ownsRow w.heap.size 5 1 (.slice (some ⟨w.heap.size, 0, none⟩) 0 0) 0 []) := World.ownsRow_made w #[] 0 (Nat.le_refl _) (by simp [maxLen]) (by simp)
    have hb : Below w.heap.size w (w.alloc (.cells #[] 5)) := (Below.refl _ w).alloc (Nat.le_refl _) _
    have HB := hid hb
    have HR2 : Hid (U8s w.heap.size (w.alloc (.cells #[] 5)) (some a) l) := HR.out.below hb
    clear hb hA
    go_enter Try.func94, Try.ntmps94
    go_wp2_with (at_builtin; go_loud (refine wpList_append_reads (B := w.heap.size) _ w.heap.size rfl _ _ 65 5 _ 1 rfl Try.underlying65 infoU8 rfl (by decide) (.slice (some ⟨w.heap.size, 0, none⟩) 0 0) 0 [] rfl HO.out (some a) n c l rfl hl HR2.out u8s_len u8s_one (by simp only [maxLen]; omega) (by omega) (by simp) ?_); intro v1 w2 hown hg hat)
    have hB2 := HB.out.grown hg (by simp) (fun k hk => own_ge HO.out k hk)
    refine bodyPost_ret (results_tmp rfl _ _ _) rfl ?_
    exact ⟨v1, rfl, by subst hl; simpa using hown, hB2⟩
end Go.Proofs.Ytfjeagffdijcoaa
