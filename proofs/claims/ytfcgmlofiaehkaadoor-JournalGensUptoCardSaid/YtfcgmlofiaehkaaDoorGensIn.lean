/- Layer 9: JournalGens: its arguments. -/
import Derived.Test.YtfcgmlofiaehkaaDoorLD
import Derived.Test.YtfcgmlofiaehkaaDoorBulk
namespace Go.Proofs.YtfcgmlofiaehkaaDoor
open Go.RowKit

def okSmall (w : World) (s : SV) : Prop := ∃ bs : List Int, (bs.length = s.2.1 ∧ s.2.1 ≤ s.2.2 ∧ (s.1 = none → s.2.1 = 0 ∧ s.2.2 = 0) ∧ U8s w.heap.size w s.1 bs ∧ ∀ x ∈ bs, isB x) ∧ s.2.1 ≤ 1048576
theorem lists_of (w : World) (vs : List SV) (h : ∀ s ∈ vs, okSmall w s) : ∃ ls : List (List Int), ls.length = vs.length ∧ (∀ (i : Nat) (s : SV) (l : List Int), vs[i]? = some s → ls[i]? = some l → BRd w s l) ∧ sumL ls ≤ ls.length * 1048576 := by
  induction vs with
  | nil => exact ⟨[], rfl, by simp, Nat.le_refl _⟩
  | cons s vs ih =>
    obtain ⟨ls, h1, h2, h3⟩ := ih (fun x hx => h x (List.mem_cons_of_mem _ hx))
    obtain ⟨bs, hb, hl⟩ := h s (by simp)
    refine ⟨bs :: ls, by simp [h1], fun i t l ht hx => ?_, ?_⟩
    · cases i with
      | zero =>
        simp at ht hx
        subst ht; subst hx
        exact hb
      | succ i =>
        simp at ht hx
        exact h2 i t l ht hx
    · rw [sumL, List.length_cons, Nat.succ_mul]
      have := hb.1
      omega
theorem journalGens_row (w : World) (A : Option Addr) (n c : Nat) (vs : List SV) (B : Option Addr) (m d : Nat) (rec : List Int) (keep : Int) (hl : vs.length = n) (hnc : n ≤ c) (hok : ∀ s ∈ vs, okSmall w s) (hn : n ≤ 1048576) (hR : Reads w.heap.size w svE 1 A vs)
    (hm : rec.length = m) (hmb : m * 1 ≤ 140737488351232) (hr : ∀ x ∈ rec, (Lit.int .u8 x).wf = true) (hU : U8s w.heap.size w B rec) (hk : (Lit.int .i64 keep).wf = true) :
    Calls Tryd.prog 9 #[.slice A n c, .slice B m d, .int .i64 keep] w fun e w' => e = .returned (.bool true) ∧ Below w.heap.size w w' := by
  obtain ⟨ls, h1, h2, h3⟩ := lists_of w vs hok
  exact gens_walk w A n c ls B m d rec keep ⟨vs, hl, by rw [h1, hl], hnc, hR, h2⟩ hm (by omega) (by omega) (fun x hx => wf_u8' (hr x hx)) hU (wf_i64' hk) (by
    rw [h1, hl] at h3
    have : n * 1048576 ≤ 1048576 * 1048576 := Nat.mul_le_mul_right _ hn
    omega)
end Go.Proofs.YtfcgmlofiaehkaaDoor
