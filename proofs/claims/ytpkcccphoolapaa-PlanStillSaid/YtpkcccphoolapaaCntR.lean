/- Layer 15: the reference's counted. -/
import Derived.Test.YtpkcccphoolapaaOwnR
namespace Go.Proofs.Ytpkcccphoolapaa
open Go.RowKit

/-- how often each number comes -/
def tally (H : Nat) (own : List Int) : List Int := (List.range H).map (fun (h : Nat) => ((own.countP (fun x => decide (x = (h : Int))) : Nat) : Int))

theorem tally_nil (H : Nat) : tally H [] = List.replicate H 0 := by
  unfold tally
  apply List.ext_getElem
  · simp
  · intro i h1 h2; simp

theorem tally_snoc (H : Nat) (own : List Int) (h : Nat) : (tally H own).set h (((own.countP (fun x => decide (x = (h : Int))) : Nat) : Int) + 1) = tally H (own ++ [(h : Int)]) := by
  unfold tally
  apply List.ext_getElem
  · simp
  · intro i h1 h2
    rw [List.getElem_set]
    by_cases hi : h = i
    · subst hi
      simp
    · rw [if_neg hi]
      have hne : ¬ ((h : Int) = (i : Int)) := by omega
      simp [hne]

theorem tally_counts (H : Nat) (l : List Seg) (ks : List Int) : tally H (ks.map (hostOf l)) = countsOf H l ks := by
  unfold tally countsOf
  apply List.map_congr_left
  intro x _
  rw [List.countP_map]
  rfl

set_option maxHeartbeats 2000000 in
theorem countedRef_any (w : World) (H : Nat) (A : Option Addr) (n c : Nat) (own : List Int) (hH : H ≤ 16) (hl : own.length = n) (hm : n ≤ 1000000000000000) (hR : Ints w.heap.size w A own) (hown : ∀ x ∈ own, 0 ≤ x ∧ x < H) :
    Calls Try.prog 44 #[.int .i64 (H : Int), .slice A n c] w fun e w' => ∃ v, e = .returned v ∧ OwnInts w' w.heap.size v H (tally H own) ∧ Below w.heap.size w w' := by
  subst hl
  have hmk := makeInts_run H (by omega)
  have HO0 := hid (makeInts_own w H (by omega) w.heap.size (Nat.le_refl _))
  have hB0 : Below w.heap.size w (w.alloc (.cells (madeCells #[.int .i64 0] H) 3)) := (Below.refl _ w).alloc (Nat.le_refl _) _
  have HR := hid hR
  have HOW := hid hown
  clear hR hown
  go_enter Try.func44, Try.ntmps44
  go_wp2
  clear hmk
  have hz0 := hid (tally_nil H)
  go_loopw [6] (fun i wr => ∃ k : Nat, k ≤ own.length ∧ i = .int .i64 k ∧ Hid (OwnInts wr w.heap.size (.slice (some ⟨w.heap.size, 0, none⟩) H H) H (tally H (own.take k))) ∧ w.heap.size < wr.heap.size ∧ Below w.heap.size w wr) (fun i _ => own.length - (intOf i).toNat)
  case atStart => exact ⟨0, Nat.zero_le _, rfl, hid (by rw [List.take_zero, hz0.out]; exact HO0.out), by simp, hB0⟩
  case round =>
    obtain ⟨k, hk, rfl, HO, hsz, hB⟩ := hrel
    by_cases hlt : k < own.length
    · obtain ⟨b, off, x, hx, rfl, hb, c0⟩ := Ints.at' HR.out k hlt
      have hbr : b < wr.heap.size := Nat.lt_of_lt_of_le hb hB.size
      replace c0 := Tfact hB (a := ⟨b, _, none⟩) hb c0
      have hkn : (k : Int) < own.length := by omega
      obtain ⟨x0, x1⟩ := HOW.out x (List.mem_of_getElem? hx.out)
      obtain ⟨h, rfl⟩ : ∃ h : Nat, x = (h : Int) := ⟨x.toNat, by omega⟩
      have hhH : h < H := by omega
      have hp0 : (tally H (own.take k))[h]? = some (((own.take k).countP (fun x => decide (x = (h : Int))) : Nat) : Int) := by simp [tally, hhH]
      have d0 := OwnInts.at1 HO.out h _ hp0
      have f0 : wr.frozen? ⟨w.heap.size, h, none⟩ = false := HO.out.frozenAt h
      have hcl : (own.take k).countP (fun x => decide (x = (h : Int))) ≤ own.length := Nat.le_trans List.countP_le_length (by simp; omega)
      have hst := OwnInts.set HO.out h ((((own.take k).countP (fun x => decide (x = (h : Int))) : Nat) : Int) + 1)
      rw [tally_snoc, show own.take k ++ [(h : Int)] = own.take (k + 1) by rw [List.take_add_one, hx.out]; rfl] at hst
      have HST := hid hst
      clear hst hp0
      generalize (own.take k).countP (fun x => decide (x = (h : Int))) = p0 at *
      have hw : IntKind.i64.wrap ((p0 : Int) + 1) = (p0 : Int) + 1 := wrap_small _ (by omega) (by omega)
      have hh0 : (0 : Int) ≤ (h : Int) := by omega
      go_wp2
      go_roundw
      case rel => exact ⟨k + 1, by omega, by go_num, HST.out.1, by rw [size_setCell]; exact hsz, hB.setCell (p := ⟨w.heap.size, h, none⟩) (Nat.le_refl _) _⟩
      case measure => simp [intOf]; omega
    · obtain rfl : k = own.length := by omega
      go_wp2
      go_ret
      exact ⟨_, rfl, by have := HO.out; rw [List.take_length] at this; exact this, hB⟩
end Go.Proofs.Ytpkcccphoolapaa
