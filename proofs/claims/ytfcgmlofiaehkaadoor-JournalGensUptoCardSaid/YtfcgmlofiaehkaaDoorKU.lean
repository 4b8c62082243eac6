/- Layer 9's laws: lists of byte lists as a reader sees them; beginning. -/
import Derived.Test.YtfcgmlofiaehkaaDoorKT
namespace Go.Proofs.YtfcgmlofiaehkaaDoor
open Go.RowKit

/-- a byte list as a reader sees it -/
def BRd (w : World) (s : SV) (l : List Int) : Prop := l.length = s.2.1 ∧ s.2.1 ≤ s.2.2 ∧ NilOk s.1 s.2.1 s.2.2 ∧ U8s w.heap.size w s.1 l ∧ ∀ x ∈ l, isB x
theorem BRd.drawn {w W : World} {s : SV} {l : List Int} (h : BRd w s l) (hd : Drawn w W) : BRd W s l := ⟨h.1, h.2.1, h.2.2.1, by rw [hd.heap]; exact hd.reads h.2.2.2.1, h.2.2.2.2⟩
theorem BRd.below {w W : World} {s : SV} {l : List Int} (h : BRd w s l) (hd : Below w.heap.size w W) : BRd W s l := ⟨h.1, h.2.1, h.2.2.1, (h.2.2.2.1.below hd).mono hd.size, h.2.2.2.2⟩
/-- a list of byte lists as a reader sees it -/
structure LsRd (w : World) (A : Option Addr) (n c : Nat) (ls : List (List Int)) : Prop where
  at' : ∃ vs : List SV, vs.length = n ∧ ls.length = n ∧ n ≤ c ∧ Reads w.heap.size w svE 1 A vs ∧ ∀ (i : Nat) (s : SV) (l : List Int), vs[i]? = some s → ls[i]? = some l → BRd w s l
theorem LsRd.below {w W : World} {A : Option Addr} {n c : Nat} {ls : List (List Int)} (h : LsRd w A n c ls) (hb : Below w.heap.size w W) : LsRd W A n c ls := by
  obtain ⟨vs, h1, h2, h3, h4, h5⟩ := h.at'
  exact ⟨vs, h1, h2, h3, (h4.below hb).mono hb.size, fun i s l hs hl => (h5 i s l hs hl).below hb⟩
theorem LsRd.drawn {w W : World} {A : Option Addr} {n c : Nat} {ls : List (List Int)} (h : LsRd w A n c ls) (hd : Drawn w W) : LsRd W A n c ls := h.below (hd.below _)
theorem LsRd.len {w : World} {A : Option Addr} {n c : Nat} {ls : List (List Int)} (h : LsRd w A n c ls) : ls.length = n ∧ n ≤ c := by
  obtain ⟨vs, h1, h2, h3, _⟩ := h.at'
  exact ⟨h2, h3⟩
theorem LsRd.at {w : World} {A : Option Addr} {n c : Nat} {ls : List (List Int)} (h : LsRd w A n c ls) (i : Nat) (hi : i < n) : ∃ b off s l, A = some ⟨b, off, none⟩ ∧ b < w.heap.size ∧ w.cell? ⟨b, off + i, none⟩ = some (.slice s.1 s.2.1 s.2.2) ∧ ls[i]? = some l ∧ BRd w s l := by
  obtain ⟨vs, h1, h2, h3, h4, h5⟩ := h.at'
  obtain ⟨b, off, s, hs, rfl, hb, hc⟩ := h4.at i (by omega)
  have e := hc 0 _ rfl
  rw [Nat.mul_one, Nat.add_zero] at e
  exact ⟨b, off, s, ls[i], rfl, hb, e, List.getElem?_eq_getElem (by omega), h5 i s _ hs (List.getElem?_eq_getElem (by omega))⟩
theorem AllAt.rd {w : World} {A : Option Addr} {n c : Nat} {ls : List (List Int)} {Q : Nat → Prop} (h : AllAt w (.slice A n c) ls Q) (hb : ∀ l ∈ ls, ∀ x ∈ l, isB x) : LsRd w A n c ls := by
  obtain ⟨vs, h1, h2, h3, _⟩ := h.own
  obtain ⟨hn, A', c', e, h4, _, h6⟩ := owns_reads svE_len h2 (by decide)
  cases e
  refine ⟨vs, rfl, h1.symm, h4, h6, fun i s l hs hl => ?_⟩
  obtain ⟨r1, r2, r3, r4⟩ := OwnB.reads (h3 i s l hs hl)
  exact ⟨r1, r2, NilOk.of_own (h3 i s l hs hl), r4, hb l (List.mem_of_getElem? hl)⟩
theorem HoldsIn.rd {w : World} {lo hi : Nat} {A : Option Addr} {n c : Nat} {ls : List (List Int)} (h : HoldsIn w lo hi (.slice A n c) ls) (hb : ∀ l ∈ ls, ∀ x ∈ l, isB x) : LsRd w A n c ls := by
  obtain ⟨vs, h1, h2, h3, _⟩ := h
  obtain ⟨hn, A', c', e, h4, _, h6⟩ := owns_reads svE_len h2 (by decide)
  cases e
  refine ⟨vs, rfl, h1.symm, h4, h6, fun i s l hs hl => ?_⟩
  obtain ⟨r1, r2, r3, r4⟩ := OwnB.reads (h3 i s l hs hl)
  exact ⟨r1, r2, NilOk.of_own (h3 i s l hs hl), r4, hb l (List.mem_of_getElem? hl)⟩
set_option maxRecDepth 100000 in
set_option maxHeartbeats 4000000 in
/-- beginning, where the one is a beginning of the other -/
theorem beginning_any (w : World) (A : Option Addr) (n c : Nat) (ls : List (List Int)) (B : Option Addr) (m d : Nat) (ls2 : List (List Int)) (h : LsRd w A n c ls) (h2 : LsRd w B m d ls2) (hp : ls = ls2.take n) (hm : m ≤ 140737488351232) :
    Calls Tryd.prog 28 #[.slice A n c, .slice B m d] w fun e w' => e = .returned (.bool true) ∧ Drawn w w' := by
  have hn := h.len
  have hm2 := h2.len
  have hnm : n ≤ m := by
    have := congrArg List.length hp
    rw [List.length_take] at this
    omega
  have d0 : decide (m < n) = false := by simp; omega
  have d1 : decide ((m : Int) < (n : Int)) = false := by simp; omega
  have HP := hid hp
  have H1 := hid h
  have H2 := hid h2
  clear h h2 hp hn hm2
  go_enter Tryd.func28, Tryd.ntmps28
  go_wp2_with fail
  go_loopg [5] n (fun gx si wr => ∃ i : Nat, si = .int .i64 i ∧ i ≤ n ∧ n - i ≤ gx ∧ Drawn w wr)
  case atStart => exact ⟨0, rfl, Nat.zero_le _, Nat.le_refl _, Drawn.refl _⟩
  case round =>
    obtain ⟨i, rfl, hi, hgx, hD⟩ := hrel
    by_cases hlt : i < n
    · have hii : (i : Int) < (n : Int) := by omega
      have hwi : IntKind.i64.wrap ((i : Int) + 1) = (i : Int) + 1 := wrap_small _ (by omega) (by omega)
      obtain ⟨b, off, s, l, rfl, hb, hc, hl, hr⟩ := (H1.out.drawn hD).at i hlt
      obtain ⟨b2, off2, s2, l2, rfl, hb2, hc2, hl2, hr2⟩ := (H2.out.drawn hD).at i (by omega)
      have hll : l = l2 := by
        have h3 := HP.out
        rw [h3, List.getElem?_take, if_pos hlt, hl2] at hl
        injection hl with hl; exact hl.symm
      have HSB : Hid (∀ W, Drawn wr W → Calls Tryd.prog 34 #[.slice s.1 s.2.1 s.2.2, .slice s2.1 s2.2.1 s2.2.2] W fun e w' => e = .returned (.bool true) ∧ w' = W) := hid (fun W hW => by
        have g1 := hr.drawn hW
        have g2 := hr2.drawn hW
        have hh := sameBytes_any W s.1 s.2.1 s.2.2 l s2.1 s2.2.1 s2.2.2 l2 g1.1 g2.1 g1.2.2.1 g2.2.2.1 g1.2.2.2.2 g2.2.2.2.2 g1.2.2.2.1 g2.2.2.2.1
        have e : beqL l l2 = true := by unfold beqL; simpa using hll
        rw [e] at hh
        exact hh)
      obtain ⟨sA, sn, sc⟩ := s
      obtain ⟨tA, tn, tc⟩ := s2
      have HD := hid hD
      have him : i < m := by omega
      clear hr hr2 hl hl2 hll hD
      dsimp only at hc hc2 HSB
      have hDr := Drawn.refl wr
      go_wp2_with fail
      go_region_held3 (fun w' => w'.cell? ⟨b, off + i, none⟩ = some (.slice sA sn sc) ∧ w'.cell? ⟨b2, off2 + i, none⟩ = some (.slice tA tn tc) ∧ Drawn wr w') (first | (refine ⟨?_, ?_, ?_⟩ <;> first | assumption | exact Drawn.drew (by assumption)))
        (first
          | (go_at_call 34; with_reducible refine (HSB.out _ (by first | assumption | exact (Drawn.refl _).drew | exact Drawn.drew (by assumption))).mono ?_; rintro e w' ⟨rfl, rfl⟩))
      rename_i hcc
      obtain ⟨_, _, hD2⟩ := hcc
      have HD2 := hid (HD.out.trans hD2)
      clear hD2
      go_wp2_with fail
      go_roundg (n - (i + 1))
      case measure => omega
      case rel => exact ⟨i + 1, by go_num, hlt, Nat.le_refl _, HD2.out⟩
    · have hii : ¬ (i : Int) < (n : Int) := by omega
      go_wp2_with fail
      go_ret
      exact ⟨rfl, hD⟩
end Go.Proofs.YtfcgmlofiaehkaaDoor
