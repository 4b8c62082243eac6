/- Layer 15: layout. -/
import Derived.Test.YtpkcccphoolapaaList
import Derived.Test.YtpkcccphoolapaaLoad
import Derived.Test.YtpkcccphoolapaaKeys
namespace Go.Proofs.Ytpkcccphoolapaa
open Go.RowKit

theorem inc_of_step {l : List Int} (h : ∀ (i : Nat) (a b : Int), l[i]? = some a → l[i + 1]? = some b → a < b) : Inc l := by
  intro i j a b hij ha hb
  induction j generalizing b with
  | zero => omega
  | succ j ih =>
    have hj : j < l.length := by
      obtain ⟨h1, _⟩ := List.getElem?_eq_some_iff.1 hb
      omega
    have e := List.getElem?_eq_getElem hj
    have h2 := h j _ b e hb
    rcases Nat.lt_or_ge i j with h1 | h1
    · have := ih _ h1 e; omega
    · obtain rfl : i = j := by omega
      rw [ha] at e
      cases e
      exact h2

/-- a layout: a table without fault, of hosts below this number; keys that rise -/
def LayOk (hosts : Int) (l : List Seg) (ks : List Int) : Prop := (Rng.loadL l 8192).1 = 0 ∧ (∀ s ∈ (Rng.loadL l 8192).2, s.host < hosts) ∧ Inc ks

theorem mem_take_succ {α : Type} {l : List α} {k : Nat} {x : α} {p : α → Prop} (hx : l[k]? = some x) (h : ∀ y ∈ l.take k, p y) (hp : p x) : ∀ y ∈ l.take (k + 1), p y := by
  intro y hy
  rw [List.take_add_one, hx] at hy
  simp at hy
  rcases hy with hy | hy
  · exact h y hy
  · rw [hy]; exact hp

set_option maxHeartbeats 2000000 in
theorem layout_any (w : World) (hosts : Int) (A : Option Addr) (n c : Nat) (l : List Seg) (A' : Option Addr) (n' c' : Nat) (ks : List Int) (hl : l.length = n) (hbytes : n * 24 ≤ 140737488351232) (hok : ∀ s ∈ l, okSeg s) (hR : Segs w.heap.size w A l)
    (hl' : ks.length = n') (hbytes' : n' * 8 ≤ 140737488351232) (hR' : Keys w.heap.size w A' ks) :
    Calls Try.prog 40 #[.int .i64 hosts, .slice A n c, .slice A' n' c'] w fun e w' =>
      ∃ v b, e = .returned (.tuple #[v, .bool b]) ∧ (b = true ↔ LayOk hosts l ks) ∧ (b = true → OwnSegs w' w.heap.size v (Rng.loadL l 8192).2) ∧ (b = true → Rng.WF (Rng.loadL l 8192).2) ∧ Below w.heap.size w w' := by
  subst hl
  subst hl'
  have hld := load_any w A l.length c l 8192 rfl hbytes hok hR
  have HR' := hid hR'
  have hlen : ((Rng.loadL l 8192).2.length : Int) ≤ 8192 := by
    unfold Rng.loadL
    split
    · simp
    split
    · simp
    split
    · simp
    · simp only; omega
  have HL : Hid (∀ b : Bool, (b = true ↔ LayOk hosts l ks) ↔ (b = true ↔ ((Rng.loadL l 8192).1 = 0 ∧ (∀ s ∈ (Rng.loadL l 8192).2, s.host < hosts) ∧ Inc ks))) := fun b => Iff.rfl
  clear hok hR hR'
  generalize LayOk hosts l ks = LO at *
  generalize Rng.loadL l 8192 = ll at *
  obtain ⟨e0, l0⟩ := ll
  simp only at hld hlen
  go_enter Try.func40, Try.ntmps40
  go_wp2_with fail
  refine hld.mono ?_
  rintro e' w1 ⟨p, rfl, hb1, hp1, hp0⟩
  by_cases h0 : e0 = 0
  case neg =>
    have hb0 : (e0 != 0) = true := by simpa using h0
    have H0 := hid h0
    clear h0 hp0 hp1
    go_wp2
    go_ret2
    exact ⟨_, false, rfl, (HL.out false).2 ⟨fun h => (by cases h), fun h => absurd h.1 H0.out⟩, fun h => (by cases h), fun h => (by cases h), hb1⟩
  case pos =>
  subst h0
  obtain ⟨T, rfl, hTw, hT, hWF, _⟩ := hp0 rfl
  have hli := list_any w1 T 8192 l0 hT hWF (by omega)
  have HWF := hid hWF
  clear hp1 hp0 hT hWF hld
  go_wp2_with fail
  refine hli.mono ?_
  rintro e' w2 ⟨v, rfl, hown, hb2⟩
  obtain ⟨g, cap, rfl, hbg, hgl⟩ := hown.form HWF.out.pos
  have hcc : l0.length ≤ cap := by
    obtain ⟨_, _, _, e1, e2, _⟩ := owns_reads encSeg_len hown (by decide)
    cases e1; exact e2
  have hB2 := hb1.trans (hb2.mono hb1.size)
  have HO2 : Hid (OwnSegs w2 w.heap.size (.slice (some ⟨g, 0, none⟩) l0.length cap) l0) := ownsRow_mono hown hb1.size
  clear hown hb2 hli
  go_wp2
  go_loopw [25] (fun i wr => ∃ k : Nat, k ≤ l0.length ∧ i = .int .i64 k ∧ Hid (∀ s ∈ l0.take k, s.host < hosts) ∧ Hid (OwnSegs wr w.heap.size (.slice (some ⟨g, 0, none⟩) l0.length cap) l0) ∧ g < wr.heap.size ∧ Below w.heap.size w wr) (fun i _ => l0.length - (intOf i).toNat)
  case atStart => exact ⟨0, Nat.zero_le _, rfl, hid (by simp), HO2, hgl, hB2⟩
  case round =>
    obtain ⟨k, hk, rfl, HH, HO, hgr, hB⟩ := hrel
    by_cases hlt : k < l0.length
    · obtain ⟨s, hs⟩ : ∃ s, l0[k]? = some s := ⟨_, List.getElem?_eq_getElem hlt⟩
      obtain ⟨c0, c1, c2⟩ := OwnSegs.at3 HO.out k s hs
      have hm := List.mem_of_getElem? hs
      obtain ⟨v1, v2, v3, v4, v5⟩ := HWF.out.seg s hm
      have hkn : (k : Int) < l0.length := by omega
      have HS := hid hs
      have HM := hid hm
      have hw : IntKind.i64.wrap s.host = s.host := wrap_small _ (by omega) (by omega)
      clear hs hm
      by_cases hh : hosts ≤ s.host
      · go_wp2
        go_ret2
        exact ⟨_, false, rfl, (HL.out false).2 ⟨fun h => (by cases h), fun h => absurd (h.2.1 s HM.out) (by omega)⟩, fun h => (by cases h), fun h => (by cases h), hB.alloc hB.size _⟩
      · go_wp2
        go_roundw
        case rel => exact ⟨k + 1, by omega, by go_num, hid (mem_take_succ HS.out HH.out (by omega)), HO.out.alloc _, by simp; omega, hB.alloc hB.size _⟩
        case measure => simp [intOf]; omega
    · obtain rfl : k = l0.length := by omega
      have HHH : Hid (∀ s ∈ l0, s.host < hosts) := by have := HH.out; rw [List.take_length] at this; exact this
      go_wp2
      go_loopw [13] (fun i wr' => ∃ j : Nat, j ≤ ks.length ∧ i = .int .i64 ((j : Int) + 1) ∧ Hid (∀ (i : Nat) (a b : Int), i < j → ks[i]? = some a → ks[i + 1]? = some b → a < b) ∧ ∃ q, wr' = wr.drewN q) (fun i _ => ks.length + 1 - (intOf i).toNat)
      case atStart => exact ⟨0, Nat.zero_le _, rfl, hid (fun i a b h => absurd h (Nat.not_lt_zero _)), 0, rfl⟩
      case round =>
        obtain ⟨j, hj, rfl, HI, q, rfl⟩ := hrel
        by_cases hlt2 : j + 1 < ks.length
        · obtain ⟨b, off, x, hx, rfl, hb, d0⟩ := Keys.at1 HR'.out j (by omega)
          obtain ⟨b', off', y, hy, e, hb', d1⟩ := Keys.at1 HR'.out (j + 1) hlt2
          cases e
          replace d0 := Tfact hB (a := ⟨b, _, none⟩) hb d0
          replace d1 := Tfact hB (a := ⟨b, _, none⟩) hb d1
          have hj1 : (j : Int) + 1 < ks.length := by omega
          have hj2 : (j : Int) < ks.length := by omega
          have hj3 : (0 : Int) ≤ (j : Int) := by omega
          by_cases hxy : x < y
          · go_wp2
            go_quiet (fail)
            go_wp2
            go_roundw
            case rel => exact ⟨j + 1, by omega, by go_num, hid (fun i a b hi ha hb => by
              rcases Nat.lt_or_ge i j with h | h
              · exact HI.out i a b h ha hb
              · obtain rfl : i = j := by omega
                rw [hx.out] at ha; rw [hy.out] at hb; cases ha; cases hb; exact hxy), by first | exact ⟨_, rfl⟩ | exact ⟨_, World.drewN_drewN ..⟩⟩
            case measure => simp [intOf]; omega
          · go_wp2
            go_quiet (fail)
            go_wp2
            go_ret2
            exact ⟨_, false, rfl, (HL.out false).2 ⟨fun h => (by cases h), fun h => absurd (h.2.2 j (j + 1) x y (by omega) hx.out hy.out) (by omega)⟩, fun h => (by cases h), fun h => (by cases h), by first | exact below_drewN' hB _ | exact below_drewN' (below_drewN' hB _) _⟩
        · go_wp2
          go_ret2
          exact ⟨_, true, rfl, (HL.out true).2 ⟨fun _ => ⟨by first | rfl | trivial, HHH.out, inc_of_step (fun i a b ha hb => HI.out i a b (by
            obtain ⟨h1, _⟩ := List.getElem?_eq_some_iff.1 hb
            omega) ha hb)⟩, fun _ => rfl⟩, fun _ => HO.out, fun _ => HWF.out, below_drewN' hB _⟩
end Go.Proofs.Ytpkcccphoolapaa
