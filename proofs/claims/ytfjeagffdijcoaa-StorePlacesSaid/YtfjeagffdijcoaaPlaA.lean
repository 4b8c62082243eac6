/- Layer 7: words: how they read, when two are the same; holds. -/
import Derived.Test.YtfjeagffdijcoaaPlaP
import Derived.Test.YtfjeagffdijcoaaTsF
import Derived.ChangeArms
import Derived.ProofKit
namespace Go.Proofs.Ytfjeagffdijcoaa
open Go.RowKit Go.ChangeShapes Go.WideShapes

def encS (s : ByteArray) : List Value := [.string s]
abbrev Strs (B : Nat) (w : World) (A : Option Addr) (l : List ByteArray) : Prop := Reads B w encS 1 A l

theorem Strs.at' {B : Nat} {w : World} {A : Option Addr} {l : List ByteArray} (h : Strs B w A l) (i : Nat) (hi : i < l.length) :
    ∃ b off x, Hid (l[i]? = some x) ∧ A = some ⟨b, off, none⟩ ∧ b < B ∧ w.cell? ⟨b, off + i, none⟩ = some (.string x) := by
  obtain ⟨b, off, x, hx, hA, hb, hc⟩ := h.at i hi
  exact ⟨b, off, x, hx, hA, hb, by simpa using hc 0 _ rfl⟩

theorem dec_str {H : Type} {encH : TypeId × Value → H} {P : Program} {w : World} {spare : Nat → Bool} {held : Bool} {e : TypeId} (he : P.underlying e = some .string) (fuel : Nat) (cs : List Value) (x : DataW H × List MemPlace)
    (h : DataW.trod encH P w 0 spare held fuel e cs = some x) (_ : cs.length = 1) : ∃ y : ByteArray, cs = encS y ∧ y.size ≤ maxLen := by
  obtain ⟨s, rfl, rfl, hs⟩ := DataW.trod_string he h
  exact ⟨s, rfl, hs⟩

theorem bytes_inj {a b : ByteArray} (h : a.toList = b.toList) : a = b := by
  rw [ByteArray.toList_eq, ByteArray.toList_eq] at h
  exact ByteArray.ext (Array.toList_inj.1 h)
theorem bytes_beq (a b : ByteArray) : (a.toList == b.toList) = decide (a = b) := by
  by_cases h : a = b
  · subst h; simp
  · have : ¬ a.toList = b.toList := fun e => h (bytes_inj e)
    simp [h, this]
theorem cmpS_tight : Tight TS.cmpS := fun a b e => by
  unfold TS.cmpS at e
  refine bytes_inj ?_
  rcases TS.list_tri a.toList b.toList with g | g | g
  · rw [if_pos g] at e; omega
  · exact g
  · rw [if_neg (fun h => List.lt_irrefl _ (List.lt_trans g h)), if_pos g] at e; omega
theorem cmpS_neg {a b : ByteArray} (h : TS.cmpS a b < 0) : a.toList < b.toList := by
  unfold TS.cmpS at h
  by_cases g : a.toList < b.toList
  · exact g
  · rw [if_neg g] at h
    split at h <;> omega

set_option maxHeartbeats 1000000 in
theorem holds_any (w : World) (A : Option Addr) (n c : Nat) (l : List ByteArray) (x : ByteArray) (hl : l.length = n) (hm : n ≤ 4611686018427387904) (hR : Strs w.heap.size w A l) :
    Calls Try.prog 53 #[.slice A n c, .string x] w fun e w' => ∃ b : Bool, e = .returned (.bool b) ∧ (b = true ↔ x ∈ l) ∧ w' = w := by
  subst hl
  have HR := hid hR
  clear hR
  go_enter Try.func53, Try.ntmps53
  go_wp2_with fail
  go_loopg [5] l.length (fun gx si wr => ∃ i : Nat, si = .int .i64 i ∧ i ≤ l.length ∧ l.length - i ≤ gx ∧ Hid (x ∉ l.take i) ∧ Hid (wr = w))
  case atStart => exact ⟨0, rfl, Nat.zero_le _, Nat.le_refl _, hid (by simp), hid rfl⟩
  case round =>
    obtain ⟨i, rfl, hi, hg, HN, HW⟩ := hrel
    obtain rfl : wr = w := HW.out
    by_cases hlt : i < l.length
    · have hii : (i : Int) < (l.length : Int) := by omega
      have hwi : IntKind.i64.wrap ((i : Int) + 1) = (i : Int) + 1 := wrap_small _ (by omega) (by omega)
      obtain ⟨b, off, y, hy, rfl, hb, hc⟩ := HR.out.at' i hlt
      by_cases hxy : y = x
      · subst hxy
        have hbq : (y.toList == y.toList) = true := by simp
        have HIN : Hid (y ∈ l) := List.mem_of_getElem? hy.out
        go_wp2_with fail
        refine bodyPost_ret (results_tmp rfl _ _ _) rfl ?_
        exact .inr ⟨rfl, HIN.out, rfl⟩
      · have hbq : (y.toList == x.toList) = false := by rw [bytes_beq]; simpa using hxy
        have HN2 : Hid (x ∉ l.take (i + 1)) := by
          show ¬ _
          rw [List.take_add_one, hy.out]
          simp only [Option.toList_some, List.mem_append, List.mem_singleton, not_or]
          exact ⟨HN.out, fun e => hxy e.symm⟩
        clear hxy
        go_wp2_with fail
        go_roundg (l.length - (i + 1))
        case measure => omega
        case rel => exact ⟨i + 1, by go_num, hlt, Nat.le_refl _, HN2, hid rfl⟩
    · have hii : ¬ (i : Int) < (l.length : Int) := by omega
      have HIN : Hid (x ∉ l) := by
        show ¬ _
        have := HN.out
        rw [List.take_of_length_le (by omega)] at this
        exact this
      go_wp2_with fail
      refine bodyPost_ret (results_tmp rfl _ _ _) rfl ?_
      exact .inl ⟨rfl, HIN.out, rfl⟩
end Go.Proofs.Ytfjeagffdijcoaa
