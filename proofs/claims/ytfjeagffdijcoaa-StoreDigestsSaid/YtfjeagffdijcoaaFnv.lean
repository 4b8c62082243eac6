/- Layer 7: the hash of a list of bytes, and going on with it. -/
import Derived.Test.YtfjeagffdijcoaaMem
import Derived.Test.YtfjeagffdijcoaaTrMem
import Derived.Test.YtfjeagffdijcoaaChecked
namespace Go.Proofs.Ytfjeagffdijcoaa
open Go.RowKit

def u8s (x : Int) : List Value := [.int .u8 x]
theorem u8s_len (x : Int) : (u8s x).length = 1 := rfl
theorem u8s_one (x : Int) : ∀ u ∈ u8s x, u.oneCell' = true := by intro u hu; simp [u8s] at hu; subst hu; rfl
abbrev U8s (B : Nat) (w : World) (A : Option Addr) (l : List Int) : Prop := Reads B w u8s 1 A l
theorem U8s.at' {B : Nat} {w : World} {A : Option Addr} {l : List Int} (h : U8s B w A l) (i : Nat) (hi : i < l.length) :
    ∃ b off x, Hid (l[i]? = some x) ∧ A = some ⟨b, off, none⟩ ∧ b < B ∧ w.cell? ⟨b, off + i, none⟩ = some (.int .u8 x) := by
  obtain ⟨b, off, x, hx, hA, hb, hc⟩ := h.at i hi
  exact ⟨b, off, x, hx, hA, hb, by simpa using hc 0 _ rfl⟩

/-- one byte more -/
def fnvStep (h b : Int) : Int := IntKind.u64.wrap (bits .xor .u64 h b * 1099511628211)
def fnvL (h : Int) (l : List Int) : Int := l.foldl fnvStep h
theorem fnvL_append (h : Int) (a b : List Int) : fnvL h (a ++ b) = fnvL (fnvL h a) b := List.foldl_append

set_option maxHeartbeats 1000000 in
theorem fnvMore_any (w : World) (h0 : Int) (A : Option Addr) (n c : Nat) (l : List Int) (hl : l.length = n) (hm : n ≤ 4611686018427387904) (hb : ∀ x ∈ l, 0 ≤ x ∧ x ≤ 255) (hR : U8s w.heap.size w A l) :
    Calls Try.prog 98 #[.int .u64 h0, .slice A n c] w fun e w' => e = .returned (.int .u64 (fnvL h0 l)) ∧ w' = w := by
  subst hl
  have HR := hid hR
  have HB := hid hb
  clear hR hb
  go_enter Try.func98, Try.ntmps98
  go_wp2_with fail
  go_loopg [0, 9] l.length (fun gx sh si wr => ∃ (i : Nat) (h : Int), sh = .int .u64 h ∧ si = .int .i64 i ∧ i ≤ l.length ∧ l.length - i ≤ gx ∧ Hid (h = fnvL h0 (l.take i)) ∧ wr = w)
  case atStart => exact ⟨0, h0, rfl, rfl, Nat.zero_le _, Nat.le_refl _, hid rfl, rfl⟩
  case round =>
    obtain ⟨i, h, rfl, rfl, hi, hg, HH, rfl⟩ := hrel
    by_cases hlt : i < l.length
    · have hii : (i : Int) < (l.length : Int) := by omega
      have hwi : IntKind.i64.wrap ((i : Int) + 1) = (i : Int) + 1 := wrap_small _ (by omega) (by omega)
      obtain ⟨b, off, x, hx, rfl, hb, hc⟩ := HR.out.at' i hlt
      have hx8 := HB.out x (List.mem_of_getElem? hx.out)
      have hcv : IntKind.u64.wrap x = x := wrap_u64_in hx8.1 (by omega)
      have HH2 : Hid (fnvStep h x = fnvL h0 (l.take (i + 1))) := by
        show _ = _
        rw [List.take_add_one, hx.out, fnvL_append, ← HH.out]
        rfl
      go_wp2_with fail
      go_roundg (l.length - (i + 1))
      case measure => omega
      case rel => exact ⟨i + 1, fnvStep h x, rfl, by go_num, hlt, Nat.le_refl _, HH2, rfl⟩
    · have hii : ¬ (i : Int) < (l.length : Int) := by omega
      have HE : Hid (h = fnvL h0 l) := by show _ = _; rw [HH.out, List.take_of_length_le (by omega)]
      go_wp2_with fail
      refine bodyPost_ret (results_tmp rfl _ _ _) rfl ?_
      exact ⟨by rw [← HE.out]; rfl, rfl⟩

theorem fnv_any (w : World) (A : Option Addr) (n c : Nat) (l : List Int) (hl : l.length = n) (hm : n ≤ 4611686018427387904) (hb : ∀ x ∈ l, 0 ≤ x ∧ x ≤ 255) (hR : U8s w.heap.size w A l) :
    Calls Try.prog 41 #[.slice A n c] w fun e w' => e = .returned (.int .u64 (fnvL 14695981039346656037 l)) ∧ w' = w := by
  have HF := hid (fnvMore_any w 14695981039346656037 A n c l hl hm hb hR)
  clear hR hb
  go_enter Try.func41, Try.ntmps41
  go_wp2_with fail
  refine HF.out.mono ?_
  rintro e w1 ⟨rfl, hw⟩
  go_wp2_with fail
  refine bodyPost_ret (results_tmp rfl _ _ _) rfl ?_
  exact ⟨rfl, by first | rfl | exact hw⟩
end Go.Proofs.Ytfjeagffdijcoaa
