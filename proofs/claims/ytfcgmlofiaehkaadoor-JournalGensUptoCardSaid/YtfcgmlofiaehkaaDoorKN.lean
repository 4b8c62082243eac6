/- Layer 9's laws: byte lists and disks compared; a journal is begun. -/
import Derived.Test.YtfcgmlofiaehkaaDoorKB
namespace Go.Proofs.YtfcgmlofiaehkaaDoor
open Go.RowKit

def beqL (a b : List Int) : Bool := decide (a = b)
theorem sameBytes_any (w : World) (A : Option Addr) (n c : Nat) (l : List Int) (B : Option Addr) (m d : Nat) (l2 : List Int) (hl : l.length = n) (hm : l2.length = m) (hA : A = none → n = 0 ∧ c = 0) (hB : B = none → m = 0 ∧ d = 0) (hb : ∀ x ∈ l, isB x) (hb2 : ∀ x ∈ l2, isB x) (hR : U8s w.heap.size w A l) (hR2 : U8s w.heap.size w B l2) :
    Calls Tryd.prog 34 #[.slice A n c, .slice B m d] w fun e w' => e = .returned (.bool (beqL l l2)) ∧ w' = w := by
  subst hl hm
  have c1 := conv_bytes w A c l hA hR hb
  have c2 := conv_bytes w B d l2 hB hR2 hb2
  have he : ((toStr l).toList == (toStr l2).toList) = beqL l l2 := by
    unfold beqL
    by_cases h : l = l2
    · rw [h]; simp
    · have : (toStr l).toList ≠ (toStr l2).toList := fun h2 => by
        rw [ByteArray.toList_eq, ByteArray.toList_eq] at h2
        exact h (toStr_inj hb hb2 (ByteArray.ext (Array.ext' h2)))
      simp [this, h]
  have HE := hid he
  clear hR hR2 hb hb2 he
  go_enter Tryd.func34, Tryd.ntmps34
  go_wp2_with fail
  refine bodyPost_ret (results_tmp rfl _ _ _) rfl ?_
  exact ⟨by rw [← HE.out]; rfl, rfl⟩
/-- the same, where no list is nil or its slice is empty -/
def NilOk (A : Option Addr) (n c : Nat) : Prop := A = none → n = 0 ∧ c = 0
theorem NilOk.of_own {w : World} {base : Nat} {A : Option Addr} {n c : Nat} {l : List Int} (h : OwnB w base (.slice A n c) l) : NilOk A n c := by
  rintro rfl
  rcases h.2 with ⟨h, _⟩ | ⟨g, cap, cur, h, _⟩
  · injection h with _ h1 h2; exact ⟨h1, h2⟩
  · cases h
/-- two disks, as a reader sees them -/
structure DskRd (w : World) (A0 : Option Addr) (n0 c0 : Nat) (A1 : Option Addr) (n1 c1 : Nat) (b0 b1 : List Int) : Prop where
  len0 : b0.length = n0
  len1 : b1.length = n1
  cap0 : n0 ≤ c0
  cap1 : n1 ≤ c1
  nil0 : NilOk A0 n0 c0
  nil1 : NilOk A1 n1 c1
  byte0 : ∀ x ∈ b0, isB x
  byte1 : ∀ x ∈ b1, isB x
  rd0 : U8s w.heap.size w A0 b0
  rd1 : U8s w.heap.size w A1 b1
theorem DskRd.below {w w' : World} {A0 : Option Addr} {n0 c0 : Nat} {A1 : Option Addr} {n1 c1 : Nat} {b0 b1 : List Int} (h : DskRd w A0 n0 c0 A1 n1 c1 b0 b1) (hb : Below w.heap.size w w') : DskRd w' A0 n0 c0 A1 n1 c1 b0 b1 :=
  ⟨h.len0, h.len1, h.cap0, h.cap1, h.nil0, h.nil1, h.byte0, h.byte1, (h.rd0.below hb).mono hb.size, (h.rd1.below hb).mono hb.size⟩
theorem DskRd.none (w : World) : DskRd w .none 0 0 .none 0 0 [] [] := ⟨rfl, rfl, Nat.le_refl _, Nat.le_refl _, fun _ => ⟨rfl, rfl⟩, fun _ => ⟨rfl, rfl⟩, by simp, by simp, .inl rfl, .inl rfl⟩
theorem DskRd.of {w : World} {base : Nat} {A0 : Option Addr} {n0 c0 : Nat} {A1 : Option Addr} {n1 c1 : Nat} {b0 b1 : List Int} (h : Dsk w base (.slice A0 n0 c0) (.slice A1 n1 c1) b0 b1) (hb0 : ∀ x ∈ b0, isB x) (hb1 : ∀ x ∈ b1, isB x) : DskRd w A0 n0 c0 A1 n1 c1 b0 b1 := by
  obtain ⟨h1, h2, _⟩ := h
  obtain ⟨l0, k0, _, r0⟩ := OwnB.reads h1
  obtain ⟨l1, k1, _, r1⟩ := OwnB.reads h2
  exact ⟨l0, l1, k0, k1, NilOk.of_own h1, NilOk.of_own h2, hb0, hb1, r0, r1⟩
set_option maxHeartbeats 1000000 in
theorem sameDisk_any (w : World) (A0 : Option Addr) (n0 c0 : Nat) (A1 : Option Addr) (n1 c1 : Nat) (b0 b1 : List Int) (B0 : Option Addr) (m0 d0 : Nat) (B1 : Option Addr) (m1 d1 : Nat) (e0 e1 : List Int) (h : DskRd w A0 n0 c0 A1 n1 c1 b0 b1) (h2 : DskRd w B0 m0 d0 B1 m1 d1 e0 e1) :
    Calls Tryd.prog 31 #[.agg #[.slice A0 n0 c0, .slice A1 n1 c1], .agg #[.slice B0 m0 d0, .slice B1 m1 d1]] w fun e w' => e = .returned (.bool (beqL b0 e0 && beqL b1 e1)) ∧ Below w.heap.size w w' := by
  obtain ⟨W, hW⟩ : ∃ W, W = (w.alloc (.cells #[.slice A0 n0 c0, .slice A1 n1 c1] 25)).alloc (.cells #[.slice B0 m0 d0, .slice B1 m1 d1] 25) := ⟨_, rfl⟩
  have hb : Below w.heap.size w W := by rw [hW]; exact ((Below.refl _ w).alloc (Nat.le_refl _) _).alloc (by simp) _
  have g := h.below hb
  have g2 := h2.below hb
  have HS0 := hid (sameBytes_any W A0 n0 c0 b0 B0 m0 d0 e0 g.len0 g2.len0 g.nil0 g2.nil0 g.byte0 g2.byte0 g.rd0 g2.rd0)
  have HS1 := hid (sameBytes_any W A1 n1 c1 b1 B1 m1 d1 e1 g.len1 g2.len1 g.nil1 g2.nil1 g.byte1 g2.byte1 g.rd1 g2.rd1)
  have HB := hid hb
  clear h h2 g g2 hb
  cases hx : beqL b0 e0 with
  | false =>
    rw [hx] at HS0
    go_enter Tryd.func31, Tryd.ntmps31
    go_wp2_with fail
    rw [← hW]
    refine HS0.out.mono ?_
    rintro e wq ⟨rfl, hwq⟩
    obtain rfl : W = wq := hwq.symm
    rw [hW]
    go_wp2_with fail
    rw [← hW]
    refine HS1.out.mono ?_
    rintro e wq ⟨rfl, hwq⟩
    obtain rfl : W = wq := hwq.symm
    go_wp2_with fail
    go_ret
    exact ⟨rfl, hW ▸ HB.out⟩
  | true =>
    rw [hx] at HS0
    go_enter Tryd.func31, Tryd.ntmps31
    go_wp2_with fail
    rw [← hW]
    refine HS0.out.mono ?_
    rintro e wq ⟨rfl, hwq⟩
    obtain rfl : W = wq := hwq.symm
    rw [hW]
    go_wp2_with fail
    rw [← hW]
    refine HS1.out.mono ?_
    rintro e wq ⟨rfl, hwq⟩
    obtain rfl : W = wq := hwq.symm
    go_wp2_with fail
    go_ret
    exact ⟨rfl, hW ▸ HB.out⟩
/-! ### begin -/
theorem results_run {fn : Func} {p q : Tmp} (h : fn.results = #[.cell p 64, .tmp q]) (tmps : Array Value) (w : World) (g : Nat) (cs : Array Value) (v : Value)
    (hp : tmps.getD p undef = .pointer (some ⟨g, 0, none⟩)) (hg : w.heap[g]? = some (.cells cs 64 (0, 0))) (hi : cs.size = 3) (he : tmps.getD q undef = v) : (results fn tmps).run Tryd.prog w = .ok (.tuple #[.agg cs, v]) w := by
  have hp' : tmps[p]?.getD undef = .pointer (some ⟨g, 0, none⟩) := by simpa using hp
  have he' : tmps[q]?.getD undef = v := by simpa using he
  have hr := run_loadVar_row w g 64 64 cs (0, 0) _ hg Tryd.underlying64 rfl (by rw [hi]; kernel_rfl)
  simp [results, h, hp', he', asAddr, hr, Result.andThen]
theorem fresh_ok {st : List Int} {limit : Int} (hn : st.length ≤ 4194304) (hlim : goodLim limit = true) (hf : 24 + (st.length : Int) ≤ limit) : freshErr st.length limit = 0 ∧ freshB limit st = begunB 1 st := by
  have e : freshErr st.length limit = 0 := by
    unfold freshErr
    rw [if_neg (by rw [hlim]; decide), if_neg (by omega), if_neg (by omega)]
  exact ⟨e, by unfold freshB; rw [if_pos e]⟩
/-- Fresh of a state that has room -/
theorem jn_fresh (w : World) (limit : Int) (A : Option Addr) (n c : Nat) (st : List Int) (hl : st.length = n) (hn : n ≤ 4194304) (hlim : goodLim limit = true) (hf : 24 + (n : Int) ≤ limit) (hb : ∀ x ∈ st, isB x) (hR : U8s w.heap.size w A st) :
    Calls Tryd.prog 29 #[.slice A n c, .int .i64 limit] w fun e w' => ∃ A0 c0, e = .returned (.tuple #[.agg #[.slice A0 (24 + n) c0, .slice none 0 0], .int .i64 0]) ∧ OwnB w' w.heap.size (.slice A0 (24 + n) c0) (begunB 1 st) ∧ Below w.heap.size w w' := by
  subst hl
  obtain ⟨e1, e2⟩ := fresh_ok hn hlim hf
  refine (fresh_any w limit A _ c st rfl (.inl (by omega)) (by omega) hb hR).mono ?_
  rintro e w' ⟨A0, n0, c0, rfl, ho, hbl⟩
  rw [e2] at ho
  have hn0 : n0 = 24 + st.length := by
    have := ho.1
    rw [flatMap_length u8s_len, begunB_len] at this
    omega
  subst hn0
  refine ⟨A0, c0, by rw [e1], ?_, hbl⟩
  show World.ownsRow _ _ _ 1 _ _ _
  rw [begunB_len]
  exact ho
end Go.Proofs.YtfcgmlofiaehkaaDoor
