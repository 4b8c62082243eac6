/- Rows of bytes, and the sum of bytes: eight, CrcMore, Crc. -/
import Derived.Test.YtfcgmlofiaehkaaDoorMem
import Derived.Test.YtfcgmlofiaehkaaDoorChecked
namespace Go.Proofs.YtfcgmlofiaehkaaDoor
open Go.RowKit

def u8s (x : Int) : List Value := [.int .u8 x]
theorem u8s_len (x : Int) : (u8s x).length = 1 := rfl
theorem u8s_one (x : Int) : ∀ u ∈ u8s x, u.oneCell' = true := by intro u hu; simp [u8s] at hu; subst hu; rfl
abbrev U8s (B : Nat) (w : World) (A : Option Addr) (l : List Int) : Prop := Reads B w u8s 1 A l
theorem U8s.at' {B : Nat} {w : World} {A : Option Addr} {l : List Int} (h : U8s B w A l) (i : Nat) (hi : i < l.length) :
    ∃ b off x, Hid (l[i]? = some x) ∧ A = some ⟨b, off, none⟩ ∧ b < B ∧ w.cell? ⟨b, off + i, none⟩ = some (.int .u8 x) := by
  obtain ⟨b, off, x, hx, hA, hb, hc⟩ := h.at i hi
  exact ⟨b, off, x, hx, hA, hb, by simpa using hc 0 _ rfl⟩
theorem infoU8 : (Tryd.prog.info? 5).map (fun i => (i.zero, i.size, i.bytes)) = some (some (.int .u8 0), 1, 1) := by kernel_rfl
def isB (x : Int) : Prop := 0 ≤ x ∧ x ≤ 255
def isW (x : Int) : Prop := 0 ≤ x ∧ x ≤ 4294967295

/-- one step of a register -/
def eStep (r : Int) : Int := if (bits .and .u32 r 1 == 1) = true then bits .xor .u32 (r / 2) 2197175160 else r / 2
def eN : Nat → Int → Int
  | 0, r => r
  | n + 1, r => eStep (eN n r)
def eightL (x : Int) : Int := eN 8 x
theorem eStep_W {r : Int} (h : isW r) : isW (eStep r) := by
  obtain ⟨h0, h1⟩ := h
  unfold eStep
  split
  · exact ⟨bits_lo_u32 .., bits_hi_u32 ..⟩
  · exact ⟨by omega, by omega⟩
theorem eN_W {r : Int} (h : isW r) (n : Nat) : isW (eN n r) := by
  induction n with
  | zero => exact h
  | succ n ih => exact eStep_W ih
theorem isB.w {x : Int} (h : isB x) : isW x := ⟨h.1, by have := h.2; omega⟩
set_option maxHeartbeats 1000000 in
theorem eight_any (w : World) (x : Int) (hx : isB x) :
    Calls Tryd.prog 89 #[.int .u8 x] w fun e w' => e = .returned (.int .u32 (eightL x)) ∧ w' = w := by
  obtain ⟨hx0, hx1⟩ := hx
  have hw : IntKind.u32.wrap x = x := by unfold IntKind.wrap; simp only [IntKind.signed, IntKind.bits]; simp; omega
  go_enter Tryd.func89, Tryd.ntmps89
  go_wp2_with fail
  go_loopg [3, 7] 8 (fun gx sr si wr => ∃ (i : Nat) (r : Int), sr = .int .u32 r ∧ si = .int .i64 i ∧ i ≤ 8 ∧ 8 - i ≤ gx ∧ Hid (r = eN i x) ∧ wr = w)
  case atStart => exact ⟨0, x, rfl, rfl, Nat.zero_le _, Nat.le_refl _, hid rfl, rfl⟩
  case round =>
    obtain ⟨i, r, rfl, rfl, hi, hg, HE, rfl⟩ := hrel
    have hr : isW r := by rw [HE.out]; exact eN_W (isB.w ⟨hx0, hx1⟩) i
    by_cases hlt : i < 8
    · have hii : (i : Int) < 8 := by omega
      have hwi : IntKind.i64.wrap ((i : Int) + 1) = (i : Int) + 1 := wrap_small _ (by omega) (by omega)
      by_cases hb : (bits .and .u32 r 1 == 1) = true
      · have HN : Hid (bits .xor .u32 (r / 2) 2197175160 = eN (i + 1) x) := hid (by
          show _ = eStep (eN i x)
          rw [← HE.out]; unfold eStep; rw [if_pos hb])
        go_wp2_with fail
        go_roundg (8 - (i + 1))
        case measure => omega
        case rel => exact ⟨i + 1, _, rfl, by go_num, hlt, Nat.le_refl _, HN, rfl⟩
      · have HN : Hid (r / 2 = eN (i + 1) x) := hid (by
          show _ = eStep (eN i x)
          rw [← HE.out]; unfold eStep; rw [if_neg hb])
        have hb2 : (bits .and .u32 r 1 == 1) = false := by simpa using hb
        clear hb
        go_wp2_with fail
        go_roundg (8 - (i + 1))
        case measure => omega
        case rel => exact ⟨i + 1, _, rfl, by go_num, hlt, Nat.le_refl _, HN, rfl⟩
    · obtain rfl : i = 8 := by omega
      have hii : ¬ ((8 : Nat) : Int) < 8 := by omega
      have HE2 : Hid (r = eightL x) := HE
      obtain rfl := HE2.out
      go_wp2_with fail
      go_ret
      exact ⟨rfl, rfl⟩

/-- one byte more -/
def crcStep (r c : Int) : Int := bits .xor .u32 (r / 256) (eightL (bits .xor .u8 (r % 256) c))
def crcR (r : Int) (l : List Int) : Int := l.foldl crcStep r
def notW (x : Int) : Int := bits .xor .u32 IntKind.u32.max x
theorem xor_u32 (a b : Nat) (ha : a < 4294967296) (hb : b < 4294967296) : bits .xor .u32 (a : Int) (b : Int) = ((a ^^^ b : Nat) : Int) := by
  have ha' : a % 2 ^ 32 = a := Nat.mod_eq_of_lt ha
  have hb' : b % 2 ^ 32 = b := Nat.mod_eq_of_lt hb
  have h : a ^^^ b < 2 ^ 32 := Nat.xor_lt_two_pow ha hb
  have e1 : (BitVec.ofInt 32 (a : Int)).toNat = a := by rw [BitVec.ofInt_natCast, BitVec.toNat_ofNat]; exact ha'
  have e2 : (BitVec.ofInt 32 (b : Int)).toNat = b := by rw [BitVec.ofInt_natCast, BitVec.toNat_ofNat]; exact hb'
  show IntKind.u32.wrap ((BitVec.ofInt 32 (a : Int) ^^^ BitVec.ofInt 32 (b : Int)).toNat : Int) = _
  rw [BitVec.toNat_xor, e1, e2, IntKind.wrap_u32]
  omega
theorem xor_u8 (a b : Nat) (ha : a < 256) (hb : b < 256) : bits .xor .u8 (a : Int) (b : Int) = ((a ^^^ b : Nat) : Int) := by
  have ha' : a % 2 ^ 8 = a := Nat.mod_eq_of_lt ha
  have hb' : b % 2 ^ 8 = b := Nat.mod_eq_of_lt hb
  have h : a ^^^ b < 2 ^ 8 := Nat.xor_lt_two_pow ha hb
  have e1 : (BitVec.ofInt 8 (a : Int)).toNat = a := by rw [BitVec.ofInt_natCast, BitVec.toNat_ofNat]; exact ha'
  have e2 : (BitVec.ofInt 8 (b : Int)).toNat = b := by rw [BitVec.ofInt_natCast, BitVec.toNat_ofNat]; exact hb'
  show IntKind.u8.wrap ((BitVec.ofInt 8 (a : Int) ^^^ BitVec.ofInt 8 (b : Int)).toNat : Int) = _
  rw [BitVec.toNat_xor, e1, e2, IntKind.wrap_u8]
  omega
/-- the sum of more bytes, going on from c -/
def crcM (c : Int) (l : List Int) : Int := notW (crcR (notW c) l)
theorem crcStep_W (r c : Int) : isW (crcStep r c) := ⟨bits_lo_u32 .., bits_hi_u32 ..⟩
theorem notW_W (r : Int) : isW (notW r) := ⟨bits_lo_u32 .., bits_hi_u32 ..⟩
theorem notW_notW {r : Int} (h : isW r) : notW (notW r) = r := by
  obtain ⟨h0, h1⟩ := h
  obtain ⟨n, rfl⟩ := Int.eq_ofNat_of_zero_le h0
  have hm : IntKind.u32.max = ((4294967295 : Nat) : Int) := by decide
  have hx : 4294967295 ^^^ n < 2 ^ 32 := Nat.xor_lt_two_pow (by decide) (by omega)
  unfold notW
  rw [hm, xor_u32 _ _ (by decide) (by omega), xor_u32 _ _ (by decide) hx, ← Nat.xor_assoc, Nat.xor_self, Nat.zero_xor]
theorem crcR_W {r : Int} (h : isW r) (l : List Int) : isW (crcR r l) := by
  induction l generalizing r with
  | nil => exact h
  | cons x l ih => exact ih (crcStep_W _ _)
theorem crcM_W (c : Int) (l : List Int) : isW (crcM c l) := notW_W _
theorem crcR_append (r : Int) (a b : List Int) : crcR r (a ++ b) = crcR (crcR r a) b := List.foldl_append
theorem crcM_append (c : Int) (a b : List Int) : crcM c (a ++ b) = crcM (crcM c a) b := by
  unfold crcM; rw [crcR_append, notW_notW (crcR_W (notW_W c) a)]
theorem crcM_nil {c : Int} (h : isW c) : crcM c [] = c := notW_notW h
set_option maxHeartbeats 1000000 in
theorem crcMore_any (w : World) (c0 : Int) (A : Option Addr) (n c : Nat) (l : List Int) (hl : l.length = n) (hm : n ≤ 4611686018427387904) (hc0 : isW c0) (hb : ∀ x ∈ l, isB x) (hR : U8s w.heap.size w A l) :
    Calls Tryd.prog 64 #[.int .u32 c0, .slice A n c] w fun e w' => e = .returned (.int .u32 (crcM c0 l)) ∧ w' = w := by
  subst hl
  have HR := hid hR
  have HB := hid hb
  obtain ⟨hc1, hc2⟩ := hc0
  have hE := eight_any w
  have HE := hid hE
  clear hR hb hE
  go_enter Tryd.func64, Tryd.ntmps64
  go_wp2_with fail
  go_loopg [5, 12] l.length (fun gx sr si wr => ∃ (i : Nat) (r : Int), sr = .int .u32 r ∧ si = .int .i64 i ∧ i ≤ l.length ∧ l.length - i ≤ gx ∧ isW r ∧ Hid (r = crcR (notW c0) (l.take i)) ∧ wr = w)
  case atStart => exact ⟨0, notW c0, rfl, rfl, Nat.zero_le _, Nat.le_refl _, notW_W _, hid rfl, rfl⟩
  case round =>
    obtain ⟨i, r, rfl, rfl, hi, hg, hr, HH, rfl⟩ := hrel
    obtain ⟨hr1, hr2⟩ := hr
    by_cases hlt : i < l.length
    · have hii : (i : Int) < (l.length : Int) := by omega
      have hwi : IntKind.i64.wrap ((i : Int) + 1) = (i : Int) + 1 := wrap_small _ (by omega) (by omega)
      obtain ⟨b, off, x, hx, rfl, hb, hc⟩ := HR.out.at' i hlt
      have hx8 := HB.out x (List.mem_of_getElem? hx.out)
      have HX := hid (HE.out (bits .xor .u8 (r % 256) x) ⟨bits_lo_u8 .., bits_hi_u8 ..⟩)
      have HN : Hid (crcStep r x = crcR (notW c0) (l.take (i + 1))) := hid (by
        rw [List.take_add_one, hx.out, crcR_append, ← HH.out]; rfl)
      go_wp2_with fail
      refine HX.out.mono ?_
      rintro e w2 ⟨rfl, hw⟩
      obtain rfl : wr = w2 := hw.symm
      go_wp2_with fail
      go_roundg (l.length - (i + 1))
      case measure => omega
      case rel => exact ⟨i + 1, crcStep r x, rfl, by go_num, hlt, Nat.le_refl _, crcStep_W _ _, HN, rfl⟩
    · have hii : ¬ (i : Int) < (l.length : Int) := by omega
      have HE2 : Hid (r = crcR (notW c0) l) := by show _ = _; rw [HH.out, List.take_of_length_le (by omega)]
      go_wp2_with fail
      refine bodyPost_ret (results_tmp rfl _ _ _) rfl ?_
      exact ⟨by unfold crcM; rw [← HE2.out]; rfl, rfl⟩
theorem crc_any (w : World) (A : Option Addr) (n c : Nat) (l : List Int) (hl : l.length = n) (hm : n ≤ 4611686018427387904) (hb : ∀ x ∈ l, isB x) (hR : U8s w.heap.size w A l) :
    Calls Tryd.prog 78 #[.slice A n c] w fun e w' => e = .returned (.int .u32 (crcM 0 l)) ∧ w' = w := by
  have HF := hid (crcMore_any w 0 A n c l hl hm ⟨by omega, by omega⟩ hb hR)
  clear hR hb
  go_enter Tryd.func78, Tryd.ntmps78
  go_wp2_with fail
  refine HF.out.mono ?_
  rintro e w1 ⟨rfl, hw⟩
  obtain rfl : w = w1 := hw.symm
  go_wp2_with fail
  refine bodyPost_ret (results_tmp rfl _ _ _) rfl ?_
  exact ⟨rfl, rfl⟩
theorem num_any (w : World) (x : Int) : Calls Tryd.prog 19 #[.int .i64 x] w fun e w' => e = .returned (.int .i64 x) ∧ w' = w := by
  go_enter Tryd.func19, Tryd.ntmps19
  go_wp2
  go_ret
  exact ⟨rfl, rfl⟩
/-- good limits -/
def goodLim (x : Int) : Bool := decide (64 ≤ x ∧ x ≤ 16777216)
theorem goodLimit_any (w : World) (x : Int) : Calls Tryd.prog 51 #[.int .i64 x] w fun e w' => e = .returned (.bool (goodLim x)) ∧ w' = w := by
  by_cases h1 : 64 ≤ x
  · have b1 : decide (x ≥ 64) = true := by simpa using h1
    have b1' : decide (64 ≤ x) = true := by simpa using h1
    have e : goodLim x = decide (x ≤ 16777216) := by unfold goodLim; simp [h1]
    go_enter Tryd.func51, Tryd.ntmps51
    rw [e]
    go_wp2_with fail
    go_ret
    exact ⟨rfl, rfl⟩
  · have b1 : decide (x ≥ 64) = false := by simpa using h1
    have b1' : decide (64 ≤ x) = false := by simpa using h1
    have e : goodLim x = false := by unfold goodLim; simp [h1]
    go_enter Tryd.func51, Tryd.ntmps51
    rw [e]
    go_wp2_with fail
    go_ret
    exact ⟨rfl, rfl⟩
/-- a number of four bytes, the highest first -/
def be4 (x : Int) : List Int := [x / 16777216, x / 65536 % 256, x / 256 % 256, x % 256]
theorem be4_len (x : Int) : (be4 x).length = 4 := rfl
theorem be4_byte {x : Int} (h : isW x) : ∀ y ∈ be4 x, isB y := by
  obtain ⟨h0, h1⟩ := h
  intro y hy
  simp only [be4, List.mem_cons, List.not_mem_nil, or_false] at hy
  rcases hy with rfl | rfl | rfl | rfl <;> exact ⟨by omega, by omega⟩
def get4 (l : List Int) : Int := l[0]?.getD 0 * 16777216 + l[1]?.getD 0 * 65536 + l[2]?.getD 0 * 256 + l[3]?.getD 0
theorem get4_be4 {x : Int} (h : isW x) (r : List Int) : get4 (be4 x ++ r) = x := by
  obtain ⟨h0, h1⟩ := h
  simp only [get4, be4, List.cons_append, List.getElem?_cons_zero, List.getElem?_cons_succ, Option.getD_some]
  omega
theorem be32_any (w : World) (B : Nat) (v : Value) (n : Nat) (l : List Int) (x : Int) (hx : isW x) (hl : l.length = n) (hn : n ≤ 1000000000) (ho : w.ownsRow B 5 1 v n (l.flatMap u8s)) (hB : B ≤ w.heap.size) :
    Calls Tryd.prog 63 #[v, .int .u32 x] w fun e w' => ∃ v1, e = .returned v1 ∧ w'.ownsRow B 5 1 v1 (n + 4) ((l ++ be4 x).flatMap u8s) ∧ w.grownBy w' v.ownBlock ∧ (v1.ownBlock = v.ownBlock ∨ ∃ b, v1.ownBlock = some b ∧ w.heap.size ≤ b) := by
  subst hl
  obtain ⟨hx0, hx1⟩ := hx
  obtain ⟨_, A1, c1, rfl, _, _, hR1⟩ := owns_reads u8s_len ho (by decide)
  have HO := hid ho
  have HR4 : Hid (U8s (w.heap.size + 1) (w.alloc (.cells #[.int .u8 (x / 16777216), .int .u8 (x / 65536 % 256), .int .u8 (x / 256 % 256), .int .u8 (x % 256)] 5)) (some ⟨w.heap.size, 0, none⟩) (be4 x)) := by
    refine .inr ⟨w.heap.size, 0, rfl, by omega, fun i y hy j v hv => ?_⟩
    have := (Row.new w [Value.int .u8 (x / 16777216), .int .u8 (x / 65536 % 256), .int .u8 (x / 256 % 256), .int .u8 (x % 256)] 5).2 (i + j) v
    match j, hv with
    | 0, hv =>
      injection hv with hv
      match i, hy with
      | 0, hy => injection hy with hy; subst hv hy; exact this rfl
      | 1, hy => injection hy with hy; subst hv hy; exact this rfl
      | 2, hy => injection hy with hy; subst hv hy; exact this rfl
      | 3, hy => injection hy with hy; subst hv hy; exact this rfl
  clear ho hR1
  go_enter Tryd.func63, Tryd.ntmps63
  go_wp2_with (at_builtin; go_loud (refine wpList_append_reads (B := w.heap.size + 1) _ B rfl _ _ 22 5 _ 1 rfl Tryd.underlying22 infoU8 rfl (by decide) _ l.length (l.flatMap u8s) rfl (HO.out.alloc _) (some ⟨w.heap.size, 0, none⟩) 4 4 (be4 x) rfl rfl HR4.out u8s_len u8s_one (by simp only [maxLen]; omega) (by omega) (by simp; omega) ?_); intro v1 w2 hown hg hat)
  refine bodyPost_ret (results_tmp rfl _ _ _) rfl ?_
  refine ⟨v1, rfl, by first | exact hown | (rw [List.flatMap_append]; exact hown), World.grownBy.trans (World.grownBy_alloc w _ _) hg, ?_⟩
  rcases hat with hat | hat
  · exact .inl hat
  · exact .inr ⟨_, hat, by simp⟩
end Go.Proofs.YtfcgmlofiaehkaaDoor
