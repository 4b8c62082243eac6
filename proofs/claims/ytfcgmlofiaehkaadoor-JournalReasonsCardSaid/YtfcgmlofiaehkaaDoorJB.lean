/- Layer 9: the bytes of a slot that begins. -/
import Derived.Test.YtfcgmlofiaehkaaDoorJV
namespace Go.Proofs.YtfcgmlofiaehkaaDoor
open Go.RowKit

def headB (gen : Int) (n : Nat) : List Int := [83, 72, 74, 49] ++ be4 (gen / 4294967296) ++ be4 (gen % 4294967296) ++ be4 n
def begunSum (gen : Int) (st : List Int) : Int := crcM (crcM 0 (headB gen st.length)) st
def begunB (gen : Int) (st : List Int) : List Int := headB gen st.length ++ be4 (crcM 0 (headB gen st.length)) ++ st ++ be4 (begunSum gen st)
theorem headB_len (gen : Int) (n : Nat) : (headB gen n).length = 16 := rfl
theorem begunB_len (gen : Int) (st : List Int) : (begunB gen st).length = 24 + st.length := by
  unfold begunB
  rw [List.length_append, List.length_append, List.length_append, headB_len, be4_len, be4_len]; omega
theorem headB_byte {gen : Int} (hg : 0 ≤ gen ∧ gen ≤ 18446744073709551615) {n : Nat} (hn : n ≤ 4294967295) : ∀ x ∈ headB gen n, isB x := by
  intro x hx
  unfold headB at hx
  simp only [List.mem_append] at hx
  rcases hx with ((hx | hx) | hx) | hx
  · simp only [List.mem_cons, List.not_mem_nil, or_false] at hx
    rcases hx with rfl | rfl | rfl | rfl <;> exact ⟨by omega, by omega⟩
  · exact be4_byte ⟨by omega, by omega⟩ x hx
  · exact be4_byte ⟨by omega, by omega⟩ x hx
  · exact be4_byte ⟨by omega, by omega⟩ x hx
theorem begunB_byte {gen : Int} (hg : 0 ≤ gen ∧ gen ≤ 18446744073709551615) {st : List Int} (hs : ∀ x ∈ st, isB x) (hn : st.length ≤ 4294967295) : ∀ x ∈ begunB gen st, isB x := by
  intro x hx
  unfold begunB at hx
  simp only [List.mem_append] at hx
  rcases hx with ((hx | hx) | hx) | hx
  · exact headB_byte hg hn x hx
  · exact be4_byte (crcM_W _ _) x hx
  · exact hs x hx
  · exact be4_byte (crcM_W _ _) x hx
/-- a row of the call's own goes on being one: 'be32' in the call's terms -/
theorem be32_own (w0 w : World) (v : Value) (n : Nat) (l : List Int) (x : Int) (hx : isW x) (hl : l.length = n) (hn : n ≤ 1000000000) (ho : w.ownsRow w0.heap.size 5 1 v n (l.flatMap u8s)) (hB : Below w0.heap.size w0 w) :
    Calls Tryd.prog 63 #[v, .int .u32 x] w fun e w' => ∃ A c, e = .returned (.slice A (n + 4) c) ∧ w'.ownsRow w0.heap.size 5 1 (.slice A (n + 4) c) (n + 4) ((l ++ be4 x).flatMap u8s) ∧ Below w0.heap.size w0 w' := by
  refine (be32_any w w0.heap.size v n l x hx hl hn ho hB.size).mono ?_
  rintro e w' ⟨v1, rfl, h1, h2, h3⟩
  obtain ⟨_, A, c, rfl, _, _, _⟩ := owns_reads u8s_len h1 (by decide)
  exact ⟨A, c, rfl, h1, hB.grown h2 hB.size (fun k e => own_ge ho k e)⟩

set_option maxRecDepth 100000 in
set_option maxHeartbeats 4000000 in
theorem begun_any (w : World) (gen : Int) (A : Option Addr) (n c : Nat) (st : List Int) (hg : 0 ≤ gen ∧ gen ≤ 18446744073709551615) (hl : st.length = n) (hm : n ≤ 100000000) (hb : ∀ x ∈ st, isB x) (hR : U8s w.heap.size w A st) :
    Calls Tryd.prog 61 #[.int .u64 gen, .slice A n c] w fun e w' => ∃ A' c', e = .returned (.tuple #[.slice A' (24 + n) c', .int .u32 (begunSum gen st)]) ∧ w'.ownsRow w.heap.size 5 1 (.slice A' (24 + n) c') (24 + n) ((begunB gen st).flatMap u8s) ∧ Below w.heap.size w w' := by
  subst hl
  obtain ⟨hg0, hg1⟩ := hg
  have hmk := make_run (P := Tryd.prog) 22 5 _ 1 1 Tryd.underlying22 infoU8 (24 + st.length) (20 + (st.length : Int) + 4) (by omega) (by omega) (by omega)
  have hw1 : IntKind.i64.wrap (20 + (st.length : Int)) = 20 + (st.length : Int) := wrap_small _ (by omega) (by omega)
  have hw2 : IntKind.i64.wrap (20 + (st.length : Int) + 4) = 20 + (st.length : Int) + 4 := wrap_small _ (by omega) (by omega)
  obtain ⟨W1, hW1⟩ : ∃ W1, W1 = w.alloc (.cells (madeCells #[.int .u8 0] (24 + st.length)) 5) := ⟨_, rfl⟩
  have hO1 : W1.ownsRow w.heap.size 5 1 (.slice (some ⟨w.heap.size, 0, none⟩) 0 (24 + st.length)) 0 [] := by
    rw [hW1]
    exact World.ownsRow_made w _ _ (Nat.le_refl _) (by simp only [maxLen]; omega) (by rw [size_madeCells, Nat.mul_one])
  have hB1 : Below w.heap.size w W1 := by rw [hW1]; exact (Below.refl _ w).alloc (Nat.le_refl _) _
  have HR := hid hR
  have HB := hid hb
  have HW1 := hid hW1
  have HO1 := hid hO1
  have HB1 := hid hB1
  have hsz1 : w.heap.size ≤ W1.heap.size := hB1.size
  clear hR hb hW1 hO1 hB1
  go_enter Tryd.func61, Tryd.ntmps61
  have HM4 : Hid (U8s (W1.heap.size + 1) (W1.alloc (.cells #[.int .u8 83, .int .u8 72, .int .u8 74, .int .u8 49] 5)) (some ⟨W1.heap.size, 0, none⟩) [83, 72, 74, 49]) := by
    refine .inr ⟨W1.heap.size, 0, rfl, by omega, fun i y hy j v hv => ?_⟩
    have := (Row.new W1 [Value.int .u8 83, .int .u8 72, .int .u8 74, .int .u8 49] 5).2 (i + j) v
    match j, hv with
    | 0, hv =>
      injection hv with hv
      match i, hy with
      | 0, hy => injection hy with hy; subst hv hy; exact this rfl
      | 1, hy => injection hy with hy; subst hv hy; exact this rfl
      | 2, hy => injection hy with hy; subst hv hy; exact this rfl
      | 3, hy => injection hy with hy; subst hv hy; exact this rfl
  go_upto_region 2 with fail
  rw [← HW1.out]
  go_wp2_with (at_builtin; go_loud (refine wpList_append_reads (B := W1.heap.size + 1) _ w.heap.size rfl _ _ 22 5 _ 1 rfl Tryd.underlying22 infoU8 rfl (by decide) _ 0 [] rfl (HO1.out.alloc _) (some ⟨W1.heap.size, 0, none⟩) 4 4 [83, 72, 74, 49] rfl rfl HM4.out u8s_len u8s_one (by simp only [maxLen]; omega) (by omega) (by simp; omega) ?_); intro v1 W2 hown hg hat; obtain ⟨_, A2, c2, rfl, _, _, _⟩ := owns_reads u8s_len hown (by decide); have HO2 := hid hown; have HB2 := hid ((HB1.out.alloc hsz1 (.cells #[.int .u8 83, .int .u8 72, .int .u8 74, .int .u8 49] 5)).grown hg (by simp; omega) (fun k e => own_ge HO1.out k e)); clear hown hg hat)
  refine (be32_own w W2 _ 4 [83, 72, 74, 49] (gen / 4294967296) ⟨by omega, by omega⟩ rfl (by omega) HO2.out HB2.out).mono ?_
  rintro e W3 ⟨A3, c3, rfl, ho3, hb3⟩
  have HO3 := hid ho3
  have HB3 := hid hb3
  clear ho3 hb3
  go_wp2_with fail
  refine (be32_own w W3 _ 8 ([83, 72, 74, 49] ++ be4 (gen / 4294967296)) (gen % 4294967296) ⟨by omega, by omega⟩ rfl (by omega) HO3.out HB3.out).mono ?_
  rintro e W4 ⟨A4, c4, rfl, ho4, hb4⟩
  have HO4 := hid ho4
  have HB4 := hid hb4
  clear ho4 hb4
  have hcl : IntKind.u32.wrap (st.length : Int) = (st.length : Int) := wraps_u32 _ (by omega) (by omega)
  go_wp2_with fail
  refine (be32_own w W4 _ 12 ([83, 72, 74, 49] ++ be4 (gen / 4294967296) ++ be4 (gen % 4294967296)) (st.length : Int) ⟨by omega, by omega⟩ rfl (by omega) HO4.out HB4.out).mono ?_
  rintro e W5 ⟨A5, c5, rfl, ho5, hb5⟩
  obtain ⟨hd, hhd⟩ : ∃ hd, headB gen st.length = hd := ⟨_, rfl⟩
  have hdl : hd.length = 16 := by rw [← hhd]; rfl
  have hdb : ∀ x ∈ hd, isB x := by rw [← hhd]; exact headB_byte ⟨hg0, hg1⟩ (by omega)
  have ho5' : W5.ownsRow w.heap.size 5 1 (.slice A5 16 c5) 16 (hd.flatMap u8s) := by rw [← hhd]; exact ho5
  obtain ⟨_, A5', c5', e5, hc5, _, hR5⟩ := owns_reads u8s_len ho5' (by decide)
  cases e5
  have HC := hid (crc_any W5 A5 16 c5 hd hdl (by omega) hdb hR5)
  obtain ⟨s1, hs1⟩ : ∃ s1, crcM 0 hd = s1 := ⟨_, rfl⟩
  have hs1W : isW s1 := by rw [← hs1]; exact crcM_W _ _
  rw [hs1] at HC
  have HO5 := hid ho5'
  have HB5 := hid hb5
  have HHD := hid hhd
  have HS1 := hid hs1
  clear ho5 ho5' hb5 hR5 hhd hs1
  go_wp2_with fail
  refine HC.out.mono ?_
  rintro e W6 ⟨rfl, hw6⟩
  obtain rfl : W5 = W6 := hw6.symm
  go_wp2_with fail
  refine (be32_own w W5 _ 16 hd s1 hs1W hdl (by omega) HO5.out HB5.out).mono ?_
  rintro e W6 ⟨A6, c6, rfl, ho6, hb6⟩
  have hR6 : U8s w.heap.size W6 A st := HR.out.below hb6
  have HR6 := hid hR6
  have HO6 := hid ho6
  have HB6 := hid hb6
  have h20 : (hd ++ be4 s1).length = 20 := by rw [List.length_append, hdl]; rfl
  have hsz6 : w.heap.size ≤ W6.heap.size := hb6.size
  clear ho6 hb6 hR6
  go_wp2_with (at_builtin; go_loud (refine wpList_append_reads (B := w.heap.size) _ w.heap.size rfl _ _ 22 5 _ 1 rfl Tryd.underlying22 infoU8 rfl (by decide) _ 20 ((hd ++ be4 s1).flatMap u8s) rfl HO6.out A st.length c st rfl rfl HR6.out u8s_len u8s_one (by simp only [maxLen]; omega) (by omega) hsz6 ?_); intro v1 W7 hown hg hat)
  obtain ⟨B7, hB7⟩ : ∃ B7, B7 = hd ++ be4 s1 ++ st := ⟨_, rfl⟩
  have hown2 : W7.ownsRow w.heap.size 5 1 v1 (20 + st.length) (B7.flatMap u8s) := by
    rw [hB7, List.flatMap_append]; exact hown
  obtain ⟨_, A7, c7, rfl, _, _, _⟩ := owns_reads u8s_len hown2 (by decide)
  have HO7 := hid hown2
  have HG7 := hid (HB6.out.grown hg hsz6 (fun k e => own_ge HO6.out k e))
  have HB7 := hid hB7
  clear hown hown2 hg hat hB7
  have hR7 : U8s W7.heap.size W7 A st := (HR.out.below HG7.out).mono HG7.out.size
  have HCM := hid (crcMore_any W7 s1 A st.length c st rfl (by omega) hs1W HB.out hR7)
  obtain ⟨s2, hs2⟩ : ∃ s2, crcM s1 st = s2 := ⟨_, rfl⟩
  have hs2W : isW s2 := by rw [← hs2]; exact crcM_W _ _
  rw [hs2] at HCM
  have HS2 := hid hs2
  have hl7 : B7.length = 20 + st.length := by rw [HB7.out, List.length_append, h20]
  clear hR7 hs2
  refine HCM.out.mono ?_
  rintro e W8 ⟨rfl, hw8⟩
  obtain rfl : W7 = W8 := hw8.symm
  go_wp2_with fail
  refine (be32_own w W7 _ (20 + st.length) B7 s2 hs2W hl7 (by omega) HO7.out HG7.out).mono ?_
  rintro e W8 ⟨A8, c8, rfl, ho8, hb8⟩
  have HES : Hid (begunSum gen st = s2) := hid (by unfold begunSum; rw [HHD.out, HS1.out, HS2.out])
  have HEB : Hid (begunB gen st = B7 ++ be4 s2) := hid (by unfold begunB; rw [HHD.out, HS1.out, HES.out, HB7.out])
  have h24 : 20 + st.length + 4 = 24 + st.length := by omega
  rw [h24] at ho8 ⊢
  clear h24 hl7
  have HO8 := hid ho8
  have HB8 := hid hb8
  clear ho8 hb8
  go_wp2_with fail
  go_ret2
  exact ⟨_, _, by rw [HES.out]; rfl, by rw [HEB.out]; exact HO8.out, HB8.out⟩

end Go.Proofs.YtfcgmlofiaehkaaDoor
