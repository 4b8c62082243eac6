/- Layer 9's laws: laid: a list of records as a state. -/
import Derived.Test.YtfcgmlofiaehkaaDoorKV
namespace Go.Proofs.YtfcgmlofiaehkaaDoor
open Go.RowKit

theorem own_slice {w : World} {base : Nat} {e : TypeId} {sz n : Nat} {v : Value} {xs : List Value} (h : w.ownsRow base e sz v n xs) : ∃ A c, v = .slice A n c := by
  rcases h.2 with ⟨rfl, rfl⟩ | ⟨g, cap, cur, rfl, _⟩
  · exact ⟨none, 0, rfl⟩
  · exact ⟨_, cap, rfl⟩
def laidL : List (List Int) → List Int
  | [] => []
  | r :: rs => ((r.length / 256 : Nat) : Int) :: ((r.length % 256 : Nat) : Int) :: (r ++ laidL rs)
def laidLen : List (List Int) → Nat
  | [] => 0
  | r :: rs => 2 + r.length + laidLen rs
theorem laidL_len (rs : List (List Int)) : (laidL rs).length = laidLen rs := by
  induction rs with
  | nil => rfl
  | cons r rs ih => simp only [laidL, List.length_cons, List.length_append, ih, laidLen]; omega
theorem laidL_snoc (rs : List (List Int)) (r : List Int) : laidL (rs ++ [r]) = laidL rs ++ [((r.length / 256 : Nat) : Int), ((r.length % 256 : Nat) : Int)] ++ r := by
  induction rs with
  | nil => simp [laidL]
  | cons x rs ih => simp only [List.cons_append, laidL, ih, List.append_assoc]
theorem laidLen_le (rs : List (List Int)) : laidLen rs ≤ sumF rs := by
  induction rs with
  | nil => exact Nat.le_refl _
  | cons r rs ih => rw [laidLen, sumF]; omega
theorem laidL_byte {rs : List (List Int)} (h : ∀ r ∈ rs, GoodR r) : ∀ x ∈ laidL rs, isB x := by
  induction rs with
  | nil => intro x hx; simp [laidL] at hx
  | cons r rs ih =>
    obtain ⟨h1, h2, h3⟩ := h r (by simp)
    intro x hx
    simp only [laidL, List.mem_cons, List.mem_append] at hx
    rcases hx with rfl | rfl | hx | hx
    · exact ⟨by omega, by omega⟩
    · exact ⟨by omega, by omega⟩
    · exact h3 x hx
    · exact ih (fun r hr => h r (by simp [hr])) x hx
theorem laid_take {l : List (List Int)} {i : Nat} {b : List Int} (h : l[i]? = some b) : laidL (l.take (i + 1)) = laidL (l.take i) ++ [((b.length / 256 : Nat) : Int), ((b.length % 256 : Nat) : Int)] ++ b := by rw [take_snoc h, laidL_snoc]
theorem two_new (W : World) (x y : Int) : U8s (W.heap.size + 1) (W.alloc (.cells #[.int .u8 x, .int .u8 y] 5)) (some ⟨W.heap.size, 0, none⟩) [x, y] := by
  refine .inr ⟨W.heap.size, 0, rfl, by omega, fun i z hz j v hv => ?_⟩
  have := (Row.new W [Value.int .u8 x, Value.int .u8 y] 5).2 (i + j) v
  match j, hv with
  | 0, hv =>
    injection hv with hv
    match i, hz with
    | 0, hz => injection hz with hz; subst hv hz; exact this rfl
    | 1, hz => injection hz with hz; subst hv hz; exact this rfl
set_option maxRecDepth 100000 in
set_option maxHeartbeats 4000000 in
theorem laid_any (w : World) (A : Option Addr) (n c : Nat) (ls : List (List Int)) (h : LsRd w A n c ls) (hg : ∀ r ∈ ls, GoodR r) (hs : laidLen ls ≤ 100000000) :
    Calls Tryd.prog 65 #[.slice A n c] w fun e w' => ∃ A1 n1 c1, e = .returned (.slice A1 n1 c1) ∧ n1 = laidLen ls ∧ OwnB w' w.heap.size (.slice A1 n1 c1) (laidL ls) ∧ Below w.heap.size w w' := by
  obtain ⟨hn, hnc⟩ := h.len
  have hlen := laidL_len ls
  have HL := hid h
  have HG := hid hg
  have hnb : n ≤ 100000000 := by
    have : ∀ l : List (List Int), l.length ≤ laidLen l := fun l => by
      induction l with
      | nil => exact Nat.le_refl _
      | cons x l ih => rw [laidLen, List.length_cons]; omega
    have := this ls
    omega
  have HS := hid hs
  clear h hg hs
  go_enter Tryd.func65, Tryd.ntmps65
  go_wp2_with fail
  go_loopg [3, 4] n (fun gx so si wr => ∃ (i N : Nat) (B : Option Addr) (cc : Nat), si = .int .i64 i ∧ so = .slice B N cc ∧ i ≤ n ∧ n - i ≤ gx ∧ N ≤ 100000000 ∧ Hid (wr.ownsRow w.heap.size 5 1 (.slice B N cc) N ((laidL (ls.take i)).flatMap u8s)) ∧ Hid (N = (laidL (ls.take i)).length) ∧ Hid (Below w.heap.size w wr))
  case atStart => exact ⟨0, 0, none, 0, rfl, rfl, Nat.zero_le _, Nat.le_refl _, by omega, hid (World.ownsRow_nil _ _ _ _), hid rfl, hid (Below.refl _ _)⟩
  case round =>
    obtain ⟨i, N, B, cc, rfl, rfl, hi, hgx, hN, HO, HNL, HB⟩ := hrel
    by_cases hlt : i < n
    · have hii : (i : Int) < (n : Int) := by omega
      have hwi : IntKind.i64.wrap ((i : Int) + 1) = (i : Int) + 1 := wrap_small _ (by omega) (by omega)
      obtain ⟨b, off, s, l, rfl, hb, hc, hl, hr⟩ := HL.out.at i hlt
      obtain ⟨g1, g2, g3⟩ := HG.out l (List.mem_of_getElem? hl)
      obtain ⟨sA, sn, sc⟩ := s
      obtain ⟨r1, r2, r3, r4, r5⟩ := hr
      dsimp only at hc r1 r2 r3 r4
      subst r1
      have hbr := HB.out
      have c0 := (hbr.cell (p := ⟨b, off + i, none⟩) hb).trans hc
      have ht := laid_take hl
      have htl : (laidL (ls.take (i + 1))).length = N + 2 + l.length := by rw [ht, List.length_append, List.length_append, ← HNL.out]; rfl
      have hle : N + 2 + l.length ≤ 100000000 := by
        have h1 : (laidL (ls.take (i + 1))).length ≤ laidLen ls := by
          rw [laidL_len]
          have : ∀ (l : List (List Int)) (k : Nat), laidLen (l.take k) ≤ laidLen l := fun l => by
            induction l with
            | nil => intro k; simp
            | cons x l ih => intro k; cases k with
              | zero => simp [laidLen]
              | succ k => rw [List.take_succ_cons, laidLen, laidLen]; have := ih k; omega
          exact this ls (i + 1)
        have := HS.out
        omega
      have HT := hid ht
      have HTL := hid htl
      have HR4 := hid r4
      have HC := hid hc
      obtain ⟨hi8, hlo⟩ : ∃ q : Nat, q = l.length / 256 := ⟨_, rfl⟩
      obtain ⟨lo8, hll⟩ : ∃ q : Nat, q = l.length % 256 := ⟨_, rfl⟩
      have w0 : IntKind.u8.wrap ((l.length : Int) / 256) = (hi8 : Int) := by rw [IntKind.wrap_u8]; omega
      have w1 : IntKind.u8.wrap (l.length : Int) = (lo8 : Int) := by rw [IntKind.wrap_u8]; omega
      have HLO := hid hlo
      have HLL := hid hll
      clear hbr hc r3 r4 r5 ht htl hl g3 hlo hll
      have HM2 := hid (two_new wr (hi8 : Int) (lo8 : Int))
      have hwz := HB.out.size
      go_upto_region 7 with (at_builtin; go_loud (refine wpList_append_reads (B := wr.heap.size + 1) _ w.heap.size rfl _ _ 22 5 _ 1 rfl Tryd.underlying22 infoU8 rfl (by decide) _ N ((laidL (ls.take i)).flatMap u8s) rfl (HO.out.alloc _) (some ⟨wr.heap.size, 0, none⟩) 2 2 [(hi8 : Int), (lo8 : Int)] rfl rfl HM2.out u8s_len u8s_one (by simp only [maxLen]; omega) (by omega) (by simp; omega) ?_); intro v1 w2 hown hg hat)
      have hown' : w2.ownsRow w.heap.size 5 1 v1 (N + 2) ((laidL (ls.take i) ++ [(hi8 : Int), (lo8 : Int)]).flatMap u8s) := by rw [List.flatMap_append]; exact hown
      have hge := fun k hk => own_ge HO.out k hk
      obtain ⟨_, A1, c1, rfl, _, _, _⟩ := owns_reads u8s_len hown' (by decide)
      have hb2 : Below w.heap.size w w2 := (HB.out.alloc hwz _).grown hg (by simp; omega) (fun k e => hge k e)
      have c2 := (hb2.cell (p := ⟨b, off + i, none⟩) hb).trans HC.out
      have hr2 : U8s w.heap.size w2 sA l := HR4.out.below hb2
      have HO2 := hid hown'
      have HB2 := hid hb2
      have HR2 := hid hr2
      have hwz2 := hb2.size
      clear hown hown' hg hat hge hb2 hr2 c0
      go_wp2_with (at_builtin; go_loud (refine wpList_append_reads (B := w.heap.size) _ w.heap.size rfl _ _ 22 5 _ 1 rfl Tryd.underlying22 infoU8 rfl (by decide) _ (N + 2) ((laidL (ls.take i) ++ [(hi8 : Int), (lo8 : Int)]).flatMap u8s) rfl HO2.out sA l.length sc l rfl rfl HR2.out u8s_len u8s_one (by simp only [maxLen]; omega) (by omega) hwz2 ?_; intro v3 w3 hown3 hg3 hat3; obtain ⟨A3, c3, rfl⟩ := own_slice hown3; have HO3 := hid hown3; have HG3 := hid hg3; clear hown3 hg3 hat3))
      have hb3 : Below w.heap.size w w3 := HB2.out.grown HG3.out hwz2 (fun k e => own_ge HO2.out k e)
      have hlist : laidL (ls.take (i + 1)) = laidL (ls.take i) ++ [(hi8 : Int), (lo8 : Int)] ++ l := by
        rw [HT.out, HLO.out, HLL.out]
      go_roundg (n - (i + 1))
      case measure => omega
      case rel => exact ⟨i + 1, N + 2 + l.length, A3, c3, by go_num, rfl, hlt, Nat.le_refl _, hle, hid (by rw [hlist, List.flatMap_append]; exact HO3.out), hid HTL.out.symm, hid hb3⟩
    · have hii : ¬ (i : Int) < (n : Int) := by omega
      have hall : ls.take i = ls := List.take_of_length_le (by omega)
      have ho := HO.out
      have hnl := HNL.out
      rw [hall] at ho hnl
      have HO' := hid ho
      have HNL' := hid hnl
      have HLEN := hid hlen
      clear ho hnl hlen hall
      go_wp2_with fail
      refine bodyPost_ret (results_tmp rfl _ _ _) rfl ?_
      refine ⟨B, N, cc, rfl, by rw [HNL'.out, HLEN.out], ?_, HB.out⟩
      show World.ownsRow _ _ _ 1 _ _ _
      rw [← HNL'.out]
      exact HO'.out
end Go.Proofs.YtfcgmlofiaehkaaDoor
