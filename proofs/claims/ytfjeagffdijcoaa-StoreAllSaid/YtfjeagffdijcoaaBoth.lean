/- Layer 7: a map of the program's beside the reference's; filled. -/
import Derived.Test.YtfjeagffdijcoaaRefB
import Derived.Test.YtfjeagffdijcoaaTrK
import Derived.Test.YtfjeagffdijcoaaTrJ
namespace Go.Proofs.Ytfjeagffdijcoaa
open Go.RowKit Go.Shelf

theorem ordI0 : ordI 0 = TI.cmpI := by
  funext a b
  rw [ordI_0 0 a b (by decide) (by decide) (by decide)]
  unfold TI.cmpI
  (repeat' split) <;> omega

/-- a map of the program's and one of the reference's that hold the same pairs, and lie apart -/
structure Both (W : World) (B M g : Nat) (cb : Array Value) (T : Tr Int Int) (R : Nat) (which : Int) (kv vv : Value) (l : List (Int × Int)) : Prop where
  mp : TI.IsMap W M g cb T
  rf : IsRef W B R which kv vv l
  pr : T.pairs = l
  up : Up (ordI which) l
  mB : B ≤ M
  tB : ∀ x ∈ T.blocks, B ≤ x
  rB : ∀ x, footR R kv vv x → B ≤ x
  apart : ∀ x, footR R kv vv x → x ≠ M ∧ x ∉ T.blocks

/-- the blocks that both are in -/
def footB (M : Nat) (T : Tr Int Int) (R : Nat) (kv vv : Value) (x : Nat) : Prop := (x = M ∨ x ∈ T.blocks) ∨ footR R kv vv x

namespace Both
variable {W W1 W2 : World} {B M g : Nat} {cb : Array Value} {T T' : Tr Int Int} {R : Nat} {which : Int} {kv vv kv' vv' : Value} {l l' : List (Int × Int)} {S : Nat → Prop}
theorem many (h : Both W B M g cb T R which kv vv l) : T.many = l.length := by rw [Tr.many_pairs, h.pr]
theorem ge (h : Both W B M g cb T R which kv vv l) : ∀ x, footB M T R kv vv x → B ≤ x := by
  rintro x ((rfl | hx) | hx)
  · exact h.mB
  · exact h.tB x hx
  · exact h.rB x hx
theorem lt (h : Both W B M g cb T R which kv vv l) : ∀ x, footB M T R kv vv x → x < W.heap.size := by
  rintro x ((rfl | hx) | hx)
  · exact h.mp.lt
  · exact h.mp.held.lt x hx
  · exact h.rf.foot_lt x hx
theorem wrote (h : Both W B M g cb T R which kv vv l) (hw : Wrote S W W1) (hs : ∀ x, footB M T R kv vv x → ¬ S x) : Both W1 B M g cb T R which kv vv l :=
  ⟨h.mp.wrote hw (hs M (.inl (.inl rfl))) (fun x hx => hs x (.inl (.inr hx))), h.rf.wrote hw (fun x hx => hs x (.inr hx)), h.pr, h.up, h.mB, h.tB, h.rB, h.apart⟩
theorem below (h : Both W B M g cb T R which kv vv l) (hb : Below W.heap.size W W1) : Both W1 B M g cb T R which kv vv l := h.wrote (S := fun _ => False) (Wrote.below hb) (fun _ _ => id)
theorem drewN (h : Both W B M g cb T R which kv vv l) (q : Nat) : Both (W.drewN q) B M g cb T R which kv vv l := h.wrote (S := fun _ => False) ((Wrote.refl _ W).drewN q) (fun _ _ => id)

/-- behind the program's own call: the reference's lies as it lay -/
theorem ref1 (h : Both W B M g cb T R which kv vv l) (hw : Wrote (fun x => x = M ∨ x ∈ T.blocks) W W1) : IsRef W1 B R which kv vv l :=
  h.rf.wrote hw (fun x hx e => by
    obtain ⟨h1, h2⟩ := h.apart x hx
    rcases e with e | e
    · exact h1 e
    · exact h2 e)
/-- behind both calls -/
theorem step (h : Both W B M g cb T R which kv vv l) (hm : TI.IsMap W1 M g cb T') (hw : Wrote (fun x => x = M ∨ x ∈ T.blocks) W W1) (hT : ∀ x ∈ T'.blocks, x ∈ T.blocks ∨ W.heap.size ≤ x) (hB : B ≤ W.heap.size)
    (hr : IsRef W2 B R which kv' vv' l') (hw2 : Wrote (footR R kv vv) W1 W2) (hf : ∀ x, footR R kv' vv' x → footR R kv vv x ∨ W1.heap.size ≤ x) (hp : T'.pairs = l') (hu : Up (ordI which) l') :
    Both W2 B M g cb T' R which kv' vv' l' ∧ Wrote (footB M T R kv vv) W W2 ∧ (∀ x, footB M T' R kv' vv' x → footB M T R kv vv x ∨ W.heap.size ≤ x) := by
  have hnT : ∀ x ∈ T'.blocks, ¬ footR R kv vv x := fun x hx hf' => by
    rcases hT x hx with e | e
    · exact (h.apart x hf').2 e
    · have := h.rf.foot_lt x hf'; omega
  have hnM : ¬ footR R kv vv M := fun hf' => (h.apart M hf').1 rfl
  have hM := hm.wrote hw2 hnM hnT
  have hsz := hw.size
  have hap : ∀ x, footR R kv' vv' x → x ≠ M ∧ x ∉ T'.blocks := fun x hx => by
    rcases hf x hx with e | e
    · exact ⟨(h.apart x e).1, fun hx' => hnT x hx' e⟩
    · exact ⟨fun e' => by have := hm.lt; omega, fun hx' => by have := hm.held.lt x hx'; omega⟩
  refine ⟨⟨hM, hr, hp, hu, h.mB, fun x hx => ?_, fun x hx => ?_, hap⟩, ?_, ?_⟩
  · rcases hT x hx with e | e
    · exact h.tB x e
    · omega
  · rcases hf x hx with e | e
    · exact h.rB x e
    · omega
  · exact (hw.mono (fun x hx => .inl hx)).step hw2 (fun x hx => .inl (.inr hx))
  · rintro x ((rfl | hx) | hx)
    · exact .inl (.inl (.inl rfl))
    · rcases hT x hx with e | e
      · exact .inl (.inl (.inr e))
      · exact .inr e
    · rcases hf x hx with e | e
      · exact .inl (.inr e)
      · exact .inr (by omega)
end Both

set_option maxRecDepth 100000 in
set_option maxHeartbeats 2000000 in
/-- a map of the program's and the reference's with these keys; some taken out again -/
theorem filled_any (w : World) (A : Option Addr) (n c : Nat) (ks : List Int) (A' : Option Addr) (n' c' : Nat) (os : List Int) (hl : ks.length = n) (hn : n * 8 ≤ 140737488351232) (hR : Ints w.heap.size w A ks) (hl' : os.length = n') (hn' : n' * 8 ≤ 140737488351232) (hR' : Ints w.heap.size w A' os) :
    Calls Try.prog 20 #[.slice A n c, .slice A' n' c'] w fun e w' =>
      ∃ M T R kv vv l, e = .returned (.tuple #[.pointer (some ⟨M, 0, none⟩), .pointer (some ⟨R, 0, none⟩)]) ∧ Both w' w.heap.size M 76 #[] T R 0 kv vv l ∧ Below w.heap.size w w' ∧ l.length ≤ n := by
  subst hl
  subst hl'
  have hord : TI.OrdFn 76 #[] (ordI 0) (fun _ => True) (fun _ => False) := by rw [ordI0]; exact TI.cmp_fn
  obtain ⟨B0, hB0⟩ : ∃ B0, B0 = w.heap.size := ⟨_, rfl⟩
  have hRb := hR
  have hRb' := hR'
  rw [← hB0] at hRb hRb'
  rw [← hB0]
  have HR := hid hRb
  have HR' := hid hRb'
  have HB0 := hid hB0
  clear hR hR' hRb hRb' hB0
  go_enter Try.func20, Try.ntmps20
  go_wp2_with fail
  refine (TI.newOrdered_any w).mono ?_
  rintro e w1 ⟨rfl, hM, hb⟩
  obtain ⟨M, hMe⟩ : ∃ M, M = w.heap.size := ⟨_, rfl⟩
  rw [← hMe] at hM ⊢
  have hw1 := hb.size
  have HM := hid hM
  have hB1 : Below B0 w w1 := by rw [HB0.out]; exact hb
  have HB1 := hid hB1
  have HMe := hid hMe
  clear hb hM hB1 hMe
  go_wp2_with fail
  obtain ⟨W, hW⟩ : ∃ W, W = w1.alloc (.cells #[.int .i64 0, .slice none 0 0, .slice none 0 0] 36) := ⟨_, rfl⟩
  obtain ⟨R, hRe⟩ : ∃ R, R = w1.heap.size := ⟨_, rfl⟩
  have hBB : Below w1.heap.size w1 W := by rw [hW]; exact (Below.refl _ w1).alloc (Nat.le_refl _) _
  have hRf : IsRef W B0 R 0 (.slice none 0 0) (.slice none 0 0) [] := by
    rw [hW, hRe]
    refine ⟨by simp, by simp, by simp, fun j => World.frozen?_alloc_new w1 _ _ j, World.ownsRow_nil _ _ _ _, World.ownsRow_nil _ _ _ _, fun e => (by cases e), fun e => (by cases e), fun _ e => (by cases e)⟩
  have hft : ∀ x, footR R (.slice none 0 0) (.slice none 0 0) x → x = R := by
    rintro x (h | h | h)
    · exact h
    · cases h
    · cases h
  have hBoth : Both W B0 M 76 #[] .nil R 0 (.slice none 0 0) (.slice none 0 0) [] :=
    ⟨HM.out.below hBB, hRf, rfl, List.Pairwise.nil, by rw [HMe.out, HB0.out]; exact Nat.le_refl _, fun x hx => (by cases hx), fun x hx => (by rw [hft x hx, hRe, HB0.out]; exact hw1), fun x hx => by
      rw [hft x hx]
      exact ⟨by have := HM.out.lt; omega, fun h => by cases h⟩⟩
  have hB2 : Below B0 w W := HB1.out.trans (hBB.mono (by rw [HB0.out]; exact hw1))
  rw [← hW, ← hRe]
  have HBoth := hid hBoth
  have HB2 := hid hB2
  clear hBoth hB2 hRf hft hBB hW hRe HM HB1
  go_loopg [8] ks.length (fun gx si wr => ∃ (i : Nat) (T : Tr Int Int) (kv vv : Value) (l : List (Int × Int)), si = .int .i64 i ∧ i ≤ ks.length ∧ ks.length - i ≤ gx ∧ l.length ≤ i ∧ Hid (Both wr B0 M 76 #[] T R 0 kv vv l) ∧ Hid (Below B0 w wr))
  case atStart => exact ⟨0, .nil, _, _, [], rfl, Nat.zero_le _, Nat.le_refl _, Nat.le_refl _, HBoth, HB2⟩
  case round =>
    clear HBoth HB2
    obtain ⟨i, T, kv, vv, l, rfl, hi, hg, hll, HT, HBr⟩ := hrel
    by_cases hlt : i < ks.length
    · have hii : (i : Int) < (ks.length : Int) := by omega
      have hwi : IntKind.i64.wrap ((i : Int) + 1) = (i : Int) + 1 := wrap_small _ (by omega) (by omega)
      obtain ⟨b, off, x, hx, rfl, hb, hc0⟩ := HR.out.at' i hlt
      have hc := Tfact' HBr.out (a := ⟨b, _, none⟩) hb hc0
      have hml := HT.out.many
      have hput := TI.mapPut_any 76 #[] (ordI 0) (fun _ => True) (fun _ => False) hord wr M T x (i : Int) HT.out.mp (by omega) trivial (fun _ _ => id) id
      have HPUT := hid hput
      have hsr : B0 ≤ wr.heap.size := by have := HBr.out.size; have := HB0.out; omega
      clear hput
      go_wp2_with fail
      refine HPUT.out.mono ?_
      rintro e w2 ⟨nb, g1, rfl, g2, g3, -⟩
      have hB3 : Below B0 w w2 := HBr.out.trans (g3.toBelow' hsr (fun x hx => HT.out.ge x (.inl hx)))
      have hc2 := Tfact' hB3 (a := ⟨b, _, none⟩) hb hc0
      have hrf := HT.out.ref1 g3
      have hs2 := g3.size
      have hrp := refPut_any w2 B0 R 0 kv vv l x (i : Int) hrf HT.out.up (by omega) (by omega)
      have HRP := hid hrp
      have G2 := hid g2
      have G3 := hid g3
      have HB3 := hid hB3
      clear hrp g2 g3 hB3 hrf HPUT
      go_wp2_with fail
      refine HRP.out.mono ?_
      rintro e w3 ⟨kv', vv', rfl, k1, k2, k3⟩
      have hpp : (Tr.put (ordI 0) x (i : Int) nb T).pairs = putL (ordI 0) x (i : Int) l := by rw [Tr.put_pairs (ordI_ord 0) _ _ _ (by rw [HT.out.pr]; exact HT.out.up), HT.out.pr]
      obtain ⟨s1, s2, s3⟩ := HT.out.step G2.out G3.out (fun y hy => (Tr.put_mem _ _ nb T y hy).elim (fun e => .inr (by omega)) .inl) hsr k1 k2 k3 hpp (putL_up (ordI_ord 0) _ _ HT.out.up)
      have hlen : (putL (ordI 0) x (i : Int) l).length ≤ l.length + 1 := by
        rw [← hpp, ← Tr.many_pairs]
        have := Tr.put_many (c := ordI 0) x (i : Int) nb T
        omega
      have HS1 := hid s1
      have hB4 : Below B0 w w3 := HBr.out.trans (s2.toBelow' hsr HT.out.ge)
      have HB4 := hid hB4
      clear s1 s2 s3 k1 k2 k3 hpp G2 G3 HB3 HRP hB4
      go_wp2_with fail
      go_roundg (ks.length - (i + 1))
      case measure => omega
      case rel => exact ⟨i + 1, _, _, _, _, by go_num, hlt, Nat.le_refl _, by omega, HS1, HB4⟩
    · obtain rfl : i = ks.length := by omega
      have hii : ¬ ((ks.length : Int) < (ks.length : Int)) := by omega
      go_wp2_with fail
      go_loopg [9] os.length (fun gx si wr => ∃ (i : Nat) (T : Tr Int Int) (kv vv : Value) (l : List (Int × Int)), si = .int .i64 i ∧ i ≤ os.length ∧ os.length - i ≤ gx ∧ l.length ≤ ks.length ∧ Hid (Both wr B0 M 76 #[] T R 0 kv vv l) ∧ Hid (Below B0 w wr))
      case atStart => exact ⟨0, T, _, _, l, rfl, Nat.zero_le _, Nat.le_refl _, hll, HT, HBr⟩
      case round =>
        clear HT HBr
        obtain ⟨i, T, kv, vv, l, rfl, hi, hg, hll, HT, HBr⟩ := hrel
        by_cases hlt : i < os.length
        · have hii : (i : Int) < (os.length : Int) := by omega
          have hwi : IntKind.i64.wrap ((i : Int) + 1) = (i : Int) + 1 := wrap_small _ (by omega) (by omega)
          obtain ⟨b, off, x, hx, rfl, hb, hc0⟩ := HR'.out.at' i hlt
          have hc := Tfact' HBr.out (a := ⟨b, _, none⟩) hb hc0
          have hml := HT.out.many
          have hput := TI.mapDelete_any 76 #[] (ordI 0) (fun _ => True) (fun _ => False) hord wr M T x HT.out.mp (by omega) trivial (fun _ _ => id) id
          have HPUT := hid hput
          have hsr : B0 ≤ wr.heap.size := by have := HBr.out.size; have := HB0.out; omega
          clear hput
          go_wp2_with fail
          refine HPUT.out.mono ?_
          rintro e w2 ⟨rfl, g2, g3, -⟩
          have hB3 : Below B0 w w2 := HBr.out.trans (g3.toBelow' hsr (fun x hx => HT.out.ge x (.inl hx)))
          have hc2 := Tfact' hB3 (a := ⟨b, _, none⟩) hb hc0
          have hrf := HT.out.ref1 g3
          have hs2 := g3.size
          have hrp := refDelete_any w2 B0 R 0 kv vv l x hrf HT.out.up (by omega) (by omega)
          have HRP := hid hrp
          have G2 := hid g2
          have G3 := hid g3
          have HB3 := hid hB3
          clear hrp g2 g3 hB3 hrf HPUT
          go_wp2_with fail
          refine HRP.out.mono ?_
          rintro e w3 ⟨kv', vv', rfl, k1, k2, k3⟩
          have hpp : (Tr.cut (ordI 0) x T).pairs = cutP (ordI 0) x l := by rw [Tr.cut_pairs (ordI_ord 0) _ HT.out.mp.bal (by rw [HT.out.pr]; exact HT.out.up), HT.out.pr]
          obtain ⟨s1, s2, s3⟩ := HT.out.step G2.out G3.out (fun y hy => .inl (Tr.cut_blocks _ HT.out.mp.bal y hy)) hsr k1 k2 k3 hpp (cutP_up _ HT.out.up)
          have hlen : (cutP (ordI 0) x l).length ≤ l.length := (cutP_sub x l).length_le
          have HS1 := hid s1
          have hB4 : Below B0 w w3 := HBr.out.trans (s2.toBelow' hsr HT.out.ge)
          have HB4 := hid hB4
          clear s1 s2 s3 k1 k2 k3 hpp G2 G3 HB3 HRP hB4
          go_wp2_with fail
          go_roundg (os.length - (i + 1))
          case measure => omega
          case rel => exact ⟨i + 1, _, _, _, _, by go_num, hlt, Nat.le_refl _, by omega, HS1, HB4⟩
        · obtain rfl : i = os.length := by omega
          have hii : ¬ ((os.length : Int) < (os.length : Int)) := by omega
          go_wp2_with fail
          refine bodyPost_ret (results_tmp2 rfl _ _ _) rfl ?_
          first | exact ⟨M, T, R, rfl, kv, vv, l, HT.out, HBr.out, hll⟩ | exact ⟨M, R, rfl, T, kv, vv, l, HT.out, HBr.out, hll⟩ | exact ⟨M, T, R, kv, vv, l, rfl, HT.out, HBr.out, hll⟩
end Go.Proofs.Ytfjeagffdijcoaa
