/- Layer 7: the walk of walk: ints. -/
import Derived.Test.YtfjeagffdijcoaaTrF
import Derived.Stop.RegionWithIn
namespace Go.Proofs.Ytfjeagffdijcoaa
open Go.RowKit Go.Shelf
attribute [local go_sem] Oper.semAt_some

theorem room_none {F : Fence} (hd : F.depth = none) (k : Nat) : F.room k := fun d h => by rw [hd] at h; cases h
theorem round_any {F : Fence} (hd : F.depth = none) {m m' : Nat} {P : Program} {l : Nat} {f : FuncId} {tmps : Array Value} {assign body : Code} {w : World} {R : Ending → World → Prop}
    (h : RoundIn F m P l f tmps assign body w R) : RoundIn F m' P l f tmps assign body w R := ⟨h.1, fun c cs _ => h.2 c cs (room_none hd _)⟩
theorem yield_any {F : Fence} (hd : F.depth = none) {m : Nat} (m' : Nat) {P : Program} {l : Nat} {args : Array Value} {W : World} {R : Ending → World → Prop} (h : YieldAt F m P l args W R) : YieldAt F m' P l args W R := by
  obtain ⟨fn, tmps, assign, body, hy, hR⟩ := h
  exact ⟨fn, tmps, assign, body, hy, round_any hd hR⟩

/-- these blocks lie as they lay -/
def KeepsT (P : Nat → Prop) (W W' : World) : Prop := ∀ k, P k → W'.heap[k]? = W.heap[k]?
theorem keepsT_refl (P : Nat → Prop) (A : World) : KeepsT P A A := fun _ _ => rfl
theorem keepsT_t {P : Nat → Prop} {A B C : World} (h : KeepsT P A B) (k : KeepsT P B C) : KeepsT P A C := fun i hi => (k i hi).trans (h i hi)
theorem keepsT_cell {P : Nat → Prop} {A B : World} (h : KeepsT P A B) {p : Addr} (hp : P p.block) : B.cell? p = A.cell? p := World.cell?_of_block (w := A) (h p.block hp)
theorem Held.keeps {κ ν : Type} {ek : κ → Value} {ev : ν → Value} {P : Nat → Prop} {A B : World} {t : Tr κ ν} (h : Held ek ev A t) (hk : KeepsT P A B) (hp : ∀ x ∈ t.blocks, P x) : Held ek ev B t := by
  induction t with
  | nil => trivial
  | node b l k v r hl hr =>
    obtain ⟨h1, h2, h3⟩ := h
    have hb := hp b (by simp [Tr.blocks])
    exact ⟨⟨(keepsT_cell hk hb).trans h1.c0, (keepsT_cell hk hb).trans h1.c1, (keepsT_cell hk hb).trans h1.c2, (keepsT_cell hk hb).trans h1.c3, (keepsT_cell hk hb).trans h1.c4, (keepsT_cell hk hb).trans h1.c5,
      fun j => (World.frozen?_of_block (a := ⟨b, j, none⟩) (hk b hb)).trans (h1.fz j)⟩, hl h2 (fun x hx => hp x (by simp [Tr.blocks, hx])), hr h3 (fun x hx => hp x (by simp [Tr.blocks, hx]))⟩

namespace TI
set_option maxRecDepth 100000 in
set_option maxHeartbeats 4000000 in
theorem walkEach_in (l N : Nat) (P : Nat → Prop) (J Jx : List (Int × Int) → World → Prop)
    (hY : ∀ m pre x W, J pre W → pre.length < N → YieldAt Fence.wide m Try.prog l #[.int .i64 x.1, .int .i64 x.2] W fun e W' =>
      (e = .returned (.bool true) ∧ J (pre ++ [x]) W' ∧ KeepsT P W W') ∨ (e = .returned (.bool false) ∧ Jx (pre ++ [x]) W')) (hJd : ∀ pre W q, J pre W → J pre (W.drewN q)) (T : Tr Int Int) :
    ∀ (n : Nat) (pre : List (Int × Int)) (W : World), Held ek ev W T → (∀ x ∈ T.blocks, P x) → J pre W → pre.length + T.pairs.length ≤ N →
      CallsIn Fence.wide n Try.prog 79 #[T.ptr, .func (.yield l) #[] #[]] W fun e W' =>
        (e = .returned (.bool true) ∧ J (pre ++ T.pairs) W' ∧ KeepsT P W W') ∨ (e = .returned (.bool false) ∧ ∃ q, q <+: T.pairs ∧ Jx (pre ++ q) W') := by
  induction T with
  | nil =>
    intro n pre W ht _ hJ _
    show CallsIn _ _ _ _ #[.pointer none, _] _ _
    refine callsIn_of_wp Try.func79 rfl trivial ?_ rfl
    simp only [Try.ntmps79, List.size_toArray, List.length_cons, List.length_nil, Nat.reduceAdd, Nat.reduceSub, Array.replicate_succ, Array.replicate_zero, List.push_toArray, List.append_toArray, List.nil_append, List.cons_append]
    gi_wp2
    refine wpIn_region_any (by kernel_rfl) ?_
    try (change wpAnyIn _ _ _ _ _ _ _ _ _ (World.drew _))
    refine wpAnyIn_take (i := 0) (v := ?_) rfl rfl (by kernel_rfl) (by kernel_rfl) (by kernel_rfl) (fun _ _ _ h => h) ⟨Or.inl ⟨by first | kernel_rfl | rfl, ?_⟩, fun _ => rfl⟩ ?_
    rotate_left 1
    · (intro w; go_simp) <;> (with_reducible rfl)
    refine wpAnyIn_take (i := 1) (v := ?_) rfl rfl (by kernel_rfl) (by kernel_rfl) (by kernel_rfl) (fun _ _ _ h => h) ⟨Or.inl ⟨by first | kernel_rfl | rfl, ?_⟩, fun _ => rfl⟩ ?_
    rotate_left 1
    · (intro w; go_simp) <;> (with_reducible rfl)
    refine wpAnyIn_take (i := 2) (v := ?_) rfl rfl (by kernel_rfl) (by kernel_rfl) (by kernel_rfl) (fun _ _ _ h => h) ⟨Or.inl ⟨by first | kernel_rfl | rfl, ?_⟩, fun _ => rfl⟩ ?_
    rotate_left 1
    · (intro w; go_simp) <;> (with_reducible rfl)
    refine wpAnyIn_take (i := 3) (v := undef) rfl rfl (by kernel_rfl) (by kernel_rfl) (by kernel_rfl) (fun _ _ _ h => h) ⟨Or.inr ⟨by first | kernel_rfl | rfl, rfl⟩, fun _ => rfl⟩ ?_
    refine wpAnyIn_take (i := 4) (v := undef) rfl rfl (by kernel_rfl) (by kernel_rfl) (by kernel_rfl) (fun _ _ _ h => h) ⟨Or.inr ⟨by first | kernel_rfl | rfl, rfl⟩, fun _ => rfl⟩ ?_
    refine wpAnyIn_take (i := 5) (v := undef) rfl rfl (by kernel_rfl) (by kernel_rfl) (by kernel_rfl) (fun _ _ _ h => h) ⟨Or.inr ⟨by first | kernel_rfl | rfl, rfl⟩, fun _ => rfl⟩ ?_
    refine wpAnyIn_take (i := 7) (v := undef) rfl rfl (by kernel_rfl) (by kernel_rfl) (by kernel_rfl) (fun _ _ _ h => h) ⟨Or.inr ⟨by first | kernel_rfl | rfl, rfl⟩, fun _ => rfl⟩ ?_
    refine wpAnyIn_take (i := 6) (v := undef) rfl rfl (by kernel_rfl) (by kernel_rfl) (by kernel_rfl) (fun _ _ _ h => h) ⟨Or.inr ⟨by first | kernel_rfl | rfl, rfl⟩, fun _ => rfl⟩ ?_
    refine wpAnyIn_ready (rs := [8]) (by kernel_rfl) (by simp) ?_
    refine AllReadyIn.cons rfl (fun K hK => ?_) AllReadyIn.nil
    go_simp
    refine ⟨trivial, ?_⟩
    refine hK _ _ ?_
    clear hK K
    refine wpAnyIn_take (i := 9) (v := undef) rfl rfl (by kernel_rfl) (by kernel_rfl) (by kernel_rfl) (fun _ _ _ h => h) ⟨Or.inr ⟨by first | kernel_rfl | rfl, rfl⟩, fun _ => rfl⟩ ?_
    refine wpAnyIn_take (i := 10) (v := undef) rfl rfl (by kernel_rfl) (by kernel_rfl) (by kernel_rfl) (fun _ _ _ h => h) ⟨Or.inr ⟨by first | kernel_rfl | rfl, rfl⟩, fun _ => rfl⟩ ?_
    refine wpAnyIn_take (i := 11) (v := undef) rfl rfl (by kernel_rfl) (by kernel_rfl) (by kernel_rfl) (fun _ _ _ h => h) ⟨Or.inr ⟨by first | kernel_rfl | rfl, rfl⟩, fun _ => rfl⟩ ?_
    refine wpAnyIn_take (i := 12) (v := undef) rfl rfl (by kernel_rfl) (by kernel_rfl) (by kernel_rfl) (fun _ _ _ h => h) ⟨Or.inr ⟨by first | kernel_rfl | rfl, rfl⟩, fun _ => rfl⟩ ?_
    refine wpAnyIn_take (i := 13) (v := undef) rfl rfl (by kernel_rfl) (by kernel_rfl) (by kernel_rfl) (fun _ _ _ h => h) ⟨Or.inr ⟨by first | kernel_rfl | rfl, rfl⟩, fun _ => rfl⟩ ?_
    refine wpAnyIn_take (i := 14) (v := undef) rfl rfl (by kernel_rfl) (by kernel_rfl) (by kernel_rfl) (fun _ _ _ h => h) ⟨Or.inr ⟨by first | kernel_rfl | rfl, rfl⟩, fun _ => rfl⟩ ?_
    refine wpAnyIn_take (i := 15) (v := undef) rfl rfl (by kernel_rfl) (by kernel_rfl) (by kernel_rfl) (fun _ _ _ h => h) ⟨Or.inr ⟨by first | kernel_rfl | rfl, rfl⟩, fun _ => rfl⟩ ?_
    refine wpAnyIn_take (i := 16) (v := undef) rfl rfl (by kernel_rfl) (by kernel_rfl) (by kernel_rfl) (fun _ _ _ h => h) ⟨Or.inr ⟨by first | kernel_rfl | rfl, rfl⟩, fun _ => rfl⟩ ?_
    refine wpAnyIn_take (i := 17) (v := undef) rfl rfl (by kernel_rfl) (by kernel_rfl) (by kernel_rfl) (fun _ _ _ h => h) ⟨Or.inr ⟨by first | kernel_rfl | rfl, rfl⟩, fun _ => rfl⟩ ?_
    refine wpAnyIn_take (i := 18) (v := undef) rfl rfl (by kernel_rfl) (by kernel_rfl) (by kernel_rfl) (fun _ _ _ h => h) ⟨Or.inr ⟨by first | kernel_rfl | rfl, rfl⟩, fun _ => rfl⟩ ?_
    refine wpAnyIn_ready (rs := [19]) (by kernel_rfl) (by simp) ?_
    refine AllReadyIn.cons rfl (fun K hK => ?_) AllReadyIn.nil
    go_simp
    refine ⟨fun _ h => (by cases h), ?_⟩
    refine hK _ _ ?_
    clear hK K
    refine wpAnyIn_take (i := 20) (v := undef) rfl rfl (by kernel_rfl) (by kernel_rfl) (by kernel_rfl) (fun _ _ _ h => h) ⟨Or.inr ⟨by first | kernel_rfl | rfl, rfl⟩, fun _ => rfl⟩ ?_
    refine wpAnyIn_take (i := 21) (v := undef) rfl rfl (by kernel_rfl) (by kernel_rfl) (by kernel_rfl) (fun _ _ _ h => h) ⟨Or.inr ⟨by first | kernel_rfl | rfl, rfl⟩, fun _ => rfl⟩ ?_
    refine wpAnyIn_take (i := 22) (v := undef) rfl rfl (by kernel_rfl) (by kernel_rfl) (by kernel_rfl) (fun _ _ _ h => h) ⟨Or.inr ⟨by first | kernel_rfl | rfl, rfl⟩, fun _ => rfl⟩ ?_
    refine wpAnyIn_take (i := 23) (v := undef) rfl rfl (by kernel_rfl) (by kernel_rfl) (by kernel_rfl) (fun _ _ _ h => h) ⟨Or.inr ⟨by first | kernel_rfl | rfl, rfl⟩, fun _ => rfl⟩ ?_
    refine wpAnyIn_take (i := 24) (v := undef) rfl rfl (by kernel_rfl) (by kernel_rfl) (by kernel_rfl) (fun _ _ _ h => h) ⟨Or.inr ⟨by first | kernel_rfl | rfl, rfl⟩, fun _ => rfl⟩ ?_
    refine wpAnyIn_take (i := 26) (v := undef) rfl rfl (by kernel_rfl) (by kernel_rfl) (by kernel_rfl) (fun _ _ _ h => h) ⟨Or.inr ⟨by first | kernel_rfl | rfl, rfl⟩, fun _ => rfl⟩ ?_
    refine wpAnyIn_take (i := 25) (v := undef) rfl rfl (by kernel_rfl) (by kernel_rfl) (by kernel_rfl) (fun _ _ _ h => h) ⟨Or.inr ⟨by first | kernel_rfl | rfl, rfl⟩, fun _ => rfl⟩ ?_
    refine wpAnyIn_ready (rs := [27]) (by kernel_rfl) (by simp) ?_
    refine AllReadyIn.cons rfl (fun K hK => ?_) AllReadyIn.nil
    go_simp
    refine ⟨trivial, ?_⟩
    refine hK _ _ ?_
    clear hK K
    refine wpAnyIn_take (i := 28) (v := undef) rfl rfl (by kernel_rfl) (by kernel_rfl) (by kernel_rfl) (fun _ _ _ h => h) ⟨Or.inr ⟨by first | kernel_rfl | rfl, rfl⟩, fun _ => rfl⟩ ?_
    refine wpAnyIn_take (i := 29) (v := ?_) rfl rfl (by kernel_rfl) (by kernel_rfl) (by kernel_rfl) (fun _ _ _ h => h) ⟨Or.inl ⟨by first | kernel_rfl | rfl, ?_⟩, fun _ => rfl⟩ ?_
    rotate_left 1
    · (intro w; go_simp) <;> (with_reducible rfl)
    refine wpAnyIn_take (i := 30) (v := ?_) rfl rfl (by kernel_rfl) (by kernel_rfl) (by kernel_rfl) (fun _ _ _ h => h) ⟨Or.inl ⟨by first | kernel_rfl | rfl, ?_⟩, fun _ => rfl⟩ ?_
    rotate_left 1
    · (intro w; go_simp) <;> (with_reducible rfl)
    refine wpAnyIn_done (by kernel_rfl) ?_ _
    gi_wp2
    go_ret
    exact .inl ⟨rfl, (by show J (pre ++ []) _; rw [List.append_nil]; exact hJd _ _ 1 hJ), fun _ _ => rfl⟩
  | node b tl k v tr ihl ihr =>
    intro n pre W ht hP hJ hN
    have HI1 := hid (ihl (n - 1) pre W.drew (ht.2.1.drewN 1) (fun x hx => hP x (by simp [Tr.blocks, hx])) (hJd _ _ 1 hJ) (by simp only [Tr.pairs, List.length_append, List.length_cons] at hN; omega))
    have c2 := ht.1.c2
    have HT := hid ht
    have HP := hid hP
    have HJ := hid hJ
    have HN := hid hN
    have IR := hid ihr
    have HY := hid hY
    clear ht hP hJ hN ihl ihr
    show CallsIn _ _ _ _ #[.pointer (some ⟨b, 0, none⟩), _] _ _
    refine callsIn_of_wp Try.func79 rfl trivial ?_ rfl
    simp only [Try.ntmps79, List.size_toArray, List.length_cons, List.length_nil, Nat.reduceAdd, Nat.reduceSub, Array.replicate_succ, Array.replicate_zero, List.push_toArray, List.append_toArray, List.nil_append, List.cons_append]
    gi_wp2
    refine wpIn_region_any (by kernel_rfl) ?_
    try (change wpAnyIn _ _ _ _ _ _ _ _ _ (World.drew _))
    refine wpAnyIn_take (i := 0) (v := ?_) rfl rfl (by kernel_rfl) (by kernel_rfl) (by kernel_rfl) (fun _ _ _ h => h) ⟨Or.inl ⟨by first | kernel_rfl | rfl, ?_⟩, fun _ => rfl⟩ ?_
    rotate_left 1
    · (intro w; go_simp) <;> (with_reducible rfl)
    refine wpAnyIn_take (i := 1) (v := ?_) rfl rfl (by kernel_rfl) (by kernel_rfl) (by kernel_rfl) (fun _ _ _ h => h) ⟨Or.inl ⟨by first | kernel_rfl | rfl, ?_⟩, fun _ => rfl⟩ ?_
    rotate_left 1
    · (intro w; go_simp) <;> (with_reducible rfl)
    refine wpAnyIn_take (i := 2) (v := ?_) rfl rfl (by kernel_rfl) (by kernel_rfl) (by kernel_rfl) (fun _ _ _ h => h) ⟨Or.inl ⟨by first | kernel_rfl | rfl, ?_⟩, fun _ => rfl⟩ ?_
    rotate_left 1
    · (intro w; go_simp) <;> (with_reducible rfl)
    refine wpAnyIn_take (i := 3) (v := ?_) rfl rfl (by kernel_rfl) (by kernel_rfl) (by kernel_rfl) (fun _ _ _ h => h) ⟨Or.inl ⟨by first | kernel_rfl | rfl, ?_⟩, fun _ => rfl⟩ ?_
    rotate_left 1
    · (intro w; go_simp) <;> (with_reducible rfl)
    refine wpAnyIn_take (i := 4) (v := ?_) rfl rfl (by kernel_rfl) (by kernel_rfl) (by kernel_rfl) (fun _ _ _ h => h) ⟨Or.inl ⟨by first | kernel_rfl | rfl, ?_⟩, fun _ => rfl⟩ ?_
    rotate_left 1
    · (intro w; go_simp) <;> (with_reducible rfl)
    refine wpAnyIn_take (i := 5) (v := ?_) rfl rfl (by kernel_rfl) (by kernel_rfl) (by kernel_rfl) (fun _ _ _ h => h) ⟨Or.inl ⟨by first | kernel_rfl | rfl, ?_⟩, fun _ => rfl⟩ ?_
    rotate_left 1
    · (intro w; go_simp) <;> (with_reducible rfl)
    refine wpAnyIn_take (i := 7) (v := ?_) rfl rfl (by kernel_rfl) (by kernel_rfl) (by kernel_rfl) (fun _ _ _ h => h) ⟨Or.inl ⟨by first | kernel_rfl | rfl, ?_⟩, fun _ => rfl⟩ ?_
    rotate_left 1
    · (intro w; go_simp) <;> (with_reducible rfl)
    refine wpAnyIn_ready (rs := [6]) (by kernel_rfl) (by simp) ?_
    refine AllReadyIn.cons rfl (fun K hK => ?_) AllReadyIn.nil
    go_simp
    refine hK _ _ ?_
    clear hK K
    refine wpAnyIn_ready (rs := [8]) (by kernel_rfl) (by simp) ?_
    refine AllReadyIn.cons rfl (fun K hK => ?_) AllReadyIn.nil
    go_simp
    refine ⟨trivial, fun h => (by cases h), ?_⟩
    refine HI1.out.mono ?_
    rintro e W1 (⟨rfl, hj1, hk1⟩ | ⟨rfl, q, hq, hx1⟩)
    all_goals refine hK _ _ ?_
    all_goals clear hK K
    · -- the left side has been gone through
      have HK1 := hid (keepsT_t (show KeepsT P W W.drew from fun _ _ => rfl) hk1)
      have hT1 := HT.out.keeps HK1.out HP.out
      have c0 := hT1.1.c0
      have c1 := hT1.1.c1
      obtain ⟨fn, tmps, assign, body, hy, hR⟩ := HY.out (n - 1) (pre ++ tl.pairs) (k, v) W1 hj1 (by have := HN.out; simp only [Tr.pairs, List.length_append, List.length_cons] at this ⊢; omega)
      have HR := hid hR
      have HT1 := hid hT1
      clear hk1 hj1 hT1 hR
      refine wpAnyIn_take (i := 9) (v := ?_) rfl rfl (by kernel_rfl) (by kernel_rfl) (by kernel_rfl) (fun _ _ _ h => h) ⟨Or.inl ⟨by first | kernel_rfl | rfl, ?_⟩, fun _ => rfl⟩ ?_
      rotate_left 1
      · (intro w; go_simp) <;> (with_reducible rfl)
      refine wpAnyIn_take (i := 10) (v := ?_) rfl rfl (by kernel_rfl) (by kernel_rfl) (by kernel_rfl) (fun _ _ _ h => h) ⟨Or.inl ⟨by first | kernel_rfl | rfl, ?_⟩, fun _ => rfl⟩ ?_
      rotate_left 1
      · (intro w; go_simp) <;> (with_reducible rfl)
      refine wpAnyIn_take (i := 11) (v := ?_) rfl rfl (by kernel_rfl) (by kernel_rfl) (by kernel_rfl) (fun _ _ _ h => h) ⟨Or.inl ⟨by first | kernel_rfl | rfl, ?_⟩, fun _ => rfl⟩ ?_
      rotate_left 1
      · (intro w; go_simp) <;> (with_reducible rfl)
      refine wpAnyIn_take (i := 12) (v := ?_) rfl rfl (by kernel_rfl) (by kernel_rfl) (by kernel_rfl) (fun _ _ _ h => h) ⟨Or.inl ⟨by first | kernel_rfl | rfl, ?_⟩, fun _ => rfl⟩ ?_
      rotate_left 1
      · (intro w; go_simp) <;> (with_reducible rfl)
      refine wpAnyIn_take (i := 13) (v := ?_) rfl rfl (by kernel_rfl) (by kernel_rfl) (by kernel_rfl) (fun _ _ _ h => h) ⟨Or.inl ⟨by first | kernel_rfl | rfl, ?_⟩, fun _ => rfl⟩ ?_
      rotate_left 1
      · (intro w; go_simp) <;> (with_reducible rfl)
      refine wpAnyIn_take (i := 15) (v := ?_) rfl rfl (by kernel_rfl) (by kernel_rfl) (by kernel_rfl) (fun _ _ _ h => h) ⟨Or.inl ⟨by first | kernel_rfl | rfl, ?_⟩, fun _ => rfl⟩ ?_
      rotate_left 1
      · (intro w; go_simp) <;> (with_reducible rfl)
      refine wpAnyIn_take (i := 16) (v := ?_) rfl rfl (by kernel_rfl) (by kernel_rfl) (by kernel_rfl) (fun _ _ _ h => h) ⟨Or.inl ⟨by first | kernel_rfl | rfl, ?_⟩, fun _ => rfl⟩ ?_
      rotate_left 1
      · (intro w; go_simp) <;> (with_reducible rfl)
      refine wpAnyIn_take (i := 17) (v := ?_) rfl rfl (by kernel_rfl) (by kernel_rfl) (by kernel_rfl) (fun _ _ _ h => h) ⟨Or.inl ⟨by first | kernel_rfl | rfl, ?_⟩, fun _ => rfl⟩ ?_
      rotate_left 1
      · (intro w; go_simp) <;> (with_reducible rfl)
      refine wpAnyIn_ready (rs := [14, 18]) (by kernel_rfl) (by simp) ?_
      refine AllReadyIn.cons rfl (fun K hK => ?_) (AllReadyIn.cons rfl (fun K hK => ?_) AllReadyIn.nil)
      · go_simp
        refine hK _ _ ?_
        clear hK K
        refine wpAnyIn_ready (rs := [18]) (by kernel_rfl) (by simp) ?_
        refine AllReadyIn.cons rfl (fun K hK => ?_) AllReadyIn.nil
        go_simp
        refine hK _ _ ?_
        clear hK K
        refine wpAnyIn_ready (rs := [19]) (by kernel_rfl) (by simp) ?_
        refine AllReadyIn.cons rfl (fun K hK => ?_) AllReadyIn.nil
        go_simp
        refine ⟨fun h => (by cases h), ?_⟩
        refine HR.out.mono ?_
        rintro e W2 (⟨rfl, hj2, hk2⟩ | ⟨rfl, hx2⟩)
        all_goals refine hK _ _ ?_
        all_goals clear hK K
        · -- the round goes on
          have HK2 := hid (keepsT_t HK1.out hk2)
          have hT2 := HT.out.keeps HK2.out HP.out
          have d3 := hT2.1.c3
          have HI3 := hid (IR.out (n - 1) (pre ++ tl.pairs ++ [(k, v)]) W2 hT2.2.2 (fun x hx => HP.out x (by simp [Tr.blocks, hx])) hj2 (by have := HN.out; simp only [Tr.pairs, List.length_append, List.length_cons, List.length_nil] at this ⊢; omega))
          clear hk2 hj2 hT2 c0 c1 hy
          refine wpAnyIn_take (i := 20) (v := ?_) rfl rfl (by kernel_rfl) (by kernel_rfl) (by kernel_rfl) (fun _ _ _ h => h) ⟨Or.inl ⟨by first | kernel_rfl | rfl, ?_⟩, fun _ => rfl⟩ ?_
          rotate_left 1
          · (intro w; go_simp) <;> (with_reducible rfl)
          refine wpAnyIn_take (i := 21) (v := ?_) rfl rfl (by kernel_rfl) (by kernel_rfl) (by kernel_rfl) (fun _ _ _ h => h) ⟨Or.inl ⟨by first | kernel_rfl | rfl, ?_⟩, fun _ => rfl⟩ ?_
          rotate_left 1
          · (intro w; go_simp) <;> (with_reducible rfl)
          refine wpAnyIn_take (i := 22) (v := ?_) rfl rfl (by kernel_rfl) (by kernel_rfl) (by kernel_rfl) (fun _ _ _ h => h) ⟨Or.inl ⟨by first | kernel_rfl | rfl, ?_⟩, fun _ => rfl⟩ ?_
          rotate_left 1
          · (intro w; go_simp) <;> (with_reducible rfl)
          refine wpAnyIn_take (i := 23) (v := ?_) rfl rfl (by kernel_rfl) (by kernel_rfl) (by kernel_rfl) (fun _ _ _ h => h) ⟨Or.inl ⟨by first | kernel_rfl | rfl, ?_⟩, fun _ => rfl⟩ ?_
          rotate_left 1
          · (intro w; go_simp) <;> (with_reducible rfl)
          refine wpAnyIn_take (i := 24) (v := ?_) rfl rfl (by kernel_rfl) (by kernel_rfl) (by kernel_rfl) (fun _ _ _ h => h) ⟨Or.inl ⟨by first | kernel_rfl | rfl, ?_⟩, fun _ => rfl⟩ ?_
          rotate_left 1
          · (intro w; go_simp) <;> (with_reducible rfl)
          refine wpAnyIn_take (i := 26) (v := ?_) rfl rfl (by kernel_rfl) (by kernel_rfl) (by kernel_rfl) (fun _ _ _ h => h) ⟨Or.inl ⟨by first | kernel_rfl | rfl, ?_⟩, fun _ => rfl⟩ ?_
          rotate_left 1
          · (intro w; go_simp) <;> (with_reducible rfl)
          refine wpAnyIn_ready (rs := [25]) (by kernel_rfl) (by simp) ?_
          refine AllReadyIn.cons rfl (fun K hK => ?_) AllReadyIn.nil
          go_simp
          refine hK _ _ ?_
          clear hK K
          refine wpAnyIn_ready (rs := [27]) (by kernel_rfl) (by simp) ?_
          refine AllReadyIn.cons rfl (fun K hK => ?_) AllReadyIn.nil
          go_simp
          refine ⟨trivial, fun h => (by cases h), ?_⟩
          refine HI3.out.mono ?_
          rintro e W3 (⟨rfl, hj3, hk3⟩ | ⟨rfl, q, hq, hx3⟩)
          all_goals refine hK _ _ ?_
          all_goals clear hK K
          · -- all has been gone through
            refine wpAnyIn_take (i := 28) (v := ?_) rfl rfl (by kernel_rfl) (by kernel_rfl) (by kernel_rfl) (fun _ _ _ h => h) ⟨Or.inl ⟨by first | kernel_rfl | rfl, ?_⟩, fun _ => rfl⟩ ?_
            rotate_left 1
            · (intro w; go_simp) <;> (with_reducible rfl)
            refine wpAnyIn_take (i := 29) (v := ?_) rfl rfl (by kernel_rfl) (by kernel_rfl) (by kernel_rfl) (fun _ _ _ h => h) ⟨Or.inl ⟨by first | kernel_rfl | rfl, ?_⟩, fun _ => rfl⟩ ?_
            rotate_left 1
            · (intro w; go_simp) <;> (with_reducible rfl)
            refine wpAnyIn_take (i := 30) (v := ?_) rfl rfl (by kernel_rfl) (by kernel_rfl) (by kernel_rfl) (fun _ _ _ h => h) ⟨Or.inl ⟨by first | kernel_rfl | rfl, ?_⟩, fun _ => rfl⟩ ?_
            rotate_left 1
            · (intro w; go_simp) <;> (with_reducible rfl)
            refine wpAnyIn_done (by kernel_rfl) ?_ _
            gi_wp2
            go_ret
            exact .inl ⟨rfl, by simpa [Tr.pairs, List.append_assoc] using hj3, keepsT_t HK2.out hk3⟩
          · -- the right side was cut short
            refine wpAnyIn_take (i := 28) (v := ?_) rfl rfl (by kernel_rfl) (by kernel_rfl) (by kernel_rfl) (fun _ _ _ h => h) ⟨Or.inl ⟨by first | kernel_rfl | rfl, ?_⟩, fun _ => rfl⟩ ?_
            rotate_left 1
            · (intro w; go_simp) <;> (with_reducible rfl)
            refine wpAnyIn_take (i := 29) (v := ?_) rfl rfl (by kernel_rfl) (by kernel_rfl) (by kernel_rfl) (fun _ _ _ h => h) ⟨Or.inl ⟨by first | kernel_rfl | rfl, ?_⟩, fun _ => rfl⟩ ?_
            rotate_left 1
            · (intro w; go_simp) <;> (with_reducible rfl)
            refine wpAnyIn_take (i := 30) (v := ?_) rfl rfl (by kernel_rfl) (by kernel_rfl) (by kernel_rfl) (fun _ _ _ h => h) ⟨Or.inl ⟨by first | kernel_rfl | rfl, ?_⟩, fun _ => rfl⟩ ?_
            rotate_left 1
            · (intro w; go_simp) <;> (with_reducible rfl)
            refine wpAnyIn_done (by kernel_rfl) ?_ _
            gi_wp2
            go_ret
            obtain ⟨r, hr'⟩ := hq
            exact .inr ⟨rfl, tl.pairs ++ (k, v) :: q, ⟨r, by simp [Tr.pairs, ← hr']⟩, by simpa [List.append_assoc] using hx3⟩
        · -- the round has said that is all
          clear c0 c1 hy
          refine wpAnyIn_take (i := 20) (v := ?_) rfl rfl (by kernel_rfl) (by kernel_rfl) (by kernel_rfl) (fun _ _ _ h => h) ⟨Or.inl ⟨by first | kernel_rfl | rfl, ?_⟩, fun _ => rfl⟩ ?_
          rotate_left 1
          · (intro w; go_simp) <;> (with_reducible rfl)
          refine wpAnyIn_take (i := 21) (v := ?_) rfl rfl (by kernel_rfl) (by kernel_rfl) (by kernel_rfl) (fun _ _ _ h => h) ⟨Or.inl ⟨by first | kernel_rfl | rfl, ?_⟩, fun _ => rfl⟩ ?_
          rotate_left 1
          · (intro w; go_simp) <;> (with_reducible rfl)
          refine wpAnyIn_take (i := 22) (v := undef) rfl rfl (by kernel_rfl) (by kernel_rfl) (by kernel_rfl) (fun _ _ _ h => h) ⟨Or.inr ⟨by first | kernel_rfl | rfl, rfl⟩, fun _ => rfl⟩ ?_
          refine wpAnyIn_take (i := 23) (v := undef) rfl rfl (by kernel_rfl) (by kernel_rfl) (by kernel_rfl) (fun _ _ _ h => h) ⟨Or.inr ⟨by first | kernel_rfl | rfl, rfl⟩, fun _ => rfl⟩ ?_
          refine wpAnyIn_take (i := 24) (v := undef) rfl rfl (by kernel_rfl) (by kernel_rfl) (by kernel_rfl) (fun _ _ _ h => h) ⟨Or.inr ⟨by first | kernel_rfl | rfl, rfl⟩, fun _ => rfl⟩ ?_
          refine wpAnyIn_take (i := 26) (v := undef) rfl rfl (by kernel_rfl) (by kernel_rfl) (by kernel_rfl) (fun _ _ _ h => h) ⟨Or.inr ⟨by first | kernel_rfl | rfl, rfl⟩, fun _ => rfl⟩ ?_
          refine wpAnyIn_take (i := 25) (v := undef) rfl rfl (by kernel_rfl) (by kernel_rfl) (by kernel_rfl) (fun _ _ _ h => h) ⟨Or.inr ⟨by first | kernel_rfl | rfl, rfl⟩, fun _ => rfl⟩ ?_
          refine wpAnyIn_ready (rs := [27]) (by kernel_rfl) (by simp) ?_
          refine AllReadyIn.cons rfl (fun K hK => ?_) AllReadyIn.nil
          go_simp
          refine ⟨trivial, ?_⟩
          refine hK _ _ ?_
          clear hK K
          refine wpAnyIn_take (i := 28) (v := ?_) rfl rfl (by kernel_rfl) (by kernel_rfl) (by kernel_rfl) (fun _ _ _ h => h) ⟨Or.inl ⟨by first | kernel_rfl | rfl, ?_⟩, fun _ => rfl⟩ ?_
          rotate_left 1
          · (intro w; go_simp) <;> (with_reducible rfl)
          refine wpAnyIn_take (i := 29) (v := ?_) rfl rfl (by kernel_rfl) (by kernel_rfl) (by kernel_rfl) (fun _ _ _ h => h) ⟨Or.inl ⟨by first | kernel_rfl | rfl, ?_⟩, fun _ => rfl⟩ ?_
          rotate_left 1
          · (intro w; go_simp) <;> (with_reducible rfl)
          refine wpAnyIn_take (i := 30) (v := ?_) rfl rfl (by kernel_rfl) (by kernel_rfl) (by kernel_rfl) (fun _ _ _ h => h) ⟨Or.inl ⟨by first | kernel_rfl | rfl, ?_⟩, fun _ => rfl⟩ ?_
          rotate_left 1
          · (intro w; go_simp) <;> (with_reducible rfl)
          refine wpAnyIn_done (by kernel_rfl) ?_ _
          gi_wp2
          go_ret
          exact .inr ⟨rfl, tl.pairs ++ [(k, v)], ⟨tr.pairs, by simp [Tr.pairs]⟩, by simpa [List.append_assoc] using hx2⟩
      · go_simp
        refine hK _ _ ?_
        clear hK K
        refine wpAnyIn_ready (rs := [14]) (by kernel_rfl) (by simp) ?_
        refine AllReadyIn.cons rfl (fun K hK => ?_) AllReadyIn.nil
        go_simp
        refine hK _ _ ?_
        clear hK K
        refine wpAnyIn_ready (rs := [19]) (by kernel_rfl) (by simp) ?_
        refine AllReadyIn.cons rfl (fun K hK => ?_) AllReadyIn.nil
        go_simp
        refine ⟨fun h => (by cases h), ?_⟩
        refine HR.out.mono ?_
        rintro e W2 (⟨rfl, hj2, hk2⟩ | ⟨rfl, hx2⟩)
        all_goals refine hK _ _ ?_
        all_goals clear hK K
        · -- the round goes on
          have HK2 := hid (keepsT_t HK1.out hk2)
          have hT2 := HT.out.keeps HK2.out HP.out
          have d3 := hT2.1.c3
          have HI3 := hid (IR.out (n - 1) (pre ++ tl.pairs ++ [(k, v)]) W2 hT2.2.2 (fun x hx => HP.out x (by simp [Tr.blocks, hx])) hj2 (by have := HN.out; simp only [Tr.pairs, List.length_append, List.length_cons, List.length_nil] at this ⊢; omega))
          clear hk2 hj2 hT2 c0 c1 hy
          refine wpAnyIn_take (i := 20) (v := ?_) rfl rfl (by kernel_rfl) (by kernel_rfl) (by kernel_rfl) (fun _ _ _ h => h) ⟨Or.inl ⟨by first | kernel_rfl | rfl, ?_⟩, fun _ => rfl⟩ ?_
          rotate_left 1
          · (intro w; go_simp) <;> (with_reducible rfl)
          refine wpAnyIn_take (i := 21) (v := ?_) rfl rfl (by kernel_rfl) (by kernel_rfl) (by kernel_rfl) (fun _ _ _ h => h) ⟨Or.inl ⟨by first | kernel_rfl | rfl, ?_⟩, fun _ => rfl⟩ ?_
          rotate_left 1
          · (intro w; go_simp) <;> (with_reducible rfl)
          refine wpAnyIn_take (i := 22) (v := ?_) rfl rfl (by kernel_rfl) (by kernel_rfl) (by kernel_rfl) (fun _ _ _ h => h) ⟨Or.inl ⟨by first | kernel_rfl | rfl, ?_⟩, fun _ => rfl⟩ ?_
          rotate_left 1
          · (intro w; go_simp) <;> (with_reducible rfl)
          refine wpAnyIn_take (i := 23) (v := ?_) rfl rfl (by kernel_rfl) (by kernel_rfl) (by kernel_rfl) (fun _ _ _ h => h) ⟨Or.inl ⟨by first | kernel_rfl | rfl, ?_⟩, fun _ => rfl⟩ ?_
          rotate_left 1
          · (intro w; go_simp) <;> (with_reducible rfl)
          refine wpAnyIn_take (i := 24) (v := ?_) rfl rfl (by kernel_rfl) (by kernel_rfl) (by kernel_rfl) (fun _ _ _ h => h) ⟨Or.inl ⟨by first | kernel_rfl | rfl, ?_⟩, fun _ => rfl⟩ ?_
          rotate_left 1
          · (intro w; go_simp) <;> (with_reducible rfl)
          refine wpAnyIn_take (i := 26) (v := ?_) rfl rfl (by kernel_rfl) (by kernel_rfl) (by kernel_rfl) (fun _ _ _ h => h) ⟨Or.inl ⟨by first | kernel_rfl | rfl, ?_⟩, fun _ => rfl⟩ ?_
          rotate_left 1
          · (intro w; go_simp) <;> (with_reducible rfl)
          refine wpAnyIn_ready (rs := [25]) (by kernel_rfl) (by simp) ?_
          refine AllReadyIn.cons rfl (fun K hK => ?_) AllReadyIn.nil
          go_simp
          refine hK _ _ ?_
          clear hK K
          refine wpAnyIn_ready (rs := [27]) (by kernel_rfl) (by simp) ?_
          refine AllReadyIn.cons rfl (fun K hK => ?_) AllReadyIn.nil
          go_simp
          refine ⟨trivial, fun h => (by cases h), ?_⟩
          refine HI3.out.mono ?_
          rintro e W3 (⟨rfl, hj3, hk3⟩ | ⟨rfl, q, hq, hx3⟩)
          all_goals refine hK _ _ ?_
          all_goals clear hK K
          · -- all has been gone through
            refine wpAnyIn_take (i := 28) (v := ?_) rfl rfl (by kernel_rfl) (by kernel_rfl) (by kernel_rfl) (fun _ _ _ h => h) ⟨Or.inl ⟨by first | kernel_rfl | rfl, ?_⟩, fun _ => rfl⟩ ?_
            rotate_left 1
            · (intro w; go_simp) <;> (with_reducible rfl)
            refine wpAnyIn_take (i := 29) (v := ?_) rfl rfl (by kernel_rfl) (by kernel_rfl) (by kernel_rfl) (fun _ _ _ h => h) ⟨Or.inl ⟨by first | kernel_rfl | rfl, ?_⟩, fun _ => rfl⟩ ?_
            rotate_left 1
            · (intro w; go_simp) <;> (with_reducible rfl)
            refine wpAnyIn_take (i := 30) (v := ?_) rfl rfl (by kernel_rfl) (by kernel_rfl) (by kernel_rfl) (fun _ _ _ h => h) ⟨Or.inl ⟨by first | kernel_rfl | rfl, ?_⟩, fun _ => rfl⟩ ?_
            rotate_left 1
            · (intro w; go_simp) <;> (with_reducible rfl)
            refine wpAnyIn_done (by kernel_rfl) ?_ _
            gi_wp2
            go_ret
            exact .inl ⟨rfl, by simpa [Tr.pairs, List.append_assoc] using hj3, keepsT_t HK2.out hk3⟩
          · -- the right side was cut short
            refine wpAnyIn_take (i := 28) (v := ?_) rfl rfl (by kernel_rfl) (by kernel_rfl) (by kernel_rfl) (fun _ _ _ h => h) ⟨Or.inl ⟨by first | kernel_rfl | rfl, ?_⟩, fun _ => rfl⟩ ?_
            rotate_left 1
            · (intro w; go_simp) <;> (with_reducible rfl)
            refine wpAnyIn_take (i := 29) (v := ?_) rfl rfl (by kernel_rfl) (by kernel_rfl) (by kernel_rfl) (fun _ _ _ h => h) ⟨Or.inl ⟨by first | kernel_rfl | rfl, ?_⟩, fun _ => rfl⟩ ?_
            rotate_left 1
            · (intro w; go_simp) <;> (with_reducible rfl)
            refine wpAnyIn_take (i := 30) (v := ?_) rfl rfl (by kernel_rfl) (by kernel_rfl) (by kernel_rfl) (fun _ _ _ h => h) ⟨Or.inl ⟨by first | kernel_rfl | rfl, ?_⟩, fun _ => rfl⟩ ?_
            rotate_left 1
            · (intro w; go_simp) <;> (with_reducible rfl)
            refine wpAnyIn_done (by kernel_rfl) ?_ _
            gi_wp2
            go_ret
            obtain ⟨r, hr'⟩ := hq
            exact .inr ⟨rfl, tl.pairs ++ (k, v) :: q, ⟨r, by simp [Tr.pairs, ← hr']⟩, by simpa [List.append_assoc] using hx3⟩
        · -- the round has said that is all
          clear c0 c1 hy
          refine wpAnyIn_take (i := 20) (v := ?_) rfl rfl (by kernel_rfl) (by kernel_rfl) (by kernel_rfl) (fun _ _ _ h => h) ⟨Or.inl ⟨by first | kernel_rfl | rfl, ?_⟩, fun _ => rfl⟩ ?_
          rotate_left 1
          · (intro w; go_simp) <;> (with_reducible rfl)
          refine wpAnyIn_take (i := 21) (v := ?_) rfl rfl (by kernel_rfl) (by kernel_rfl) (by kernel_rfl) (fun _ _ _ h => h) ⟨Or.inl ⟨by first | kernel_rfl | rfl, ?_⟩, fun _ => rfl⟩ ?_
          rotate_left 1
          · (intro w; go_simp) <;> (with_reducible rfl)
          refine wpAnyIn_take (i := 22) (v := undef) rfl rfl (by kernel_rfl) (by kernel_rfl) (by kernel_rfl) (fun _ _ _ h => h) ⟨Or.inr ⟨by first | kernel_rfl | rfl, rfl⟩, fun _ => rfl⟩ ?_
          refine wpAnyIn_take (i := 23) (v := undef) rfl rfl (by kernel_rfl) (by kernel_rfl) (by kernel_rfl) (fun _ _ _ h => h) ⟨Or.inr ⟨by first | kernel_rfl | rfl, rfl⟩, fun _ => rfl⟩ ?_
          refine wpAnyIn_take (i := 24) (v := undef) rfl rfl (by kernel_rfl) (by kernel_rfl) (by kernel_rfl) (fun _ _ _ h => h) ⟨Or.inr ⟨by first | kernel_rfl | rfl, rfl⟩, fun _ => rfl⟩ ?_
          refine wpAnyIn_take (i := 26) (v := undef) rfl rfl (by kernel_rfl) (by kernel_rfl) (by kernel_rfl) (fun _ _ _ h => h) ⟨Or.inr ⟨by first | kernel_rfl | rfl, rfl⟩, fun _ => rfl⟩ ?_
          refine wpAnyIn_take (i := 25) (v := undef) rfl rfl (by kernel_rfl) (by kernel_rfl) (by kernel_rfl) (fun _ _ _ h => h) ⟨Or.inr ⟨by first | kernel_rfl | rfl, rfl⟩, fun _ => rfl⟩ ?_
          refine wpAnyIn_ready (rs := [27]) (by kernel_rfl) (by simp) ?_
          refine AllReadyIn.cons rfl (fun K hK => ?_) AllReadyIn.nil
          go_simp
          refine ⟨trivial, ?_⟩
          refine hK _ _ ?_
          clear hK K
          refine wpAnyIn_take (i := 28) (v := ?_) rfl rfl (by kernel_rfl) (by kernel_rfl) (by kernel_rfl) (fun _ _ _ h => h) ⟨Or.inl ⟨by first | kernel_rfl | rfl, ?_⟩, fun _ => rfl⟩ ?_
          rotate_left 1
          · (intro w; go_simp) <;> (with_reducible rfl)
          refine wpAnyIn_take (i := 29) (v := ?_) rfl rfl (by kernel_rfl) (by kernel_rfl) (by kernel_rfl) (fun _ _ _ h => h) ⟨Or.inl ⟨by first | kernel_rfl | rfl, ?_⟩, fun _ => rfl⟩ ?_
          rotate_left 1
          · (intro w; go_simp) <;> (with_reducible rfl)
          refine wpAnyIn_take (i := 30) (v := ?_) rfl rfl (by kernel_rfl) (by kernel_rfl) (by kernel_rfl) (fun _ _ _ h => h) ⟨Or.inl ⟨by first | kernel_rfl | rfl, ?_⟩, fun _ => rfl⟩ ?_
          rotate_left 1
          · (intro w; go_simp) <;> (with_reducible rfl)
          refine wpAnyIn_done (by kernel_rfl) ?_ _
          gi_wp2
          go_ret
          exact .inr ⟨rfl, tl.pairs ++ [(k, v)], ⟨tr.pairs, by simp [Tr.pairs]⟩, by simpa [List.append_assoc] using hx2⟩
    · -- the left side was cut short
      refine wpAnyIn_take (i := 9) (v := ?_) rfl rfl (by kernel_rfl) (by kernel_rfl) (by kernel_rfl) (fun _ _ _ h => h) ⟨Or.inl ⟨by first | kernel_rfl | rfl, ?_⟩, fun _ => rfl⟩ ?_
      rotate_left 1
      · (intro w; go_simp) <;> (with_reducible rfl)
      refine wpAnyIn_take (i := 10) (v := undef) rfl rfl (by kernel_rfl) (by kernel_rfl) (by kernel_rfl) (fun _ _ _ h => h) ⟨Or.inr ⟨by first | kernel_rfl | rfl, rfl⟩, fun _ => rfl⟩ ?_
      refine wpAnyIn_take (i := 11) (v := undef) rfl rfl (by kernel_rfl) (by kernel_rfl) (by kernel_rfl) (fun _ _ _ h => h) ⟨Or.inr ⟨by first | kernel_rfl | rfl, rfl⟩, fun _ => rfl⟩ ?_
      refine wpAnyIn_take (i := 12) (v := undef) rfl rfl (by kernel_rfl) (by kernel_rfl) (by kernel_rfl) (fun _ _ _ h => h) ⟨Or.inr ⟨by first | kernel_rfl | rfl, rfl⟩, fun _ => rfl⟩ ?_
      refine wpAnyIn_take (i := 13) (v := undef) rfl rfl (by kernel_rfl) (by kernel_rfl) (by kernel_rfl) (fun _ _ _ h => h) ⟨Or.inr ⟨by first | kernel_rfl | rfl, rfl⟩, fun _ => rfl⟩ ?_
      refine wpAnyIn_take (i := 14) (v := undef) rfl rfl (by kernel_rfl) (by kernel_rfl) (by kernel_rfl) (fun _ _ _ h => h) ⟨Or.inr ⟨by first | kernel_rfl | rfl, rfl⟩, fun _ => rfl⟩ ?_
      refine wpAnyIn_take (i := 15) (v := undef) rfl rfl (by kernel_rfl) (by kernel_rfl) (by kernel_rfl) (fun _ _ _ h => h) ⟨Or.inr ⟨by first | kernel_rfl | rfl, rfl⟩, fun _ => rfl⟩ ?_
      refine wpAnyIn_take (i := 16) (v := undef) rfl rfl (by kernel_rfl) (by kernel_rfl) (by kernel_rfl) (fun _ _ _ h => h) ⟨Or.inr ⟨by first | kernel_rfl | rfl, rfl⟩, fun _ => rfl⟩ ?_
      refine wpAnyIn_take (i := 17) (v := undef) rfl rfl (by kernel_rfl) (by kernel_rfl) (by kernel_rfl) (fun _ _ _ h => h) ⟨Or.inr ⟨by first | kernel_rfl | rfl, rfl⟩, fun _ => rfl⟩ ?_
      refine wpAnyIn_take (i := 18) (v := undef) rfl rfl (by kernel_rfl) (by kernel_rfl) (by kernel_rfl) (fun _ _ _ h => h) ⟨Or.inr ⟨by first | kernel_rfl | rfl, rfl⟩, fun _ => rfl⟩ ?_
      refine wpAnyIn_ready (rs := [19]) (by kernel_rfl) (by simp) ?_
      refine AllReadyIn.cons rfl (fun K hK => ?_) AllReadyIn.nil
      go_simp
      refine ⟨fun _ h => (by cases h), ?_⟩
      refine hK _ _ ?_
      clear hK K
      refine wpAnyIn_take (i := 20) (v := ?_) rfl rfl (by kernel_rfl) (by kernel_rfl) (by kernel_rfl) (fun _ _ _ h => h) ⟨Or.inl ⟨by first | kernel_rfl | rfl, ?_⟩, fun _ => rfl⟩ ?_
      rotate_left 1
      · (intro w; go_simp) <;> (with_reducible rfl)
      refine wpAnyIn_take (i := 21) (v := ?_) rfl rfl (by kernel_rfl) (by kernel_rfl) (by kernel_rfl) (fun _ _ _ h => h) ⟨Or.inl ⟨by first | kernel_rfl | rfl, ?_⟩, fun _ => rfl⟩ ?_
      rotate_left 1
      · (intro w; go_simp) <;> (with_reducible rfl)
      refine wpAnyIn_take (i := 22) (v := undef) rfl rfl (by kernel_rfl) (by kernel_rfl) (by kernel_rfl) (fun _ _ _ h => h) ⟨Or.inr ⟨by first | kernel_rfl | rfl, rfl⟩, fun _ => rfl⟩ ?_
      refine wpAnyIn_take (i := 23) (v := undef) rfl rfl (by kernel_rfl) (by kernel_rfl) (by kernel_rfl) (fun _ _ _ h => h) ⟨Or.inr ⟨by first | kernel_rfl | rfl, rfl⟩, fun _ => rfl⟩ ?_
      refine wpAnyIn_take (i := 24) (v := undef) rfl rfl (by kernel_rfl) (by kernel_rfl) (by kernel_rfl) (fun _ _ _ h => h) ⟨Or.inr ⟨by first | kernel_rfl | rfl, rfl⟩, fun _ => rfl⟩ ?_
      refine wpAnyIn_take (i := 26) (v := undef) rfl rfl (by kernel_rfl) (by kernel_rfl) (by kernel_rfl) (fun _ _ _ h => h) ⟨Or.inr ⟨by first | kernel_rfl | rfl, rfl⟩, fun _ => rfl⟩ ?_
      refine wpAnyIn_take (i := 25) (v := undef) rfl rfl (by kernel_rfl) (by kernel_rfl) (by kernel_rfl) (fun _ _ _ h => h) ⟨Or.inr ⟨by first | kernel_rfl | rfl, rfl⟩, fun _ => rfl⟩ ?_
      refine wpAnyIn_ready (rs := [27]) (by kernel_rfl) (by simp) ?_
      refine AllReadyIn.cons rfl (fun K hK => ?_) AllReadyIn.nil
      go_simp
      refine ⟨trivial, ?_⟩
      refine hK _ _ ?_
      clear hK K
      refine wpAnyIn_take (i := 28) (v := ?_) rfl rfl (by kernel_rfl) (by kernel_rfl) (by kernel_rfl) (fun _ _ _ h => h) ⟨Or.inl ⟨by first | kernel_rfl | rfl, ?_⟩, fun _ => rfl⟩ ?_
      rotate_left 1
      · (intro w; go_simp) <;> (with_reducible rfl)
      refine wpAnyIn_take (i := 29) (v := ?_) rfl rfl (by kernel_rfl) (by kernel_rfl) (by kernel_rfl) (fun _ _ _ h => h) ⟨Or.inl ⟨by first | kernel_rfl | rfl, ?_⟩, fun _ => rfl⟩ ?_
      rotate_left 1
      · (intro w; go_simp) <;> (with_reducible rfl)
      refine wpAnyIn_take (i := 30) (v := ?_) rfl rfl (by kernel_rfl) (by kernel_rfl) (by kernel_rfl) (fun _ _ _ h => h) ⟨Or.inl ⟨by first | kernel_rfl | rfl, ?_⟩, fun _ => rfl⟩ ?_
      rotate_left 1
      · (intro w; go_simp) <;> (with_reducible rfl)
      refine wpAnyIn_done (by kernel_rfl) ?_ _
      gi_wp2
      go_ret
      exact .inr ⟨rfl, q, hq.trans (by simp [Tr.pairs]), hx1⟩
end TI
end Go.Proofs.Ytfjeagffdijcoaa
