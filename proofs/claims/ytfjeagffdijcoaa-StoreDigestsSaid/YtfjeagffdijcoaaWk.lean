/- Layer 7: the walk of walk: ints. Layer 7: the walk of walkIn: ints. Layer 7: a map, another instance (uint64 keys, bytes): printed from the texts for ints. -/
import Derived.Test.YtfjeagffdijcoaaTb
import Derived.Stop.RegionWithIn
import Derived.Sort.CutIn
import Derived.Test.YtfjeagffdijcoaaUb
namespace Go.Proofs.Ytfjeagffdijcoaa
open Go.RowKit Go.Shelf
attribute [local go_sem] Oper.semAt_some

theorem room_none {F : Fence} (hd : F.depth = none) (k : Nat) : F.room k := fun d h => by rw [hd] at h; cases h
theorem round_any {F : Fence} (hd : F.depth = none) {m m' : Nat} {P : Program} {l : Nat} {f : FuncId} {tmps : Array Value} {assign body : Code} {w : World} {R : Ending → World → Prop}
    (h : RoundIn F m P l f tmps assign body w R) : RoundIn F m' P l f tmps assign body w R := ⟨h.1, fun c cs _ => h.2 c cs (room_none hd _)⟩
theorem yield_any {F : Fence} (hd : F.depth = none) {m : Nat} (m' : Nat) {P : Program} {l : Nat} {args : Array Value} {W : World} {R : Ending → World → Prop} (h : YieldAt F m P l args W R) : YieldAt F m' P l args W R := by
  obtain ⟨fn, tmps, assign, body, hy, hR⟩ := h
  exact ⟨fn, tmps, assign, body, hy, round_any hd hR⟩

/-- these blocks lie as they lay -/
def KeepsT (P : Nat → Prop) (W W' : World) : Prop := ∀ k, P k → W'.heap[k]? = W.heap[k]?
theorem keepsT_refl (P : Nat → Prop) (A : World) : KeepsT P A A := fun _ _ => rfl
theorem keepsT_t {P : Nat → Prop} {A B C : World} (h : KeepsT P A B) (k : KeepsT P B C) : KeepsT P A C := fun i hi => (k i hi).trans (h i hi)
theorem keepsT_cell {P : Nat → Prop} {A B : World} (h : KeepsT P A B) {p : Addr} (hp : P p.block) : B.cell? p = A.cell? p := World.cell?_of_block (w := A) (h p.block hp)
theorem Held.keeps {κ ν : Type} {ek : κ → Value} {ev : ν → Value} {P : Nat → Prop} {A B : World} {t : Tr κ ν} (h : Held ek ev A t) (hk : KeepsT P A B) (hp : ∀ x ∈ t.blocks, P x) : Held ek ev B t := by
  induction t with
  | nil => trivial
  | node b l k v r hl hr =>
    obtain ⟨h1, h2, h3⟩ := h
    have hb := hp b (by simp [Tr.blocks])
    exact ⟨⟨(keepsT_cell hk hb).trans h1.c0, (keepsT_cell hk hb).trans h1.c1, (keepsT_cell hk hb).trans h1.c2, (keepsT_cell hk hb).trans h1.c3, (keepsT_cell hk hb).trans h1.c4, (keepsT_cell hk hb).trans h1.c5,
      fun j => (World.frozen?_of_block (a := ⟨b, j, none⟩) (hk b hb)).trans (h1.fz j)⟩, hl h2 (fun x hx => hp x (by simp [Tr.blocks, hx])), hr h3 (fun x hx => hp x (by simp [Tr.blocks, hx]))⟩

namespace TI
set_option maxRecDepth 100000 in
set_option maxHeartbeats 4000000 in
theorem walkEach_in (l N : Nat) (P : Nat → Prop) (J Jx : List (Int × Int) → World → Prop)
    (hY : ∀ m pre x W, J pre W → pre.length < N → YieldAt Fence.wide m Try.prog l #[.int .i64 x.1, .int .i64 x.2] W fun e W' =>
      (e = .returned (.bool true) ∧ J (pre ++ [x]) W' ∧ KeepsT P W W') ∨ (e = .returned (.bool false) ∧ Jx (pre ++ [x]) W')) (hJd : ∀ pre W q, J pre W → J pre (W.drewN q)) (T : Tr Int Int) :
    ∀ (n : Nat) (pre : List (Int × Int)) (W : World), Held ek ev W T → (∀ x ∈ T.blocks, P x) → J pre W → pre.length + T.pairs.length ≤ N →
      CallsIn Fence.wide n Try.prog 79 #[T.ptr, .func (.yield l) #[] #[]] W fun e W' =>
        (e = .returned (.bool true) ∧ J (pre ++ T.pairs) W' ∧ KeepsT P W W') ∨ (e = .returned (.bool false) ∧ ∃ q, q <+: T.pairs ∧ Jx (pre ++ q) W') := by
  induction T with
  | nil =>
    intro n pre W ht _ hJ _
    show CallsIn _ _ _ _ #[.pointer none, _] _ _
    refine callsIn_of_wp Try.func79 rfl trivial ?_ rfl
    simp only [Try.ntmps79, List.size_toArray, List.length_cons, List.length_nil, Nat.reduceAdd, Nat.reduceSub, Array.replicate_succ, Array.replicate_zero, List.push_toArray, List.append_toArray, List.nil_append, List.cons_append]
    gi_wp2
    refine wpIn_region_any (by kernel_rfl) ?_
    try (change wpAnyIn _ _ _ _ _ _ _ _ _ (World.drew _))
    refine wpAnyIn_take (i := 0) (v := ?_) rfl rfl (by kernel_rfl) (by kernel_rfl) (by kernel_rfl) (fun _ _ _ h => h) ⟨Or.inl ⟨by first | kernel_rfl | rfl, ?_⟩, fun _ => rfl⟩ ?_
    rotate_left 1
    · (intro w; go_simp) <;> (with_reducible rfl)
    refine wpAnyIn_take (i := 1) (v := ?_) rfl rfl (by kernel_rfl) (by kernel_rfl) (by kernel_rfl) (fun _ _ _ h => h) ⟨Or.inl ⟨by first | kernel_rfl | rfl, ?_⟩, fun _ => rfl⟩ ?_
    rotate_left 1
    · (intro w; go_simp) <;> (with_reducible rfl)
    refine wpAnyIn_take (i := 2) (v := ?_) rfl rfl (by kernel_rfl) (by kernel_rfl) (by kernel_rfl) (fun _ _ _ h => h) ⟨Or.inl ⟨by first | kernel_rfl | rfl, ?_⟩, fun _ => rfl⟩ ?_
    rotate_left 1
    · (intro w; go_simp) <;> (with_reducible rfl)
    refine wpAnyIn_take (i := 3) (v := undef) rfl rfl (by kernel_rfl) (by kernel_rfl) (by kernel_rfl) (fun _ _ _ h => h) ⟨Or.inr ⟨by first | kernel_rfl | rfl, rfl⟩, fun _ => rfl⟩ ?_
    refine wpAnyIn_take (i := 4) (v := undef) rfl rfl (by kernel_rfl) (by kernel_rfl) (by kernel_rfl) (fun _ _ _ h => h) ⟨Or.inr ⟨by first | kernel_rfl | rfl, rfl⟩, fun _ => rfl⟩ ?_
    refine wpAnyIn_take (i := 5) (v := undef) rfl rfl (by kernel_rfl) (by kernel_rfl) (by kernel_rfl) (fun _ _ _ h => h) ⟨Or.inr ⟨by first | kernel_rfl | rfl, rfl⟩, fun _ => rfl⟩ ?_
    refine wpAnyIn_take (i := 7) (v := undef) rfl rfl (by kernel_rfl) (by kernel_rfl) (by kernel_rfl) (fun _ _ _ h => h) ⟨Or.inr ⟨by first | kernel_rfl | rfl, rfl⟩, fun _ => rfl⟩ ?_
    refine wpAnyIn_take (i := 6) (v := undef) rfl rfl (by kernel_rfl) (by kernel_rfl) (by kernel_rfl) (fun _ _ _ h => h) ⟨Or.inr ⟨by first | kernel_rfl | rfl, rfl⟩, fun _ => rfl⟩ ?_
    refine wpAnyIn_ready (rs := [8]) (by kernel_rfl) (by simp) ?_
    refine AllReadyIn.cons rfl (fun K hK => ?_) AllReadyIn.nil
    go_simp
    refine ⟨trivial, ?_⟩
    refine hK _ _ ?_
    clear hK K
    refine wpAnyIn_take (i := 9) (v := undef) rfl rfl (by kernel_rfl) (by kernel_rfl) (by kernel_rfl) (fun _ _ _ h => h) ⟨Or.inr ⟨by first | kernel_rfl | rfl, rfl⟩, fun _ => rfl⟩ ?_
    refine wpAnyIn_take (i := 10) (v := undef) rfl rfl (by kernel_rfl) (by kernel_rfl) (by kernel_rfl) (fun _ _ _ h => h) ⟨Or.inr ⟨by first | kernel_rfl | rfl, rfl⟩, fun _ => rfl⟩ ?_
    refine wpAnyIn_take (i := 11) (v := undef) rfl rfl (by kernel_rfl) (by kernel_rfl) (by kernel_rfl) (fun _ _ _ h => h) ⟨Or.inr ⟨by first | kernel_rfl | rfl, rfl⟩, fun _ => rfl⟩ ?_
    refine wpAnyIn_take (i := 12) (v := undef) rfl rfl (by kernel_rfl) (by kernel_rfl) (by kernel_rfl) (fun _ _ _ h => h) ⟨Or.inr ⟨by first | kernel_rfl | rfl, rfl⟩, fun _ => rfl⟩ ?_
    refine wpAnyIn_take (i := 13) (v := undef) rfl rfl (by kernel_rfl) (by kernel_rfl) (by kernel_rfl) (fun _ _ _ h => h) ⟨Or.inr ⟨by first | kernel_rfl | rfl, rfl⟩, fun _ => rfl⟩ ?_
    refine wpAnyIn_take (i := 14) (v := undef) rfl rfl (by kernel_rfl) (by kernel_rfl) (by kernel_rfl) (fun _ _ _ h => h) ⟨Or.inr ⟨by first | kernel_rfl | rfl, rfl⟩, fun _ => rfl⟩ ?_
    refine wpAnyIn_take (i := 15) (v := undef) rfl rfl (by kernel_rfl) (by kernel_rfl) (by kernel_rfl) (fun _ _ _ h => h) ⟨Or.inr ⟨by first | kernel_rfl | rfl, rfl⟩, fun _ => rfl⟩ ?_
    refine wpAnyIn_take (i := 16) (v := undef) rfl rfl (by kernel_rfl) (by kernel_rfl) (by kernel_rfl) (fun _ _ _ h => h) ⟨Or.inr ⟨by first | kernel_rfl | rfl, rfl⟩, fun _ => rfl⟩ ?_
    refine wpAnyIn_take (i := 17) (v := undef) rfl rfl (by kernel_rfl) (by kernel_rfl) (by kernel_rfl) (fun _ _ _ h => h) ⟨Or.inr ⟨by first | kernel_rfl | rfl, rfl⟩, fun _ => rfl⟩ ?_
    refine wpAnyIn_take (i := 18) (v := undef) rfl rfl (by kernel_rfl) (by kernel_rfl) (by kernel_rfl) (fun _ _ _ h => h) ⟨Or.inr ⟨by first | kernel_rfl | rfl, rfl⟩, fun _ => rfl⟩ ?_
    refine wpAnyIn_ready (rs := [19]) (by kernel_rfl) (by simp) ?_
    refine AllReadyIn.cons rfl (fun K hK => ?_) AllReadyIn.nil
    go_simp
    refine ⟨fun _ h => (by cases h), ?_⟩
    refine hK _ _ ?_
    clear hK K
    refine wpAnyIn_take (i := 20) (v := undef) rfl rfl (by kernel_rfl) (by kernel_rfl) (by kernel_rfl) (fun _ _ _ h => h) ⟨Or.inr ⟨by first | kernel_rfl | rfl, rfl⟩, fun _ => rfl⟩ ?_
    refine wpAnyIn_take (i := 21) (v := undef) rfl rfl (by kernel_rfl) (by kernel_rfl) (by kernel_rfl) (fun _ _ _ h => h) ⟨Or.inr ⟨by first | kernel_rfl | rfl, rfl⟩, fun _ => rfl⟩ ?_
    refine wpAnyIn_take (i := 22) (v := undef) rfl rfl (by kernel_rfl) (by kernel_rfl) (by kernel_rfl) (fun _ _ _ h => h) ⟨Or.inr ⟨by first | kernel_rfl | rfl, rfl⟩, fun _ => rfl⟩ ?_
    refine wpAnyIn_take (i := 23) (v := undef) rfl rfl (by kernel_rfl) (by kernel_rfl) (by kernel_rfl) (fun _ _ _ h => h) ⟨Or.inr ⟨by first | kernel_rfl | rfl, rfl⟩, fun _ => rfl⟩ ?_
    refine wpAnyIn_take (i := 24) (v := undef) rfl rfl (by kernel_rfl) (by kernel_rfl) (by kernel_rfl) (fun _ _ _ h => h) ⟨Or.inr ⟨by first | kernel_rfl | rfl, rfl⟩, fun _ => rfl⟩ ?_
    refine wpAnyIn_take (i := 26) (v := undef) rfl rfl (by kernel_rfl) (by kernel_rfl) (by kernel_rfl) (fun _ _ _ h => h) ⟨Or.inr ⟨by first | kernel_rfl | rfl, rfl⟩, fun _ => rfl⟩ ?_
    refine wpAnyIn_take (i := 25) (v := undef) rfl rfl (by kernel_rfl) (by kernel_rfl) (by kernel_rfl) (fun _ _ _ h => h) ⟨Or.inr ⟨by first | kernel_rfl | rfl, rfl⟩, fun _ => rfl⟩ ?_
    refine wpAnyIn_ready (rs := [27]) (by kernel_rfl) (by simp) ?_
    refine AllReadyIn.cons rfl (fun K hK => ?_) AllReadyIn.nil
    go_simp
    refine ⟨trivial, ?_⟩
    refine hK _ _ ?_
    clear hK K
    refine wpAnyIn_take (i := 28) (v := undef) rfl rfl (by kernel_rfl) (by kernel_rfl) (by kernel_rfl) (fun _ _ _ h => h) ⟨Or.inr ⟨by first | kernel_rfl | rfl, rfl⟩, fun _ => rfl⟩ ?_
    refine wpAnyIn_take (i := 29) (v := ?_) rfl rfl (by kernel_rfl) (by kernel_rfl) (by kernel_rfl) (fun _ _ _ h => h) ⟨Or.inl ⟨by first | kernel_rfl | rfl, ?_⟩, fun _ => rfl⟩ ?_
    rotate_left 1
    · (intro w; go_simp) <;> (with_reducible rfl)
    refine wpAnyIn_take (i := 30) (v := ?_) rfl rfl (by kernel_rfl) (by kernel_rfl) (by kernel_rfl) (fun _ _ _ h => h) ⟨Or.inl ⟨by first | kernel_rfl | rfl, ?_⟩, fun _ => rfl⟩ ?_
    rotate_left 1
    · (intro w; go_simp) <;> (with_reducible rfl)
    refine wpAnyIn_done (by kernel_rfl) ?_ _
    gi_wp2
    go_ret
    exact .inl ⟨rfl, (by show J (pre ++ []) _; rw [List.append_nil]; exact hJd _ _ 1 hJ), fun _ _ => rfl⟩
  | node b tl k v tr ihl ihr =>
    intro n pre W ht hP hJ hN
    have HI1 := hid (ihl (n - 1) pre W.drew (ht.2.1.drewN 1) (fun x hx => hP x (by simp [Tr.blocks, hx])) (hJd _ _ 1 hJ) (by simp only [Tr.pairs, List.length_append, List.length_cons] at hN; omega))
    have c2 := ht.1.c2
    have HT := hid ht
    have HP := hid hP
    have HJ := hid hJ
    have HN := hid hN
    have IR := hid ihr
    have HY := hid hY
    clear ht hP hJ hN ihl ihr
    show CallsIn _ _ _ _ #[.pointer (some ⟨b, 0, none⟩), _] _ _
    refine callsIn_of_wp Try.func79 rfl trivial ?_ rfl
    simp only [Try.ntmps79, List.size_toArray, List.length_cons, List.length_nil, Nat.reduceAdd, Nat.reduceSub, Array.replicate_succ, Array.replicate_zero, List.push_toArray, List.append_toArray, List.nil_append, List.cons_append]
    gi_wp2
    refine wpIn_region_any (by kernel_rfl) ?_
    try (change wpAnyIn _ _ _ _ _ _ _ _ _ (World.drew _))
    refine wpAnyIn_take (i := 0) (v := ?_) rfl rfl (by kernel_rfl) (by kernel_rfl) (by kernel_rfl) (fun _ _ _ h => h) ⟨Or.inl ⟨by first | kernel_rfl | rfl, ?_⟩, fun _ => rfl⟩ ?_
    rotate_left 1
    · (intro w; go_simp) <;> (with_reducible rfl)
    refine wpAnyIn_take (i := 1) (v := ?_) rfl rfl (by kernel_rfl) (by kernel_rfl) (by kernel_rfl) (fun _ _ _ h => h) ⟨Or.inl ⟨by first | kernel_rfl | rfl, ?_⟩, fun _ => rfl⟩ ?_
    rotate_left 1
    · (intro w; go_simp) <;> (with_reducible rfl)
    refine wpAnyIn_take (i := 2) (v := ?_) rfl rfl (by kernel_rfl) (by kernel_rfl) (by kernel_rfl) (fun _ _ _ h => h) ⟨Or.inl ⟨by first | kernel_rfl | rfl, ?_⟩, fun _ => rfl⟩ ?_
    rotate_left 1
    · (intro w; go_simp) <;> (with_reducible rfl)
    refine wpAnyIn_take (i := 3) (v := ?_) rfl rfl (by kernel_rfl) (by kernel_rfl) (by kernel_rfl) (fun _ _ _ h => h) ⟨Or.inl ⟨by first | kernel_rfl | rfl, ?_⟩, fun _ => rfl⟩ ?_
    rotate_left 1
    · (intro w; go_simp) <;> (with_reducible rfl)
    refine wpAnyIn_take (i := 4) (v := ?_) rfl rfl (by kernel_rfl) (by kernel_rfl) (by kernel_rfl) (fun _ _ _ h => h) ⟨Or.inl ⟨by first | kernel_rfl | rfl, ?_⟩, fun _ => rfl⟩ ?_
    rotate_left 1
    · (intro w; go_simp) <;> (with_reducible rfl)
    refine wpAnyIn_take (i := 5) (v := ?_) rfl rfl (by kernel_rfl) (by kernel_rfl) (by kernel_rfl) (fun _ _ _ h => h) ⟨Or.inl ⟨by first | kernel_rfl | rfl, ?_⟩, fun _ => rfl⟩ ?_
    rotate_left 1
    · (intro w; go_simp) <;> (with_reducible rfl)
    refine wpAnyIn_take (i := 7) (v := ?_) rfl rfl (by kernel_rfl) (by kernel_rfl) (by kernel_rfl) (fun _ _ _ h => h) ⟨Or.inl ⟨by first | kernel_rfl | rfl, ?_⟩, fun _ => rfl⟩ ?_
    rotate_left 1
    · (intro w; go_simp) <;> (with_reducible rfl)
    refine wpAnyIn_ready (rs := [6]) (by kernel_rfl) (by simp) ?_
    refine AllReadyIn.cons rfl (fun K hK => ?_) AllReadyIn.nil
    go_simp
    refine hK _ _ ?_
    clear hK K
    refine wpAnyIn_ready (rs := [8]) (by kernel_rfl) (by simp) ?_
    refine AllReadyIn.cons rfl (fun K hK => ?_) AllReadyIn.nil
    go_simp
    refine ⟨trivial, fun h => (by cases h), ?_⟩
    refine HI1.out.mono ?_
    rintro e W1 (⟨rfl, hj1, hk1⟩ | ⟨rfl, q, hq, hx1⟩)
    all_goals refine hK _ _ ?_
    all_goals clear hK K
    · -- the left side has been gone through
      have HK1 := hid (keepsT_t (show KeepsT P W W.drew from fun _ _ => rfl) hk1)
      have hT1 := HT.out.keeps HK1.out HP.out
      have c0 := hT1.1.c0
      have c1 := hT1.1.c1
      obtain ⟨fn, tmps, assign, body, hy, hR⟩ := HY.out (n - 1) (pre ++ tl.pairs) (k, v) W1 hj1 (by have := HN.out; simp only [Tr.pairs, List.length_append, List.length_cons] at this ⊢; omega)
      have HR := hid hR
      have HT1 := hid hT1
      clear hk1 hj1 hT1 hR
      refine wpAnyIn_take (i := 9) (v := ?_) rfl rfl (by kernel_rfl) (by kernel_rfl) (by kernel_rfl) (fun _ _ _ h => h) ⟨Or.inl ⟨by first | kernel_rfl | rfl, ?_⟩, fun _ => rfl⟩ ?_
      rotate_left 1
      · (intro w; go_simp) <;> (with_reducible rfl)
      refine wpAnyIn_take (i := 10) (v := ?_) rfl rfl (by kernel_rfl) (by kernel_rfl) (by kernel_rfl) (fun _ _ _ h => h) ⟨Or.inl ⟨by first | kernel_rfl | rfl, ?_⟩, fun _ => rfl⟩ ?_
      rotate_left 1
      · (intro w; go_simp) <;> (with_reducible rfl)
      refine wpAnyIn_take (i := 11) (v := ?_) rfl rfl (by kernel_rfl) (by kernel_rfl) (by kernel_rfl) (fun _ _ _ h => h) ⟨Or.inl ⟨by first | kernel_rfl | rfl, ?_⟩, fun _ => rfl⟩ ?_
      rotate_left 1
      · (intro w; go_simp) <;> (with_reducible rfl)
      refine wpAnyIn_take (i := 12) (v := ?_) rfl rfl (by kernel_rfl) (by kernel_rfl) (by kernel_rfl) (fun _ _ _ h => h) ⟨Or.inl ⟨by first | kernel_rfl | rfl, ?_⟩, fun _ => rfl⟩ ?_
      rotate_left 1
      · (intro w; go_simp) <;> (with_reducible rfl)
      refine wpAnyIn_take (i := 13) (v := ?_) rfl rfl (by kernel_rfl) (by kernel_rfl) (by kernel_rfl) (fun _ _ _ h => h) ⟨Or.inl ⟨by first | kernel_rfl | rfl, ?_⟩, fun _ => rfl⟩ ?_
      rotate_left 1
      · (intro w; go_simp) <;> (with_reducible rfl)
      refine wpAnyIn_take (i := 15) (v := ?_) rfl rfl (by kernel_rfl) (by kernel_rfl) (by kernel_rfl) (fun _ _ _ h => h) ⟨Or.inl ⟨by first | kernel_rfl | rfl, ?_⟩, fun _ => rfl⟩ ?_
      rotate_left 1
      · (intro w; go_simp) <;> (with_reducible rfl)
      refine wpAnyIn_take (i := 16) (v := ?_) rfl rfl (by kernel_rfl) (by kernel_rfl) (by kernel_rfl) (fun _ _ _ h => h) ⟨Or.inl ⟨by first | kernel_rfl | rfl, ?_⟩, fun _ => rfl⟩ ?_
      rotate_left 1
      · (intro w; go_simp) <;> (with_reducible rfl)
      refine wpAnyIn_take (i := 17) (v := ?_) rfl rfl (by kernel_rfl) (by kernel_rfl) (by kernel_rfl) (fun _ _ _ h => h) ⟨Or.inl ⟨by first | kernel_rfl | rfl, ?_⟩, fun _ => rfl⟩ ?_
      rotate_left 1
      · (intro w; go_simp) <;> (with_reducible rfl)
      refine wpAnyIn_ready (rs := [14, 18]) (by kernel_rfl) (by simp) ?_
      refine AllReadyIn.cons rfl (fun K hK => ?_) (AllReadyIn.cons rfl (fun K hK => ?_) AllReadyIn.nil)
      · go_simp
        refine hK _ _ ?_
        clear hK K
        refine wpAnyIn_ready (rs := [18]) (by kernel_rfl) (by simp) ?_
        refine AllReadyIn.cons rfl (fun K hK => ?_) AllReadyIn.nil
        go_simp
        refine hK _ _ ?_
        clear hK K
        refine wpAnyIn_ready (rs := [19]) (by kernel_rfl) (by simp) ?_
        refine AllReadyIn.cons rfl (fun K hK => ?_) AllReadyIn.nil
        go_simp
        refine ⟨fun h => (by cases h), ?_⟩
        refine HR.out.mono ?_
        rintro e W2 (⟨rfl, hj2, hk2⟩ | ⟨rfl, hx2⟩)
        all_goals refine hK _ _ ?_
        all_goals clear hK K
        · -- the round goes on
          have HK2 := hid (keepsT_t HK1.out hk2)
          have hT2 := HT.out.keeps HK2.out HP.out
          have d3 := hT2.1.c3
          have HI3 := hid (IR.out (n - 1) (pre ++ tl.pairs ++ [(k, v)]) W2 hT2.2.2 (fun x hx => HP.out x (by simp [Tr.blocks, hx])) hj2 (by have := HN.out; simp only [Tr.pairs, List.length_append, List.length_cons, List.length_nil] at this ⊢; omega))
          clear hk2 hj2 hT2 c0 c1 hy
          refine wpAnyIn_take (i := 20) (v := ?_) rfl rfl (by kernel_rfl) (by kernel_rfl) (by kernel_rfl) (fun _ _ _ h => h) ⟨Or.inl ⟨by first | kernel_rfl | rfl, ?_⟩, fun _ => rfl⟩ ?_
          rotate_left 1
          · (intro w; go_simp) <;> (with_reducible rfl)
          refine wpAnyIn_take (i := 21) (v := ?_) rfl rfl (by kernel_rfl) (by kernel_rfl) (by kernel_rfl) (fun _ _ _ h => h) ⟨Or.inl ⟨by first | kernel_rfl | rfl, ?_⟩, fun _ => rfl⟩ ?_
          rotate_left 1
          · (intro w; go_simp) <;> (with_reducible rfl)
          refine wpAnyIn_take (i := 22) (v := ?_) rfl rfl (by kernel_rfl) (by kernel_rfl) (by kernel_rfl) (fun _ _ _ h => h) ⟨Or.inl ⟨by first | kernel_rfl | rfl, ?_⟩, fun _ => rfl⟩ ?_
          rotate_left 1
          · (intro w; go_simp) <;> (with_reducible rfl)
          refine wpAnyIn_take (i := 23) (v := ?_) rfl rfl (by kernel_rfl) (by kernel_rfl) (by kernel_rfl) (fun _ _ _ h => h) ⟨Or.inl ⟨by first | kernel_rfl | rfl, ?_⟩, fun _ => rfl⟩ ?_
          rotate_left 1
          · (intro w; go_simp) <;> (with_reducible rfl)
          refine wpAnyIn_take (i := 24) (v := ?_) rfl rfl (by kernel_rfl) (by kernel_rfl) (by kernel_rfl) (fun _ _ _ h => h) ⟨Or.inl ⟨by first | kernel_rfl | rfl, ?_⟩, fun _ => rfl⟩ ?_
          rotate_left 1
          · (intro w; go_simp) <;> (with_reducible rfl)
          refine wpAnyIn_take (i := 26) (v := ?_) rfl rfl (by kernel_rfl) (by kernel_rfl) (by kernel_rfl) (fun _ _ _ h => h) ⟨Or.inl ⟨by first | kernel_rfl | rfl, ?_⟩, fun _ => rfl⟩ ?_
          rotate_left 1
          · (intro w; go_simp) <;> (with_reducible rfl)
          refine wpAnyIn_ready (rs := [25]) (by kernel_rfl) (by simp) ?_
          refine AllReadyIn.cons rfl (fun K hK => ?_) AllReadyIn.nil
          go_simp
          refine hK _ _ ?_
          clear hK K
          refine wpAnyIn_ready (rs := [27]) (by kernel_rfl) (by simp) ?_
          refine AllReadyIn.cons rfl (fun K hK => ?_) AllReadyIn.nil
          go_simp
          refine ⟨trivial, fun h => (by cases h), ?_⟩
          refine HI3.out.mono ?_
          rintro e W3 (⟨rfl, hj3, hk3⟩ | ⟨rfl, q, hq, hx3⟩)
          all_goals refine hK _ _ ?_
          all_goals clear hK K
          · -- all has been gone through
            refine wpAnyIn_take (i := 28) (v := ?_) rfl rfl (by kernel_rfl) (by kernel_rfl) (by kernel_rfl) (fun _ _ _ h => h) ⟨Or.inl ⟨by first | kernel_rfl | rfl, ?_⟩, fun _ => rfl⟩ ?_
            rotate_left 1
            · (intro w; go_simp) <;> (with_reducible rfl)
            refine wpAnyIn_take (i := 29) (v := ?_) rfl rfl (by kernel_rfl) (by kernel_rfl) (by kernel_rfl) (fun _ _ _ h => h) ⟨Or.inl ⟨by first | kernel_rfl | rfl, ?_⟩, fun _ => rfl⟩ ?_
            rotate_left 1
            · (intro w; go_simp) <;> (with_reducible rfl)
            refine wpAnyIn_take (i := 30) (v := ?_) rfl rfl (by kernel_rfl) (by kernel_rfl) (by kernel_rfl) (fun _ _ _ h => h) ⟨Or.inl ⟨by first | kernel_rfl | rfl, ?_⟩, fun _ => rfl⟩ ?_
            rotate_left 1
            · (intro w; go_simp) <;> (with_reducible rfl)
            refine wpAnyIn_done (by kernel_rfl) ?_ _
            gi_wp2
            go_ret
            exact .inl ⟨rfl, by simpa [Tr.pairs, List.append_assoc] using hj3, keepsT_t HK2.out hk3⟩
          · -- the right side was cut short
            refine wpAnyIn_take (i := 28) (v := ?_) rfl rfl (by kernel_rfl) (by kernel_rfl) (by kernel_rfl) (fun _ _ _ h => h) ⟨Or.inl ⟨by first | kernel_rfl | rfl, ?_⟩, fun _ => rfl⟩ ?_
            rotate_left 1
            · (intro w; go_simp) <;> (with_reducible rfl)
            refine wpAnyIn_take (i := 29) (v := ?_) rfl rfl (by kernel_rfl) (by kernel_rfl) (by kernel_rfl) (fun _ _ _ h => h) ⟨Or.inl ⟨by first | kernel_rfl | rfl, ?_⟩, fun _ => rfl⟩ ?_
            rotate_left 1
            · (intro w; go_simp) <;> (with_reducible rfl)
            refine wpAnyIn_take (i := 30) (v := ?_) rfl rfl (by kernel_rfl) (by kernel_rfl) (by kernel_rfl) (fun _ _ _ h => h) ⟨Or.inl ⟨by first | kernel_rfl | rfl, ?_⟩, fun _ => rfl⟩ ?_
            rotate_left 1
            · (intro w; go_simp) <;> (with_reducible rfl)
            refine wpAnyIn_done (by kernel_rfl) ?_ _
            gi_wp2
            go_ret
            obtain ⟨r, hr'⟩ := hq
            exact .inr ⟨rfl, tl.pairs ++ (k, v) :: q, ⟨r, by simp [Tr.pairs, ← hr']⟩, by simpa [List.append_assoc] using hx3⟩
        · -- the round has said that is all
          clear c0 c1 hy
          refine wpAnyIn_take (i := 20) (v := ?_) rfl rfl (by kernel_rfl) (by kernel_rfl) (by kernel_rfl) (fun _ _ _ h => h) ⟨Or.inl ⟨by first | kernel_rfl | rfl, ?_⟩, fun _ => rfl⟩ ?_
          rotate_left 1
          · (intro w; go_simp) <;> (with_reducible rfl)
          refine wpAnyIn_take (i := 21) (v := ?_) rfl rfl (by kernel_rfl) (by kernel_rfl) (by kernel_rfl) (fun _ _ _ h => h) ⟨Or.inl ⟨by first | kernel_rfl | rfl, ?_⟩, fun _ => rfl⟩ ?_
          rotate_left 1
          · (intro w; go_simp) <;> (with_reducible rfl)
          refine wpAnyIn_take (i := 22) (v := undef) rfl rfl (by kernel_rfl) (by kernel_rfl) (by kernel_rfl) (fun _ _ _ h => h) ⟨Or.inr ⟨by first | kernel_rfl | rfl, rfl⟩, fun _ => rfl⟩ ?_
          refine wpAnyIn_take (i := 23) (v := undef) rfl rfl (by kernel_rfl) (by kernel_rfl) (by kernel_rfl) (fun _ _ _ h => h) ⟨Or.inr ⟨by first | kernel_rfl | rfl, rfl⟩, fun _ => rfl⟩ ?_
          refine wpAnyIn_take (i := 24) (v := undef) rfl rfl (by kernel_rfl) (by kernel_rfl) (by kernel_rfl) (fun _ _ _ h => h) ⟨Or.inr ⟨by first | kernel_rfl | rfl, rfl⟩, fun _ => rfl⟩ ?_
          refine wpAnyIn_take (i := 26) (v := undef) rfl rfl (by kernel_rfl) (by kernel_rfl) (by kernel_rfl) (fun _ _ _ h => h) ⟨Or.inr ⟨by first | kernel_rfl | rfl, rfl⟩, fun _ => rfl⟩ ?_
          refine wpAnyIn_take (i := 25) (v := undef) rfl rfl (by kernel_rfl) (by kernel_rfl) (by kernel_rfl) (fun _ _ _ h => h) ⟨Or.inr ⟨by first | kernel_rfl | rfl, rfl⟩, fun _ => rfl⟩ ?_
          refine wpAnyIn_ready (rs := [27]) (by kernel_rfl) (by simp) ?_
          refine AllReadyIn.cons rfl (fun K hK => ?_) AllReadyIn.nil
          go_simp
          refine ⟨trivial, ?_⟩
          refine hK _ _ ?_
          clear hK K
          refine wpAnyIn_take (i := 28) (v := ?_) rfl rfl (by kernel_rfl) (by kernel_rfl) (by kernel_rfl) (fun _ _ _ h => h) ⟨Or.inl ⟨by first | kernel_rfl | rfl, ?_⟩, fun _ => rfl⟩ ?_
          rotate_left 1
          · (intro w; go_simp) <;> (with_reducible rfl)
          refine wpAnyIn_take (i := 29) (v := ?_) rfl rfl (by kernel_rfl) (by kernel_rfl) (by kernel_rfl) (fun _ _ _ h => h) ⟨Or.inl ⟨by first | kernel_rfl | rfl, ?_⟩, fun _ => rfl⟩ ?_
          rotate_left 1
          · (intro w; go_simp) <;> (with_reducible rfl)
          refine wpAnyIn_take (i := 30) (v := ?_) rfl rfl (by kernel_rfl) (by kernel_rfl) (by kernel_rfl) (fun _ _ _ h => h) ⟨Or.inl ⟨by first | kernel_rfl | rfl, ?_⟩, fun _ => rfl⟩ ?_
          rotate_left 1
          · (intro w; go_simp) <;> (with_reducible rfl)
          refine wpAnyIn_done (by kernel_rfl) ?_ _
          gi_wp2
          go_ret
          exact .inr ⟨rfl, tl.pairs ++ [(k, v)], ⟨tr.pairs, by simp [Tr.pairs]⟩, by simpa [List.append_assoc] using hx2⟩
      · go_simp
        refine hK _ _ ?_
        clear hK K
        refine wpAnyIn_ready (rs := [14]) (by kernel_rfl) (by simp) ?_
        refine AllReadyIn.cons rfl (fun K hK => ?_) AllReadyIn.nil
        go_simp
        refine hK _ _ ?_
        clear hK K
        refine wpAnyIn_ready (rs := [19]) (by kernel_rfl) (by simp) ?_
        refine AllReadyIn.cons rfl (fun K hK => ?_) AllReadyIn.nil
        go_simp
        refine ⟨fun h => (by cases h), ?_⟩
        refine HR.out.mono ?_
        rintro e W2 (⟨rfl, hj2, hk2⟩ | ⟨rfl, hx2⟩)
        all_goals refine hK _ _ ?_
        all_goals clear hK K
        · -- the round goes on
          have HK2 := hid (keepsT_t HK1.out hk2)
          have hT2 := HT.out.keeps HK2.out HP.out
          have d3 := hT2.1.c3
          have HI3 := hid (IR.out (n - 1) (pre ++ tl.pairs ++ [(k, v)]) W2 hT2.2.2 (fun x hx => HP.out x (by simp [Tr.blocks, hx])) hj2 (by have := HN.out; simp only [Tr.pairs, List.length_append, List.length_cons, List.length_nil] at this ⊢; omega))
          clear hk2 hj2 hT2 c0 c1 hy
          refine wpAnyIn_take (i := 20) (v := ?_) rfl rfl (by kernel_rfl) (by kernel_rfl) (by kernel_rfl) (fun _ _ _ h => h) ⟨Or.inl ⟨by first | kernel_rfl | rfl, ?_⟩, fun _ => rfl⟩ ?_
          rotate_left 1
          · (intro w; go_simp) <;> (with_reducible rfl)
          refine wpAnyIn_take (i := 21) (v := ?_) rfl rfl (by kernel_rfl) (by kernel_rfl) (by kernel_rfl) (fun _ _ _ h => h) ⟨Or.inl ⟨by first | kernel_rfl | rfl, ?_⟩, fun _ => rfl⟩ ?_
          rotate_left 1
          · (intro w; go_simp) <;> (with_reducible rfl)
          refine wpAnyIn_take (i := 22) (v := ?_) rfl rfl (by kernel_rfl) (by kernel_rfl) (by kernel_rfl) (fun _ _ _ h => h) ⟨Or.inl ⟨by first | kernel_rfl | rfl, ?_⟩, fun _ => rfl⟩ ?_
          rotate_left 1
          · (intro w; go_simp) <;> (with_reducible rfl)
          refine wpAnyIn_take (i := 23) (v := ?_) rfl rfl (by kernel_rfl) (by kernel_rfl) (by kernel_rfl) (fun _ _ _ h => h) ⟨Or.inl ⟨by first | kernel_rfl | rfl, ?_⟩, fun _ => rfl⟩ ?_
          rotate_left 1
          · (intro w; go_simp) <;> (with_reducible rfl)
          refine wpAnyIn_take (i := 24) (v := ?_) rfl rfl (by kernel_rfl) (by kernel_rfl) (by kernel_rfl) (fun _ _ _ h => h) ⟨Or.inl ⟨by first | kernel_rfl | rfl, ?_⟩, fun _ => rfl⟩ ?_
          rotate_left 1
          · (intro w; go_simp) <;> (with_reducible rfl)
          refine wpAnyIn_take (i := 26) (v := ?_) rfl rfl (by kernel_rfl) (by kernel_rfl) (by kernel_rfl) (fun _ _ _ h => h) ⟨Or.inl ⟨by first | kernel_rfl | rfl, ?_⟩, fun _ => rfl⟩ ?_
          rotate_left 1
          · (intro w; go_simp) <;> (with_reducible rfl)
          refine wpAnyIn_ready (rs := [25]) (by kernel_rfl) (by simp) ?_
          refine AllReadyIn.cons rfl (fun K hK => ?_) AllReadyIn.nil
          go_simp
          refine hK _ _ ?_
          clear hK K
          refine wpAnyIn_ready (rs := [27]) (by kernel_rfl) (by simp) ?_
          refine AllReadyIn.cons rfl (fun K hK => ?_) AllReadyIn.nil
          go_simp
          refine ⟨trivial, fun h => (by cases h), ?_⟩
          refine HI3.out.mono ?_
          rintro e W3 (⟨rfl, hj3, hk3⟩ | ⟨rfl, q, hq, hx3⟩)
          all_goals refine hK _ _ ?_
          all_goals clear hK K
          · -- all has been gone through
            refine wpAnyIn_take (i := 28) (v := ?_) rfl rfl (by kernel_rfl) (by kernel_rfl) (by kernel_rfl) (fun _ _ _ h => h) ⟨Or.inl ⟨by first | kernel_rfl | rfl, ?_⟩, fun _ => rfl⟩ ?_
            rotate_left 1
            · (intro w; go_simp) <;> (with_reducible rfl)
            refine wpAnyIn_take (i := 29) (v := ?_) rfl rfl (by kernel_rfl) (by kernel_rfl) (by kernel_rfl) (fun _ _ _ h => h) ⟨Or.inl ⟨by first | kernel_rfl | rfl, ?_⟩, fun _ => rfl⟩ ?_
            rotate_left 1
            · (intro w; go_simp) <;> (with_reducible rfl)
            refine wpAnyIn_take (i := 30) (v := ?_) rfl rfl (by kernel_rfl) (by kernel_rfl) (by kernel_rfl) (fun _ _ _ h => h) ⟨Or.inl ⟨by first | kernel_rfl | rfl, ?_⟩, fun _ => rfl⟩ ?_
            rotate_left 1
            · (intro w; go_simp) <;> (with_reducible rfl)
            refine wpAnyIn_done (by kernel_rfl) ?_ _
            gi_wp2
            go_ret
            exact .inl ⟨rfl, by simpa [Tr.pairs, List.append_assoc] using hj3, keepsT_t HK2.out hk3⟩
          · -- the right side was cut short
            refine wpAnyIn_take (i := 28) (v := ?_) rfl rfl (by kernel_rfl) (by kernel_rfl) (by kernel_rfl) (fun _ _ _ h => h) ⟨Or.inl ⟨by first | kernel_rfl | rfl, ?_⟩, fun _ => rfl⟩ ?_
            rotate_left 1
            · (intro w; go_simp) <;> (with_reducible rfl)
            refine wpAnyIn_take (i := 29) (v := ?_) rfl rfl (by kernel_rfl) (by kernel_rfl) (by kernel_rfl) (fun _ _ _ h => h) ⟨Or.inl ⟨by first | kernel_rfl | rfl, ?_⟩, fun _ => rfl⟩ ?_
            rotate_left 1
            · (intro w; go_simp) <;> (with_reducible rfl)
            refine wpAnyIn_take (i := 30) (v := ?_) rfl rfl (by kernel_rfl) (by kernel_rfl) (by kernel_rfl) (fun _ _ _ h => h) ⟨Or.inl ⟨by first | kernel_rfl | rfl, ?_⟩, fun _ => rfl⟩ ?_
            rotate_left 1
            · (intro w; go_simp) <;> (with_reducible rfl)
            refine wpAnyIn_done (by kernel_rfl) ?_ _
            gi_wp2
            go_ret
            obtain ⟨r, hr'⟩ := hq
            exact .inr ⟨rfl, tl.pairs ++ (k, v) :: q, ⟨r, by simp [Tr.pairs, ← hr']⟩, by simpa [List.append_assoc] using hx3⟩
        · -- the round has said that is all
          clear c0 c1 hy
          refine wpAnyIn_take (i := 20) (v := ?_) rfl rfl (by kernel_rfl) (by kernel_rfl) (by kernel_rfl) (fun _ _ _ h => h) ⟨Or.inl ⟨by first | kernel_rfl | rfl, ?_⟩, fun _ => rfl⟩ ?_
          rotate_left 1
          · (intro w; go_simp) <;> (with_reducible rfl)
          refine wpAnyIn_take (i := 21) (v := ?_) rfl rfl (by kernel_rfl) (by kernel_rfl) (by kernel_rfl) (fun _ _ _ h => h) ⟨Or.inl ⟨by first | kernel_rfl | rfl, ?_⟩, fun _ => rfl⟩ ?_
          rotate_left 1
          · (intro w; go_simp) <;> (with_reducible rfl)
          refine wpAnyIn_take (i := 22) (v := undef) rfl rfl (by kernel_rfl) (by kernel_rfl) (by kernel_rfl) (fun _ _ _ h => h) ⟨Or.inr ⟨by first | kernel_rfl | rfl, rfl⟩, fun _ => rfl⟩ ?_
          refine wpAnyIn_take (i := 23) (v := undef) rfl rfl (by kernel_rfl) (by kernel_rfl) (by kernel_rfl) (fun _ _ _ h => h) ⟨Or.inr ⟨by first | kernel_rfl | rfl, rfl⟩, fun _ => rfl⟩ ?_
          refine wpAnyIn_take (i := 24) (v := undef) rfl rfl (by kernel_rfl) (by kernel_rfl) (by kernel_rfl) (fun _ _ _ h => h) ⟨Or.inr ⟨by first | kernel_rfl | rfl, rfl⟩, fun _ => rfl⟩ ?_
          refine wpAnyIn_take (i := 26) (v := undef) rfl rfl (by kernel_rfl) (by kernel_rfl) (by kernel_rfl) (fun _ _ _ h => h) ⟨Or.inr ⟨by first | kernel_rfl | rfl, rfl⟩, fun _ => rfl⟩ ?_
          refine wpAnyIn_take (i := 25) (v := undef) rfl rfl (by kernel_rfl) (by kernel_rfl) (by kernel_rfl) (fun _ _ _ h => h) ⟨Or.inr ⟨by first | kernel_rfl | rfl, rfl⟩, fun _ => rfl⟩ ?_
          refine wpAnyIn_ready (rs := [27]) (by kernel_rfl) (by simp) ?_
          refine AllReadyIn.cons rfl (fun K hK => ?_) AllReadyIn.nil
          go_simp
          refine ⟨trivial, ?_⟩
          refine hK _ _ ?_
          clear hK K
          refine wpAnyIn_take (i := 28) (v := ?_) rfl rfl (by kernel_rfl) (by kernel_rfl) (by kernel_rfl) (fun _ _ _ h => h) ⟨Or.inl ⟨by first | kernel_rfl | rfl, ?_⟩, fun _ => rfl⟩ ?_
          rotate_left 1
          · (intro w; go_simp) <;> (with_reducible rfl)
          refine wpAnyIn_take (i := 29) (v := ?_) rfl rfl (by kernel_rfl) (by kernel_rfl) (by kernel_rfl) (fun _ _ _ h => h) ⟨Or.inl ⟨by first | kernel_rfl | rfl, ?_⟩, fun _ => rfl⟩ ?_
          rotate_left 1
          · (intro w; go_simp) <;> (with_reducible rfl)
          refine wpAnyIn_take (i := 30) (v := ?_) rfl rfl (by kernel_rfl) (by kernel_rfl) (by kernel_rfl) (fun _ _ _ h => h) ⟨Or.inl ⟨by first | kernel_rfl | rfl, ?_⟩, fun _ => rfl⟩ ?_
          rotate_left 1
          · (intro w; go_simp) <;> (with_reducible rfl)
          refine wpAnyIn_done (by kernel_rfl) ?_ _
          gi_wp2
          go_ret
          exact .inr ⟨rfl, tl.pairs ++ [(k, v)], ⟨tr.pairs, by simp [Tr.pairs]⟩, by simpa [List.append_assoc] using hx2⟩
    · -- the left side was cut short
      refine wpAnyIn_take (i := 9) (v := ?_) rfl rfl (by kernel_rfl) (by kernel_rfl) (by kernel_rfl) (fun _ _ _ h => h) ⟨Or.inl ⟨by first | kernel_rfl | rfl, ?_⟩, fun _ => rfl⟩ ?_
      rotate_left 1
      · (intro w; go_simp) <;> (with_reducible rfl)
      refine wpAnyIn_take (i := 10) (v := undef) rfl rfl (by kernel_rfl) (by kernel_rfl) (by kernel_rfl) (fun _ _ _ h => h) ⟨Or.inr ⟨by first | kernel_rfl | rfl, rfl⟩, fun _ => rfl⟩ ?_
      refine wpAnyIn_take (i := 11) (v := undef) rfl rfl (by kernel_rfl) (by kernel_rfl) (by kernel_rfl) (fun _ _ _ h => h) ⟨Or.inr ⟨by first | kernel_rfl | rfl, rfl⟩, fun _ => rfl⟩ ?_
      refine wpAnyIn_take (i := 12) (v := undef) rfl rfl (by kernel_rfl) (by kernel_rfl) (by kernel_rfl) (fun _ _ _ h => h) ⟨Or.inr ⟨by first | kernel_rfl | rfl, rfl⟩, fun _ => rfl⟩ ?_
      refine wpAnyIn_take (i := 13) (v := undef) rfl rfl (by kernel_rfl) (by kernel_rfl) (by kernel_rfl) (fun _ _ _ h => h) ⟨Or.inr ⟨by first | kernel_rfl | rfl, rfl⟩, fun _ => rfl⟩ ?_
      refine wpAnyIn_take (i := 14) (v := undef) rfl rfl (by kernel_rfl) (by kernel_rfl) (by kernel_rfl) (fun _ _ _ h => h) ⟨Or.inr ⟨by first | kernel_rfl | rfl, rfl⟩, fun _ => rfl⟩ ?_
      refine wpAnyIn_take (i := 15) (v := undef) rfl rfl (by kernel_rfl) (by kernel_rfl) (by kernel_rfl) (fun _ _ _ h => h) ⟨Or.inr ⟨by first | kernel_rfl | rfl, rfl⟩, fun _ => rfl⟩ ?_
      refine wpAnyIn_take (i := 16) (v := undef) rfl rfl (by kernel_rfl) (by kernel_rfl) (by kernel_rfl) (fun _ _ _ h => h) ⟨Or.inr ⟨by first | kernel_rfl | rfl, rfl⟩, fun _ => rfl⟩ ?_
      refine wpAnyIn_take (i := 17) (v := undef) rfl rfl (by kernel_rfl) (by kernel_rfl) (by kernel_rfl) (fun _ _ _ h => h) ⟨Or.inr ⟨by first | kernel_rfl | rfl, rfl⟩, fun _ => rfl⟩ ?_
      refine wpAnyIn_take (i := 18) (v := undef) rfl rfl (by kernel_rfl) (by kernel_rfl) (by kernel_rfl) (fun _ _ _ h => h) ⟨Or.inr ⟨by first | kernel_rfl | rfl, rfl⟩, fun _ => rfl⟩ ?_
      refine wpAnyIn_ready (rs := [19]) (by kernel_rfl) (by simp) ?_
      refine AllReadyIn.cons rfl (fun K hK => ?_) AllReadyIn.nil
      go_simp
      refine ⟨fun _ h => (by cases h), ?_⟩
      refine hK _ _ ?_
      clear hK K
      refine wpAnyIn_take (i := 20) (v := ?_) rfl rfl (by kernel_rfl) (by kernel_rfl) (by kernel_rfl) (fun _ _ _ h => h) ⟨Or.inl ⟨by first | kernel_rfl | rfl, ?_⟩, fun _ => rfl⟩ ?_
      rotate_left 1
      · (intro w; go_simp) <;> (with_reducible rfl)
      refine wpAnyIn_take (i := 21) (v := ?_) rfl rfl (by kernel_rfl) (by kernel_rfl) (by kernel_rfl) (fun _ _ _ h => h) ⟨Or.inl ⟨by first | kernel_rfl | rfl, ?_⟩, fun _ => rfl⟩ ?_
      rotate_left 1
      · (intro w; go_simp) <;> (with_reducible rfl)
      refine wpAnyIn_take (i := 22) (v := undef) rfl rfl (by kernel_rfl) (by kernel_rfl) (by kernel_rfl) (fun _ _ _ h => h) ⟨Or.inr ⟨by first | kernel_rfl | rfl, rfl⟩, fun _ => rfl⟩ ?_
      refine wpAnyIn_take (i := 23) (v := undef) rfl rfl (by kernel_rfl) (by kernel_rfl) (by kernel_rfl) (fun _ _ _ h => h) ⟨Or.inr ⟨by first | kernel_rfl | rfl, rfl⟩, fun _ => rfl⟩ ?_
      refine wpAnyIn_take (i := 24) (v := undef) rfl rfl (by kernel_rfl) (by kernel_rfl) (by kernel_rfl) (fun _ _ _ h => h) ⟨Or.inr ⟨by first | kernel_rfl | rfl, rfl⟩, fun _ => rfl⟩ ?_
      refine wpAnyIn_take (i := 26) (v := undef) rfl rfl (by kernel_rfl) (by kernel_rfl) (by kernel_rfl) (fun _ _ _ h => h) ⟨Or.inr ⟨by first | kernel_rfl | rfl, rfl⟩, fun _ => rfl⟩ ?_
      refine wpAnyIn_take (i := 25) (v := undef) rfl rfl (by kernel_rfl) (by kernel_rfl) (by kernel_rfl) (fun _ _ _ h => h) ⟨Or.inr ⟨by first | kernel_rfl | rfl, rfl⟩, fun _ => rfl⟩ ?_
      refine wpAnyIn_ready (rs := [27]) (by kernel_rfl) (by simp) ?_
      refine AllReadyIn.cons rfl (fun K hK => ?_) AllReadyIn.nil
      go_simp
      refine ⟨trivial, ?_⟩
      refine hK _ _ ?_
      clear hK K
      refine wpAnyIn_take (i := 28) (v := ?_) rfl rfl (by kernel_rfl) (by kernel_rfl) (by kernel_rfl) (fun _ _ _ h => h) ⟨Or.inl ⟨by first | kernel_rfl | rfl, ?_⟩, fun _ => rfl⟩ ?_
      rotate_left 1
      · (intro w; go_simp) <;> (with_reducible rfl)
      refine wpAnyIn_take (i := 29) (v := ?_) rfl rfl (by kernel_rfl) (by kernel_rfl) (by kernel_rfl) (fun _ _ _ h => h) ⟨Or.inl ⟨by first | kernel_rfl | rfl, ?_⟩, fun _ => rfl⟩ ?_
      rotate_left 1
      · (intro w; go_simp) <;> (with_reducible rfl)
      refine wpAnyIn_take (i := 30) (v := ?_) rfl rfl (by kernel_rfl) (by kernel_rfl) (by kernel_rfl) (fun _ _ _ h => h) ⟨Or.inl ⟨by first | kernel_rfl | rfl, ?_⟩, fun _ => rfl⟩ ?_
      rotate_left 1
      · (intro w; go_simp) <;> (with_reducible rfl)
      refine wpAnyIn_done (by kernel_rfl) ?_ _
      gi_wp2
      go_ret
      exact .inr ⟨rfl, q, hq.trans (by simp [Tr.pairs]), hx1⟩
end TI
end Go.Proofs.Ytfjeagffdijcoaa
namespace Go.Proofs.Ytfjeagffdijcoaa
open Go.RowKit Go.Shelf
attribute [local go_sem] Oper.semAt_some

/-- does a pair lie from lo to hi? -/
def inR {κ ν : Type} (c : κ → κ → Int) (lo hi : κ) (p : κ × ν) : Bool := decide (0 ≤ c p.1 lo) && decide (c p.1 hi ≤ 0)
theorem inR_below {κ ν : Type} {c : κ → κ → Int} (ho : WOrd c) {lo hi k : κ} (h : c k lo < 0) {l : List (κ × ν)} (hl : ∀ x ∈ l, c x.1 k < 0) : l.filter (inR c lo hi) = [] := by
  rw [List.filter_eq_nil_iff]
  intro x hx
  have := ho.lt_lt (hl x hx) h
  simp only [inR, Bool.and_eq_true, decide_eq_true_eq, not_and]
  omega
theorem inR_above {κ ν : Type} {c : κ → κ → Int} (ho : WOrd c) {lo hi k : κ} (h : 0 < c k hi) {l : List (κ × ν)} (hl : ∀ x ∈ l, c k x.1 < 0) : l.filter (inR c lo hi) = [] := by
  rw [List.filter_eq_nil_iff]
  intro x hx
  have := ho.lt_lt ((ho.anti hi k).2 h) (hl x hx)
  have := (ho.anti hi x.1).1 this
  simp only [inR, Bool.and_eq_true, decide_eq_true_eq, not_and]
  omega

namespace TI
theorem compare_same (w : World) (a b : Int) : Calls Try.prog 76 #[.int .i64 a, .int .i64 b] w fun e w' => e = .returned (.int .i64 (cmpI a b)) ∧ w' = w := by
  rcases Int.lt_trichotomy a b with h | h | h
  · have e : Hid (cmpI a b = -1) := by show _ = _; unfold cmpI; rw [if_pos h]
    go_enter Try.func76, Try.ntmps76
    go_wp2_with (go_at_call 126; refine (isNaN_any _ _).mono ?_; rintro e w' ⟨rfl, rfl⟩)
    go_ret
    exact ⟨by rw [e.out]; rfl, rfl⟩
  · have e : Hid (cmpI a b = 0) := by show _ = _; unfold cmpI; rw [if_neg (by omega), if_neg (by omega)]
    go_enter Try.func76, Try.ntmps76
    go_wp2_with (go_at_call 126; refine (isNaN_any _ _).mono ?_; rintro e w' ⟨rfl, rfl⟩)
    go_ret
    exact ⟨by rw [e.out]; rfl, rfl⟩
  · have e : Hid (cmpI a b = 1) := by show _ = _; unfold cmpI; rw [if_neg (by omega), if_pos h]
    go_enter Try.func76, Try.ntmps76
    go_wp2_with (go_at_call 126; refine (isNaN_any _ _).mono ?_; rintro e w' ⟨rfl, rfl⟩)
    go_ret
    exact ⟨by rw [e.out]; rfl, rfl⟩

set_option maxRecDepth 100000 in
set_option maxHeartbeats 4000000 in
theorem walkIn_in (g : Nat) (cb : Array Value) (c : Int → Int → Int) (hc : WOrd c) (I : World → Prop) (eg : ∀ args w, (callFunc g args).run Try.prog w = .ok (.enter g args) w)
    (hcall : ∀ w a b, I w → Calls Try.prog g (#[.int .i64 a, .int .i64 b] ++ cb) w fun e w' => e = .returned (.int .i64 (c a b)) ∧ w' = w) (hId : ∀ w q, I w → I (w.drewN q)) (lo hi : Int) (l N : Nat) (P : Nat → Prop) (J Jx : List (Int × Int) → World → Prop) (hJI : ∀ pre W, J pre W → I W)
    (hY : ∀ m pre x W, J pre W → pre.length < N → YieldAt Fence.wide m Try.prog l #[.int .i64 x.1, .int .i64 x.2] W fun e W' =>
      (e = .returned (.bool true) ∧ J (pre ++ [x]) W' ∧ KeepsT P W W') ∨ (e = .returned (.bool false) ∧ Jx (pre ++ [x]) W')) (hJd : ∀ pre W q, J pre W → J pre (W.drewN q)) (T : Tr Int Int) :
    ∀ (n : Nat) (pre : List (Int × Int)) (W : World), Held ek ev W T → (∀ x ∈ T.blocks, P x) → Up c T.pairs → J pre W → pre.length + (T.pairs.filter (inR c lo hi)).length ≤ N →
      CallsIn Fence.wide n Try.prog 81 #[T.ptr, ordV g cb, .int .i64 lo, .int .i64 hi, .func (.yield l) #[] #[]] W fun e W' =>
        (e = .returned (.bool true) ∧ J (pre ++ T.pairs.filter (inR c lo hi)) W' ∧ KeepsT P W W') ∨ (e = .returned (.bool false) ∧ ∃ q, q <+: T.pairs.filter (inR c lo hi) ∧ Jx (pre ++ q) W') := by
  induction T with
  | nil =>
    intro n pre W ht _ _ hJ _
    show CallsIn _ _ _ _ #[.pointer none, _, _, _, _] _ _
    refine callsIn_of_wp Try.func81 rfl trivial ?_ rfl
    simp only [Try.ntmps81, List.size_toArray, List.length_cons, List.length_nil, Nat.reduceAdd, Nat.reduceSub, Array.replicate_succ, Array.replicate_zero, List.push_toArray, List.append_toArray, List.nil_append, List.cons_append]
    gi_wp2
    go_ret
    exact .inl ⟨rfl, (by show J (pre ++ []) _; rw [List.append_nil]; exact hJ), fun _ _ => rfl⟩
  | node b tl k v tr ihl ihr =>
    intro n pre W ht hP hU hJ hN
    obtain ⟨u1, u2, u3, u4, u5⟩ := up_mid.1 hU
    have hI0 := hJI _ _ hJ
    have HC1 := hid (hcall W.drew k lo (hId W 1 hI0))
    have HC2 := hid (hcall W.drew k hi (hId W 1 hI0))
    have c0 := ht.1.c0
    have HT := hid ht
    have HP := hid hP
    have HJ := hid hJ
    have HN := hid hN
    have IR := hid ihr
    have IL := hid ihl
    have HY := hid hY
    obtain ⟨x1, hx1⟩ : ∃ x, c k lo = x := ⟨_, rfl⟩
    obtain ⟨x2, hx2⟩ : ∃ x, c k hi = x := ⟨_, rfl⟩
    rw [hx1] at HC1
    rw [hx2] at HC2
    have HX1 := hid hx1
    have HX2 := hid hx2
    have HU := hid hU
    have U := hid (show Up c tl.pairs ∧ Up c tr.pairs ∧ (∀ x ∈ tl.pairs, c x.1 k < 0) ∧ (∀ y ∈ tr.pairs, c k y.1 < 0) from ⟨u1, u2, u3, u4⟩)
    clear ht hP hJ hN ihl ihr hx1 hx2 hU u1 u2 u3 u4 u5 hI0
    show CallsIn _ _ _ _ #[.pointer (some ⟨b, 0, none⟩), .func (.func g) #[] cb, _, _, _] _ _
    refine callsIn_of_wp Try.func81 rfl trivial ?_ rfl
    simp only [Try.ntmps81, List.size_toArray, List.length_cons, List.length_nil, Nat.reduceAdd, Nat.reduceSub, Array.replicate_succ, Array.replicate_zero, List.push_toArray, List.append_toArray, List.nil_append, List.cons_append]
    gi_wp2
    gi_cut [11, 12] from 31 (fun s11 s12 wc => s11 = .bool (decide (x1 < 0)) ∧ s12 = .bool (decide (0 < x2)) ∧ wc = W.drew)
    case first =>
      gi_region_with (first
        | (refine ⟨trivial, fun h => (by cases h), ?_⟩; with_reducible refine (callsIn_wide.2 HC1.out).mono ?_; rintro e w' ⟨rfl, hw⟩; obtain rfl : _ = w' := hw.symm)
        | (refine ⟨trivial, fun h => (by cases h), ?_⟩; with_reducible refine (callsIn_wide.2 HC2.out).mono ?_; rintro e w' ⟨rfl, hw⟩; obtain rfl : _ = w' := hw.symm))
      all_goals gi_wp2
      all_goals gi_meet
      all_goals exact ⟨rfl, rfl, rfl⟩
    case rest =>
    obtain ⟨rfl, rfl, rfl⟩ := hcut
    generalize hWd : W.drew = Wd
    have HTd : Hid (Held ek ev Wd (.node b tl k v tr)) := by rw [← hWd]; exact HT.out.drewN 1
    have HJd2 : Hid (J pre Wd) := by rw [← hWd]; exact hJd _ _ 1 HJ.out
    have HKd : Hid (KeepsT P W Wd) := by rw [← hWd]; exact fun _ _ => rfl
    have HSP : Hid ((Tr.node b tl k v tr).pairs.filter (inR c lo hi) = tl.pairs.filter (inR c lo hi) ++ (if inR c lo hi (k, v) = true then [(k, v)] else []) ++ tr.pairs.filter (inR c lo hi)) := by
      show _ = _
      simp only [Tr.pairs, List.filter_append, List.filter_cons]
      split <;> simp
    have hLen : pre.length + (tl.pairs.filter (inR c lo hi)).length + (tr.pairs.filter (inR c lo hi)).length ≤ N := by
      have h := HN.out
      rw [HSP.out] at h
      simp only [List.length_append] at h
      omega
    have HLB : Hid (inR c lo hi (k, v) = true → pre.length + (tl.pairs.filter (inR c lo hi)).length + 1 + (tr.pairs.filter (inR c lo hi)).length ≤ N) := by
      intro ht
      have h := HN.out
      rw [HSP.out, if_pos ht] at h
      simp only [List.length_append, List.length_cons, List.length_nil] at h
      omega
    have HJD : Hid (∀ pre W, J pre W → J pre W.drew) := fun p W h => hJd p W 1 h
    have d2 := HTd.out.1.c2
    have d3 := HTd.out.1.c3
    clear hWd c0 HC1 HC2
    by_cases g1 : x1 < 0
    · -- below
      have b1 : decide (x1 < 0) = true := by simpa using g1
      have e1 : Hid (tl.pairs.filter (inR c lo hi) = []) := inR_below hc (by rw [HX1.out]; exact g1) U.out.2.2.1
      have e2 : Hid (inR c lo hi (k, v) = false) := by show _ = _; unfold inR; simp only [HX1.out, Bool.and_eq_false_imp, decide_eq_true_eq]; omega
      by_cases g2 : 0 < x2
      · have b2 : decide (0 < x2) = true := by simpa using g2
        have e3 : Hid (tr.pairs.filter (inR c lo hi) = []) := inR_above hc (by rw [HX2.out]; exact g2) U.out.2.2.2
        clear g1 g2 hLen
        gi_wp2
        refine ⟨trivial, ?_⟩
        gi_wp2
        refine wpIn_region_any (by kernel_rfl) ?_
        try (change wpAnyIn _ _ _ _ _ _ _ _ _ (World.drew _))
        refine wpAnyIn_take (i := 0) (v := ?_) rfl rfl (by kernel_rfl) (by kernel_rfl) (by kernel_rfl) (fun _ _ _ h => h) ⟨Or.inl ⟨by first | kernel_rfl | rfl, ?_⟩, fun _ => rfl⟩ ?_
        rotate_left 1
        · (intro w; go_simp) <;> (with_reducible rfl)
        refine wpAnyIn_take (i := 1) (v := ?_) rfl rfl (by kernel_rfl) (by kernel_rfl) (by kernel_rfl) (fun _ _ _ h => h) ⟨Or.inl ⟨by first | kernel_rfl | rfl, ?_⟩, fun _ => rfl⟩ ?_
        rotate_left 1
        · (intro w; go_simp) <;> (with_reducible rfl)
        refine wpAnyIn_take (i := 2) (v := ?_) rfl rfl (by kernel_rfl) (by kernel_rfl) (by kernel_rfl) (fun _ _ _ h => h) ⟨Or.inl ⟨by first | kernel_rfl | rfl, ?_⟩, fun _ => rfl⟩ ?_
        rotate_left 1
        · (intro w; go_simp) <;> (with_reducible rfl)
        refine wpAnyIn_take (i := 3) (v := undef) rfl rfl (by kernel_rfl) (by kernel_rfl) (by kernel_rfl) (fun _ _ _ h => h) ⟨Or.inr ⟨by first | kernel_rfl | rfl, rfl⟩, fun _ => rfl⟩ ?_
        refine wpAnyIn_take (i := 4) (v := undef) rfl rfl (by kernel_rfl) (by kernel_rfl) (by kernel_rfl) (fun _ _ _ h => h) ⟨Or.inr ⟨by first | kernel_rfl | rfl, rfl⟩, fun _ => rfl⟩ ?_
        refine wpAnyIn_take (i := 5) (v := ?_) rfl rfl (by kernel_rfl) (by kernel_rfl) (by kernel_rfl) (fun _ _ _ h => h) ⟨Or.inl ⟨by first | kernel_rfl | rfl, ?_⟩, fun _ => rfl⟩ ?_
        rotate_left 1
        · (intro w; go_simp) <;> (with_reducible rfl)
        refine wpAnyIn_take (i := 6) (v := ?_) rfl rfl (by kernel_rfl) (by kernel_rfl) (by kernel_rfl) (fun _ _ _ h => h) ⟨Or.inl ⟨by first | kernel_rfl | rfl, ?_⟩, fun _ => rfl⟩ ?_
        rotate_left 1
        · (intro w; go_simp) <;> (with_reducible rfl)
        refine wpAnyIn_take (i := 7) (v := undef) rfl rfl (by kernel_rfl) (by kernel_rfl) (by kernel_rfl) (fun _ _ _ h => h) ⟨Or.inr ⟨by first | kernel_rfl | rfl, rfl⟩, fun _ => rfl⟩ ?_
        refine wpAnyIn_take (i := 8) (v := undef) rfl rfl (by kernel_rfl) (by kernel_rfl) (by kernel_rfl) (fun _ _ _ h => h) ⟨Or.inr ⟨by first | kernel_rfl | rfl, rfl⟩, fun _ => rfl⟩ ?_
        refine wpAnyIn_take (i := 9) (v := undef) rfl rfl (by kernel_rfl) (by kernel_rfl) (by kernel_rfl) (fun _ _ _ h => h) ⟨Or.inr ⟨by first | kernel_rfl | rfl, rfl⟩, fun _ => rfl⟩ ?_
        refine wpAnyIn_take (i := 10) (v := undef) rfl rfl (by kernel_rfl) (by kernel_rfl) (by kernel_rfl) (fun _ _ _ h => h) ⟨Or.inr ⟨by first | kernel_rfl | rfl, rfl⟩, fun _ => rfl⟩ ?_
        refine wpAnyIn_take (i := 12) (v := undef) rfl rfl (by kernel_rfl) (by kernel_rfl) (by kernel_rfl) (fun _ _ _ h => h) ⟨Or.inr ⟨by first | kernel_rfl | rfl, rfl⟩, fun _ => rfl⟩ ?_
        refine wpAnyIn_take (i := 13) (v := undef) rfl rfl (by kernel_rfl) (by kernel_rfl) (by kernel_rfl) (fun _ _ _ h => h) ⟨Or.inr ⟨by first | kernel_rfl | rfl, rfl⟩, fun _ => rfl⟩ ?_
        refine wpAnyIn_take (i := 14) (v := undef) rfl rfl (by kernel_rfl) (by kernel_rfl) (by kernel_rfl) (fun _ _ _ h => h) ⟨Or.inr ⟨by first | kernel_rfl | rfl, rfl⟩, fun _ => rfl⟩ ?_
        refine wpAnyIn_take (i := 11) (v := undef) rfl rfl (by kernel_rfl) (by kernel_rfl) (by kernel_rfl) (fun _ _ _ h => h) ⟨Or.inr ⟨by first | kernel_rfl | rfl, rfl⟩, fun _ => rfl⟩ ?_
        refine wpAnyIn_take (i := 15) (v := undef) rfl rfl (by kernel_rfl) (by kernel_rfl) (by kernel_rfl) (fun _ _ _ h => h) ⟨Or.inr ⟨by first | kernel_rfl | rfl, rfl⟩, fun _ => rfl⟩ ?_
        refine wpAnyIn_ready (rs := [16]) (by kernel_rfl) (by simp) ?_
        refine AllReadyIn.cons rfl (fun K hK => ?_) AllReadyIn.nil
        go_simp
        refine ⟨fun _ h => (by cases h), ?_⟩
        refine hK _ _ ?_
        clear hK K
        refine wpAnyIn_take (i := 17) (v := undef) rfl rfl (by kernel_rfl) (by kernel_rfl) (by kernel_rfl) (fun _ _ _ h => h) ⟨Or.inr ⟨by first | kernel_rfl | rfl, rfl⟩, fun _ => rfl⟩ ?_
        refine wpAnyIn_take (i := 18) (v := ?_) rfl rfl (by kernel_rfl) (by kernel_rfl) (by kernel_rfl) (fun _ _ _ h => h) ⟨Or.inl ⟨by first | kernel_rfl | rfl, ?_⟩, fun _ => rfl⟩ ?_
        rotate_left 1
        · (intro w; go_simp) <;> (with_reducible rfl)
        refine wpAnyIn_done (by kernel_rfl) ?_ _
        gi_wp2
        refine ⟨trivial, ?_⟩
        gi_wp2
        go_ret
        exact .inl ⟨rfl, by rw [HSP.out, e1.out, e3.out, if_neg (by rw [e2.out]; simp)]; simpa using HJD.out _ _ HJd2.out, keepsT_t HKd.out (fun _ _ => rfl)⟩
      · have b2 : decide (0 < x2) = false := by simpa using g2
        have HIR := hid (IR.out (n - 1) pre Wd.drew (HTd.out.2.2.drewN 1) (fun x hx => HP.out x (by simp [Tr.blocks, hx])) U.out.2.1 (hJd _ _ 1 HJd2.out) (by omega))
        clear g1 g2 hLen
        gi_wp2
        refine ⟨trivial, ?_⟩
        gi_wp2
        refine wpIn_region_any (by kernel_rfl) ?_
        try (change wpAnyIn _ _ _ _ _ _ _ _ _ (World.drew _))
        refine wpAnyIn_take (i := 0) (v := ?_) rfl rfl (by kernel_rfl) (by kernel_rfl) (by kernel_rfl) (fun _ _ _ h => h) ⟨Or.inl ⟨by first | kernel_rfl | rfl, ?_⟩, fun _ => rfl⟩ ?_
        rotate_left 1
        · (intro w; go_simp) <;> (with_reducible rfl)
        refine wpAnyIn_take (i := 1) (v := ?_) rfl rfl (by kernel_rfl) (by kernel_rfl) (by kernel_rfl) (fun _ _ _ h => h) ⟨Or.inl ⟨by first | kernel_rfl | rfl, ?_⟩, fun _ => rfl⟩ ?_
        rotate_left 1
        · (intro w; go_simp) <;> (with_reducible rfl)
        refine wpAnyIn_take (i := 2) (v := ?_) rfl rfl (by kernel_rfl) (by kernel_rfl) (by kernel_rfl) (fun _ _ _ h => h) ⟨Or.inl ⟨by first | kernel_rfl | rfl, ?_⟩, fun _ => rfl⟩ ?_
        rotate_left 1
        · (intro w; go_simp) <;> (with_reducible rfl)
        refine wpAnyIn_take (i := 3) (v := undef) rfl rfl (by kernel_rfl) (by kernel_rfl) (by kernel_rfl) (fun _ _ _ h => h) ⟨Or.inr ⟨by first | kernel_rfl | rfl, rfl⟩, fun _ => rfl⟩ ?_
        refine wpAnyIn_take (i := 4) (v := undef) rfl rfl (by kernel_rfl) (by kernel_rfl) (by kernel_rfl) (fun _ _ _ h => h) ⟨Or.inr ⟨by first | kernel_rfl | rfl, rfl⟩, fun _ => rfl⟩ ?_
        refine wpAnyIn_take (i := 5) (v := ?_) rfl rfl (by kernel_rfl) (by kernel_rfl) (by kernel_rfl) (fun _ _ _ h => h) ⟨Or.inl ⟨by first | kernel_rfl | rfl, ?_⟩, fun _ => rfl⟩ ?_
        rotate_left 1
        · (intro w; go_simp) <;> (with_reducible rfl)
        refine wpAnyIn_take (i := 6) (v := ?_) rfl rfl (by kernel_rfl) (by kernel_rfl) (by kernel_rfl) (fun _ _ _ h => h) ⟨Or.inl ⟨by first | kernel_rfl | rfl, ?_⟩, fun _ => rfl⟩ ?_
        rotate_left 1
        · (intro w; go_simp) <;> (with_reducible rfl)
        refine wpAnyIn_take (i := 7) (v := undef) rfl rfl (by kernel_rfl) (by kernel_rfl) (by kernel_rfl) (fun _ _ _ h => h) ⟨Or.inr ⟨by first | kernel_rfl | rfl, rfl⟩, fun _ => rfl⟩ ?_
        refine wpAnyIn_take (i := 8) (v := undef) rfl rfl (by kernel_rfl) (by kernel_rfl) (by kernel_rfl) (fun _ _ _ h => h) ⟨Or.inr ⟨by first | kernel_rfl | rfl, rfl⟩, fun _ => rfl⟩ ?_
        refine wpAnyIn_take (i := 9) (v := undef) rfl rfl (by kernel_rfl) (by kernel_rfl) (by kernel_rfl) (fun _ _ _ h => h) ⟨Or.inr ⟨by first | kernel_rfl | rfl, rfl⟩, fun _ => rfl⟩ ?_
        refine wpAnyIn_take (i := 10) (v := undef) rfl rfl (by kernel_rfl) (by kernel_rfl) (by kernel_rfl) (fun _ _ _ h => h) ⟨Or.inr ⟨by first | kernel_rfl | rfl, rfl⟩, fun _ => rfl⟩ ?_
        refine wpAnyIn_take (i := 12) (v := undef) rfl rfl (by kernel_rfl) (by kernel_rfl) (by kernel_rfl) (fun _ _ _ h => h) ⟨Or.inr ⟨by first | kernel_rfl | rfl, rfl⟩, fun _ => rfl⟩ ?_
        refine wpAnyIn_take (i := 13) (v := undef) rfl rfl (by kernel_rfl) (by kernel_rfl) (by kernel_rfl) (fun _ _ _ h => h) ⟨Or.inr ⟨by first | kernel_rfl | rfl, rfl⟩, fun _ => rfl⟩ ?_
        refine wpAnyIn_take (i := 14) (v := undef) rfl rfl (by kernel_rfl) (by kernel_rfl) (by kernel_rfl) (fun _ _ _ h => h) ⟨Or.inr ⟨by first | kernel_rfl | rfl, rfl⟩, fun _ => rfl⟩ ?_
        refine wpAnyIn_take (i := 11) (v := undef) rfl rfl (by kernel_rfl) (by kernel_rfl) (by kernel_rfl) (fun _ _ _ h => h) ⟨Or.inr ⟨by first | kernel_rfl | rfl, rfl⟩, fun _ => rfl⟩ ?_
        refine wpAnyIn_take (i := 15) (v := undef) rfl rfl (by kernel_rfl) (by kernel_rfl) (by kernel_rfl) (fun _ _ _ h => h) ⟨Or.inr ⟨by first | kernel_rfl | rfl, rfl⟩, fun _ => rfl⟩ ?_
        refine wpAnyIn_ready (rs := [16]) (by kernel_rfl) (by simp) ?_
        refine AllReadyIn.cons rfl (fun K hK => ?_) AllReadyIn.nil
        go_simp
        refine ⟨fun _ h => (by cases h), ?_⟩
        refine hK _ _ ?_
        clear hK K
        refine wpAnyIn_take (i := 17) (v := undef) rfl rfl (by kernel_rfl) (by kernel_rfl) (by kernel_rfl) (fun _ _ _ h => h) ⟨Or.inr ⟨by first | kernel_rfl | rfl, rfl⟩, fun _ => rfl⟩ ?_
        refine wpAnyIn_take (i := 18) (v := ?_) rfl rfl (by kernel_rfl) (by kernel_rfl) (by kernel_rfl) (fun _ _ _ h => h) ⟨Or.inl ⟨by first | kernel_rfl | rfl, ?_⟩, fun _ => rfl⟩ ?_
        rotate_left 1
        · (intro w; go_simp) <;> (with_reducible rfl)
        refine wpAnyIn_done (by kernel_rfl) ?_ _
        gi_wp2_with (refine ⟨trivial, fun h => (by cases h), ?_⟩; with_reducible refine HIR.out.mono ?_; rintro e W3 (⟨rfl, hj3, hk3⟩ | ⟨rfl, q, hq, hx3⟩))
        · go_ret
          exact .inl ⟨rfl, by rw [HSP.out, e1.out, if_neg (by rw [e2.out]; simp)]; simpa using hj3, keepsT_t HKd.out hk3⟩
        · go_ret
          exact .inr ⟨rfl, q, by rw [HSP.out, e1.out, if_neg (by rw [e2.out]; simp)]; simpa using hq, hx3⟩
    · -- not below
      have b1 : decide (x1 < 0) = false := by simpa using g1
      have HIL := hid (IL.out (n - 1) pre Wd HTd.out.2.1 (fun x hx => HP.out x (by simp [Tr.blocks, hx])) U.out.1 HJd2.out (by omega))
      have G1 := hid g1
      have HLEN := hid hLen
      clear g1 hLen d2
      have d2 := HTd.out.1.c2
      clear d3
      gi_wp2_with (refine ⟨trivial, fun h => (by cases h), ?_⟩; with_reducible refine HIL.out.mono ?_; rintro e W1 (⟨rfl, hj1, hk1⟩ | ⟨rfl, q, hq, hx1⟩))
      · have HK1 := hid (keepsT_t HKd.out hk1)
        have HT1 := hid (HT.out.keeps HK1.out HP.out)
        have HJ1 := hid hj1
        clear hk1 hj1 d2
        have c0 := HT1.out.1.c0
        have c1 := HT1.out.1.c1
        have d3 := HT1.out.1.c3
        by_cases g2 : 0 < x2
        · have b2 : decide (0 < x2) = true := by simpa using g2
          have e3 : Hid (tr.pairs.filter (inR c lo hi) = []) := inR_above hc (by rw [HX2.out]; exact g2) U.out.2.2.2
          have e2 : Hid (inR c lo hi (k, v) = false) := by show _ = _; unfold inR; simp only [HX2.out, Bool.and_eq_false_imp, decide_eq_true_eq, decide_eq_false_iff_not]; omega
          clear g2
          gi_wp2
          refine wpIn_region_any (by kernel_rfl) ?_
          try (change wpAnyIn _ _ _ _ _ _ _ _ _ (World.drew _))
          refine wpAnyIn_take (i := 0) (v := ?_) rfl rfl (by kernel_rfl) (by kernel_rfl) (by kernel_rfl) (fun _ _ _ h => h) ⟨Or.inl ⟨by first | kernel_rfl | rfl, ?_⟩, fun _ => rfl⟩ ?_
          rotate_left 1
          · (intro w; go_simp) <;> (with_reducible rfl)
          refine wpAnyIn_take (i := 1) (v := ?_) rfl rfl (by kernel_rfl) (by kernel_rfl) (by kernel_rfl) (fun _ _ _ h => h) ⟨Or.inl ⟨by first | kernel_rfl | rfl, ?_⟩, fun _ => rfl⟩ ?_
          rotate_left 1
          · (intro w; go_simp) <;> (with_reducible rfl)
          refine wpAnyIn_take (i := 2) (v := ?_) rfl rfl (by kernel_rfl) (by kernel_rfl) (by kernel_rfl) (fun _ _ _ h => h) ⟨Or.inl ⟨by first | kernel_rfl | rfl, ?_⟩, fun _ => rfl⟩ ?_
          rotate_left 1
          · (intro w; go_simp) <;> (with_reducible rfl)
          refine wpAnyIn_take (i := 3) (v := ?_) rfl rfl (by kernel_rfl) (by kernel_rfl) (by kernel_rfl) (fun _ _ _ h => h) ⟨Or.inl ⟨by first | kernel_rfl | rfl, ?_⟩, fun _ => rfl⟩ ?_
          rotate_left 1
          · (intro w; go_simp) <;> (with_reducible rfl)
          refine wpAnyIn_take (i := 4) (v := ?_) rfl rfl (by kernel_rfl) (by kernel_rfl) (by kernel_rfl) (fun _ _ _ h => h) ⟨Or.inl ⟨by first | kernel_rfl | rfl, ?_⟩, fun _ => rfl⟩ ?_
          rotate_left 1
          · (intro w; go_simp) <;> (with_reducible rfl)
          refine wpAnyIn_take (i := 5) (v := ?_) rfl rfl (by kernel_rfl) (by kernel_rfl) (by kernel_rfl) (fun _ _ _ h => h) ⟨Or.inl ⟨by first | kernel_rfl | rfl, ?_⟩, fun _ => rfl⟩ ?_
          rotate_left 1
          · (intro w; go_simp) <;> (with_reducible rfl)
          refine wpAnyIn_take (i := 6) (v := ?_) rfl rfl (by kernel_rfl) (by kernel_rfl) (by kernel_rfl) (fun _ _ _ h => h) ⟨Or.inl ⟨by first | kernel_rfl | rfl, ?_⟩, fun _ => rfl⟩ ?_
          rotate_left 1
          · (intro w; go_simp) <;> (with_reducible rfl)
          refine wpAnyIn_take (i := 7) (v := undef) rfl rfl (by kernel_rfl) (by kernel_rfl) (by kernel_rfl) (fun _ _ _ h => h) ⟨Or.inr ⟨by first | kernel_rfl | rfl, rfl⟩, fun _ => rfl⟩ ?_
          refine wpAnyIn_take (i := 8) (v := undef) rfl rfl (by kernel_rfl) (by kernel_rfl) (by kernel_rfl) (fun _ _ _ h => h) ⟨Or.inr ⟨by first | kernel_rfl | rfl, rfl⟩, fun _ => rfl⟩ ?_
          refine wpAnyIn_take (i := 9) (v := undef) rfl rfl (by kernel_rfl) (by kernel_rfl) (by kernel_rfl) (fun _ _ _ h => h) ⟨Or.inr ⟨by first | kernel_rfl | rfl, rfl⟩, fun _ => rfl⟩ ?_
          refine wpAnyIn_take (i := 10) (v := undef) rfl rfl (by kernel_rfl) (by kernel_rfl) (by kernel_rfl) (fun _ _ _ h => h) ⟨Or.inr ⟨by first | kernel_rfl | rfl, rfl⟩, fun _ => rfl⟩ ?_
          refine wpAnyIn_take (i := 12) (v := undef) rfl rfl (by kernel_rfl) (by kernel_rfl) (by kernel_rfl) (fun _ _ _ h => h) ⟨Or.inr ⟨by first | kernel_rfl | rfl, rfl⟩, fun _ => rfl⟩ ?_
          refine wpAnyIn_take (i := 13) (v := undef) rfl rfl (by kernel_rfl) (by kernel_rfl) (by kernel_rfl) (fun _ _ _ h => h) ⟨Or.inr ⟨by first | kernel_rfl | rfl, rfl⟩, fun _ => rfl⟩ ?_
          refine wpAnyIn_take (i := 14) (v := undef) rfl rfl (by kernel_rfl) (by kernel_rfl) (by kernel_rfl) (fun _ _ _ h => h) ⟨Or.inr ⟨by first | kernel_rfl | rfl, rfl⟩, fun _ => rfl⟩ ?_
          refine wpAnyIn_take (i := 11) (v := undef) rfl rfl (by kernel_rfl) (by kernel_rfl) (by kernel_rfl) (fun _ _ _ h => h) ⟨Or.inr ⟨by first | kernel_rfl | rfl, rfl⟩, fun _ => rfl⟩ ?_
          refine wpAnyIn_take (i := 15) (v := undef) rfl rfl (by kernel_rfl) (by kernel_rfl) (by kernel_rfl) (fun _ _ _ h => h) ⟨Or.inr ⟨by first | kernel_rfl | rfl, rfl⟩, fun _ => rfl⟩ ?_
          refine wpAnyIn_ready (rs := [16]) (by kernel_rfl) (by simp) ?_
          refine AllReadyIn.cons rfl (fun K hK => ?_) AllReadyIn.nil
          go_simp
          refine ⟨fun _ h => (by cases h), ?_⟩
          refine hK _ _ ?_
          clear hK K
          refine wpAnyIn_take (i := 17) (v := undef) rfl rfl (by kernel_rfl) (by kernel_rfl) (by kernel_rfl) (fun _ _ _ h => h) ⟨Or.inr ⟨by first | kernel_rfl | rfl, rfl⟩, fun _ => rfl⟩ ?_
          refine wpAnyIn_take (i := 18) (v := ?_) rfl rfl (by kernel_rfl) (by kernel_rfl) (by kernel_rfl) (fun _ _ _ h => h) ⟨Or.inl ⟨by first | kernel_rfl | rfl, ?_⟩, fun _ => rfl⟩ ?_
          rotate_left 1
          · (intro w; go_simp) <;> (with_reducible rfl)
          refine wpAnyIn_done (by kernel_rfl) ?_ _
          gi_wp2
          refine ⟨trivial, ?_⟩
          gi_wp2
          go_ret
          exact .inl ⟨rfl, by rw [HSP.out, e3.out, if_neg (by rw [e2.out]; simp)]; simpa using HJD.out _ _ HJ1.out, keepsT_t HK1.out (fun _ _ => rfl)⟩
        · have b2 : decide (0 < x2) = false := by simpa using g2
          have e2 : Hid (inR c lo hi (k, v) = true) := by show _ = _; unfold inR; simp only [HX1.out, HX2.out, Bool.and_eq_true, decide_eq_true_eq]; exact ⟨by have := G1.out; omega, by omega⟩
          obtain ⟨fn, tmps, assign, body, hy, hR⟩ := HY.out (n - 1) (pre ++ tl.pairs.filter (inR c lo hi)) (k, v) W1.drew (HJD.out _ _ HJ1.out) (by have := HLB.out e2.out; simp only [List.length_append]; omega)
          have HR := hid hR
          clear hR g2
          gi_wp2
          refine wpIn_region_any (by kernel_rfl) ?_
          try (change wpAnyIn _ _ _ _ _ _ _ _ _ (World.drew _))
          refine wpAnyIn_take (i := 0) (v := ?_) rfl rfl (by kernel_rfl) (by kernel_rfl) (by kernel_rfl) (fun _ _ _ h => h) ⟨Or.inl ⟨by first | kernel_rfl | rfl, ?_⟩, fun _ => rfl⟩ ?_
          rotate_left 1
          · (intro w; go_simp) <;> (with_reducible rfl)
          refine wpAnyIn_take (i := 1) (v := ?_) rfl rfl (by kernel_rfl) (by kernel_rfl) (by kernel_rfl) (fun _ _ _ h => h) ⟨Or.inl ⟨by first | kernel_rfl | rfl, ?_⟩, fun _ => rfl⟩ ?_
          rotate_left 1
          · (intro w; go_simp) <;> (with_reducible rfl)
          refine wpAnyIn_take (i := 2) (v := ?_) rfl rfl (by kernel_rfl) (by kernel_rfl) (by kernel_rfl) (fun _ _ _ h => h) ⟨Or.inl ⟨by first | kernel_rfl | rfl, ?_⟩, fun _ => rfl⟩ ?_
          rotate_left 1
          · (intro w; go_simp) <;> (with_reducible rfl)
          refine wpAnyIn_take (i := 3) (v := ?_) rfl rfl (by kernel_rfl) (by kernel_rfl) (by kernel_rfl) (fun _ _ _ h => h) ⟨Or.inl ⟨by first | kernel_rfl | rfl, ?_⟩, fun _ => rfl⟩ ?_
          rotate_left 1
          · (intro w; go_simp) <;> (with_reducible rfl)
          refine wpAnyIn_take (i := 4) (v := ?_) rfl rfl (by kernel_rfl) (by kernel_rfl) (by kernel_rfl) (fun _ _ _ h => h) ⟨Or.inl ⟨by first | kernel_rfl | rfl, ?_⟩, fun _ => rfl⟩ ?_
          rotate_left 1
          · (intro w; go_simp) <;> (with_reducible rfl)
          refine wpAnyIn_take (i := 5) (v := ?_) rfl rfl (by kernel_rfl) (by kernel_rfl) (by kernel_rfl) (fun _ _ _ h => h) ⟨Or.inl ⟨by first | kernel_rfl | rfl, ?_⟩, fun _ => rfl⟩ ?_
          rotate_left 1
          · (intro w; go_simp) <;> (with_reducible rfl)
          refine wpAnyIn_take (i := 6) (v := ?_) rfl rfl (by kernel_rfl) (by kernel_rfl) (by kernel_rfl) (fun _ _ _ h => h) ⟨Or.inl ⟨by first | kernel_rfl | rfl, ?_⟩, fun _ => rfl⟩ ?_
          rotate_left 1
          · (intro w; go_simp) <;> (with_reducible rfl)
          refine wpAnyIn_take (i := 7) (v := ?_) rfl rfl (by kernel_rfl) (by kernel_rfl) (by kernel_rfl) (fun _ _ _ h => h) ⟨Or.inl ⟨by first | kernel_rfl | rfl, ?_⟩, fun _ => rfl⟩ ?_
          rotate_left 1
          · (intro w; go_simp) <;> (with_reducible rfl)
          refine wpAnyIn_take (i := 8) (v := ?_) rfl rfl (by kernel_rfl) (by kernel_rfl) (by kernel_rfl) (fun _ _ _ h => h) ⟨Or.inl ⟨by first | kernel_rfl | rfl, ?_⟩, fun _ => rfl⟩ ?_
          rotate_left 1
          · (intro w; go_simp) <;> (with_reducible rfl)
          refine wpAnyIn_take (i := 9) (v := ?_) rfl rfl (by kernel_rfl) (by kernel_rfl) (by kernel_rfl) (fun _ _ _ h => h) ⟨Or.inl ⟨by first | kernel_rfl | rfl, ?_⟩, fun _ => rfl⟩ ?_
          rotate_left 1
          · (intro w; go_simp) <;> (with_reducible rfl)
          refine wpAnyIn_take (i := 10) (v := ?_) rfl rfl (by kernel_rfl) (by kernel_rfl) (by kernel_rfl) (fun _ _ _ h => h) ⟨Or.inl ⟨by first | kernel_rfl | rfl, ?_⟩, fun _ => rfl⟩ ?_
          rotate_left 1
          · (intro w; go_simp) <;> (with_reducible rfl)
          refine wpAnyIn_take (i := 12) (v := ?_) rfl rfl (by kernel_rfl) (by kernel_rfl) (by kernel_rfl) (fun _ _ _ h => h) ⟨Or.inl ⟨by first | kernel_rfl | rfl, ?_⟩, fun _ => rfl⟩ ?_
          rotate_left 1
          · (intro w; go_simp) <;> (with_reducible rfl)
          refine wpAnyIn_take (i := 13) (v := ?_) rfl rfl (by kernel_rfl) (by kernel_rfl) (by kernel_rfl) (fun _ _ _ h => h) ⟨Or.inl ⟨by first | kernel_rfl | rfl, ?_⟩, fun _ => rfl⟩ ?_
          rotate_left 1
          · (intro w; go_simp) <;> (with_reducible rfl)
          refine wpAnyIn_take (i := 14) (v := ?_) rfl rfl (by kernel_rfl) (by kernel_rfl) (by kernel_rfl) (fun _ _ _ h => h) ⟨Or.inl ⟨by first | kernel_rfl | rfl, ?_⟩, fun _ => rfl⟩ ?_
          rotate_left 1
          · (intro w; go_simp) <;> (with_reducible rfl)
          refine wpAnyIn_ready (rs := [11, 15]) (by kernel_rfl) (by simp) ?_
          refine AllReadyIn.cons rfl (fun K hK => ?_) (AllReadyIn.cons rfl (fun K hK => ?_) AllReadyIn.nil)
          · go_simp
            refine hK _ _ ?_
            clear hK K
            refine wpAnyIn_ready (rs := [15]) (by kernel_rfl) (by simp) ?_
            refine AllReadyIn.cons rfl (fun K hK => ?_) AllReadyIn.nil
            go_simp
            refine hK _ _ ?_
            clear hK K
            refine wpAnyIn_ready (rs := [16]) (by kernel_rfl) (by simp) ?_
            refine AllReadyIn.cons rfl (fun K hK => ?_) AllReadyIn.nil
            go_simp
            refine ⟨fun h => (by cases h), ?_⟩
            refine HR.out.mono ?_
            rintro e W2 (⟨rfl, hj2, hk2⟩ | ⟨rfl, hx2⟩)
            all_goals refine hK _ _ ?_
            all_goals clear hK K
            · have HK2 := hid (keepsT_t (keepsT_t HK1.out (show KeepsT P W1 W1.drew from fun _ _ => rfl)) hk2)
              have HT2 := hid (HT.out.keeps HK2.out HP.out)
              have d4 := HT2.out.1.c3
              have HIR := hid (IR.out (n - 1) (pre ++ tl.pairs.filter (inR c lo hi) ++ [(k, v)]) W2 HT2.out.2.2 (fun x hx => HP.out x (by simp [Tr.blocks, hx])) U.out.2.1 hj2 (by have := HLB.out e2.out; simp only [List.length_append, List.length_cons, List.length_nil]; omega))
              clear hk2 hj2 c0 c1 d3 hy
              refine wpAnyIn_take (i := 17) (v := ?_) rfl rfl (by kernel_rfl) (by kernel_rfl) (by kernel_rfl) (fun _ _ _ h => h) ⟨Or.inl ⟨by first | kernel_rfl | rfl, ?_⟩, fun _ => rfl⟩ ?_
              rotate_left 1
              · (intro w; go_simp) <;> (with_reducible rfl)
              refine wpAnyIn_take (i := 18) (v := ?_) rfl rfl (by kernel_rfl) (by kernel_rfl) (by kernel_rfl) (fun _ _ _ h => h) ⟨Or.inl ⟨by first | kernel_rfl | rfl, ?_⟩, fun _ => rfl⟩ ?_
              rotate_left 1
              · (intro w; go_simp) <;> (with_reducible rfl)
              refine wpAnyIn_done (by kernel_rfl) ?_ _
              gi_wp2_with (refine ⟨trivial, fun h => (by cases h), ?_⟩; with_reducible refine HIR.out.mono ?_; rintro e W3 (⟨rfl, hj3, hk3⟩ | ⟨rfl, q, hq, hx3⟩))
              · go_ret
                exact .inl ⟨rfl, by rw [HSP.out, if_pos e2.out]; simpa [List.append_assoc] using hj3, keepsT_t HK2.out hk3⟩
              · go_ret
                obtain ⟨r, hr'⟩ := hq
                exact .inr ⟨rfl, tl.pairs.filter (inR c lo hi) ++ (k, v) :: q, ⟨r, by rw [HSP.out, if_pos e2.out, ← hr']; simp⟩, by simpa [List.append_assoc] using hx3⟩
            · clear c0 c1 d3 hy
              refine wpAnyIn_take (i := 17) (v := ?_) rfl rfl (by kernel_rfl) (by kernel_rfl) (by kernel_rfl) (fun _ _ _ h => h) ⟨Or.inl ⟨by first | kernel_rfl | rfl, ?_⟩, fun _ => rfl⟩ ?_
              rotate_left 1
              · (intro w; go_simp) <;> (with_reducible rfl)
              refine wpAnyIn_take (i := 18) (v := ?_) rfl rfl (by kernel_rfl) (by kernel_rfl) (by kernel_rfl) (fun _ _ _ h => h) ⟨Or.inl ⟨by first | kernel_rfl | rfl, ?_⟩, fun _ => rfl⟩ ?_
              rotate_left 1
              · (intro w; go_simp) <;> (with_reducible rfl)
              refine wpAnyIn_done (by kernel_rfl) ?_ _
              gi_wp2
              go_ret
              exact .inr ⟨rfl, tl.pairs.filter (inR c lo hi) ++ [(k, v)], ⟨tr.pairs.filter (inR c lo hi), by rw [HSP.out, if_pos e2.out]⟩, by simpa [List.append_assoc] using hx2⟩
          · go_simp
            refine hK _ _ ?_
            clear hK K
            refine wpAnyIn_ready (rs := [11]) (by kernel_rfl) (by simp) ?_
            refine AllReadyIn.cons rfl (fun K hK => ?_) AllReadyIn.nil
            go_simp
            refine hK _ _ ?_
            clear hK K
            refine wpAnyIn_ready (rs := [16]) (by kernel_rfl) (by simp) ?_
            refine AllReadyIn.cons rfl (fun K hK => ?_) AllReadyIn.nil
            go_simp
            refine ⟨fun h => (by cases h), ?_⟩
            refine HR.out.mono ?_
            rintro e W2 (⟨rfl, hj2, hk2⟩ | ⟨rfl, hx2⟩)
            all_goals refine hK _ _ ?_
            all_goals clear hK K
            · have HK2 := hid (keepsT_t (keepsT_t HK1.out (show KeepsT P W1 W1.drew from fun _ _ => rfl)) hk2)
              have HT2 := hid (HT.out.keeps HK2.out HP.out)
              have d4 := HT2.out.1.c3
              have HIR := hid (IR.out (n - 1) (pre ++ tl.pairs.filter (inR c lo hi) ++ [(k, v)]) W2 HT2.out.2.2 (fun x hx => HP.out x (by simp [Tr.blocks, hx])) U.out.2.1 hj2 (by have := HLB.out e2.out; simp only [List.length_append, List.length_cons, List.length_nil]; omega))
              clear hk2 hj2 c0 c1 d3 hy
              refine wpAnyIn_take (i := 17) (v := ?_) rfl rfl (by kernel_rfl) (by kernel_rfl) (by kernel_rfl) (fun _ _ _ h => h) ⟨Or.inl ⟨by first | kernel_rfl | rfl, ?_⟩, fun _ => rfl⟩ ?_
              rotate_left 1
              · (intro w; go_simp) <;> (with_reducible rfl)
              refine wpAnyIn_take (i := 18) (v := ?_) rfl rfl (by kernel_rfl) (by kernel_rfl) (by kernel_rfl) (fun _ _ _ h => h) ⟨Or.inl ⟨by first | kernel_rfl | rfl, ?_⟩, fun _ => rfl⟩ ?_
              rotate_left 1
              · (intro w; go_simp) <;> (with_reducible rfl)
              refine wpAnyIn_done (by kernel_rfl) ?_ _
              gi_wp2_with (refine ⟨trivial, fun h => (by cases h), ?_⟩; with_reducible refine HIR.out.mono ?_; rintro e W3 (⟨rfl, hj3, hk3⟩ | ⟨rfl, q, hq, hx3⟩))
              · go_ret
                exact .inl ⟨rfl, by rw [HSP.out, if_pos e2.out]; simpa [List.append_assoc] using hj3, keepsT_t HK2.out hk3⟩
              · go_ret
                obtain ⟨r, hr'⟩ := hq
                exact .inr ⟨rfl, tl.pairs.filter (inR c lo hi) ++ (k, v) :: q, ⟨r, by rw [HSP.out, if_pos e2.out, ← hr']; simp⟩, by simpa [List.append_assoc] using hx3⟩
            · clear c0 c1 d3 hy
              refine wpAnyIn_take (i := 17) (v := ?_) rfl rfl (by kernel_rfl) (by kernel_rfl) (by kernel_rfl) (fun _ _ _ h => h) ⟨Or.inl ⟨by first | kernel_rfl | rfl, ?_⟩, fun _ => rfl⟩ ?_
              rotate_left 1
              · (intro w; go_simp) <;> (with_reducible rfl)
              refine wpAnyIn_take (i := 18) (v := ?_) rfl rfl (by kernel_rfl) (by kernel_rfl) (by kernel_rfl) (fun _ _ _ h => h) ⟨Or.inl ⟨by first | kernel_rfl | rfl, ?_⟩, fun _ => rfl⟩ ?_
              rotate_left 1
              · (intro w; go_simp) <;> (with_reducible rfl)
              refine wpAnyIn_done (by kernel_rfl) ?_ _
              gi_wp2
              go_ret
              exact .inr ⟨rfl, tl.pairs.filter (inR c lo hi) ++ [(k, v)], ⟨tr.pairs.filter (inR c lo hi), by rw [HSP.out, if_pos e2.out]⟩, by simpa [List.append_assoc] using hx2⟩
      · go_ret
        obtain ⟨r, hr'⟩ := hq
        exact .inr ⟨rfl, q, ⟨r ++ ((if inR c lo hi (k, v) = true then [(k, v)] else []) ++ tr.pairs.filter (inR c lo hi)), by rw [HSP.out, ← hr']; simp only [List.append_assoc]⟩, hx1⟩
end TI
end Go.Proofs.Ytfjeagffdijcoaa
namespace Go.Proofs.Ytfjeagffdijcoaa
open Go.RowKit Go.Shelf
attribute [local go_sem] Oper.semAt_some
namespace TU
theorem compare_same (w : World) (a b : Int) : Calls Try.prog 134 #[.int .u64 a, .int .u64 b] w fun e w' => e = .returned (.int .i64 (TI.cmpI a b)) ∧ w' = w := by
  rcases Int.lt_trichotomy a b with h | h | h
  · have e : Hid (TI.cmpI a b = -1) := by show _ = _; unfold TI.cmpI; rw [if_pos h]
    go_enter Try.func134, Try.ntmps134
    go_wp2_with (go_at_call 161; refine (isNaN_any _ _).mono ?_; rintro e w' ⟨rfl, rfl⟩)
    go_ret
    exact ⟨by rw [e.out]; rfl, rfl⟩
  · have e : Hid (TI.cmpI a b = 0) := by show _ = _; unfold TI.cmpI; rw [if_neg (by omega), if_neg (by omega)]
    go_enter Try.func134, Try.ntmps134
    go_wp2_with (go_at_call 161; refine (isNaN_any _ _).mono ?_; rintro e w' ⟨rfl, rfl⟩)
    go_ret
    exact ⟨by rw [e.out]; rfl, rfl⟩
  · have e : Hid (TI.cmpI a b = 1) := by show _ = _; unfold TI.cmpI; rw [if_neg (by omega), if_pos h]
    go_enter Try.func134, Try.ntmps134
    go_wp2_with (go_at_call 161; refine (isNaN_any _ _).mono ?_; rintro e w' ⟨rfl, rfl⟩)
    go_ret
    exact ⟨by rw [e.out]; rfl, rfl⟩

set_option maxRecDepth 100000 in
set_option maxHeartbeats 4000000 in
theorem walkIn_in (g : Nat) (cb : Array Value) (c : Int → Int → Int) (hc : WOrd c) (I : World → Prop) (eg : ∀ args w, (callFunc g args).run Try.prog w = .ok (.enter g args) w)
    (hcall : ∀ w a b, I w → Calls Try.prog g (#[.int .u64 a, .int .u64 b] ++ cb) w fun e w' => e = .returned (.int .i64 (c a b)) ∧ w' = w) (hId : ∀ w q, I w → I (w.drewN q)) (lo hi : Int) (l : Nat) (F : List (Int × SV)) (P : Nat → Prop) (J Jx : List (Int × SV) → World → Prop) (hJI : ∀ pre W, J pre W → I W)
    (hY : ∀ m pre x W, J pre W → pre ++ [x] <+: F → YieldAt Fence.wide m Try.prog l #[.int .u64 x.1, .slice x.2.1 x.2.2.1 x.2.2.2] W fun e W' =>
      (e = .returned (.bool true) ∧ J (pre ++ [x]) W' ∧ KeepsT P W W') ∨ (e = .returned (.bool false) ∧ Jx (pre ++ [x]) W')) (hJd : ∀ pre W q, J pre W → J pre (W.drewN q)) (T : Tr Int SV) :
    ∀ (n : Nat) (pre : List (Int × SV)) (W : World), Held ek ev W T → (∀ x ∈ T.blocks, P x) → Up c T.pairs → J pre W → pre ++ T.pairs.filter (inR c lo hi) <+: F →
      CallsIn Fence.wide n Try.prog 138 #[T.ptr, ordV g cb, .int .u64 lo, .int .u64 hi, .func (.yield l) #[] #[]] W fun e W' =>
        (e = .returned (.bool true) ∧ J (pre ++ T.pairs.filter (inR c lo hi)) W' ∧ KeepsT P W W') ∨ (e = .returned (.bool false) ∧ ∃ q, q <+: T.pairs.filter (inR c lo hi) ∧ Jx (pre ++ q) W') := by
  induction T with
  | nil =>
    intro n pre W ht _ _ hJ _
    show CallsIn _ _ _ _ #[.pointer none, _, _, _, _] _ _
    refine callsIn_of_wp Try.func138 rfl trivial ?_ rfl
    simp only [Try.ntmps138, List.size_toArray, List.length_cons, List.length_nil, Nat.reduceAdd, Nat.reduceSub, Array.replicate_succ, Array.replicate_zero, List.push_toArray, List.append_toArray, List.nil_append, List.cons_append]
    gi_wp2
    go_ret
    exact .inl ⟨rfl, (by show J (pre ++ []) _; rw [List.append_nil]; exact hJ), fun _ _ => rfl⟩
  | node b tl k v tr ihl ihr =>
    intro n pre W ht hP hU hJ hN
    obtain ⟨u1, u2, u3, u4, u5⟩ := up_mid.1 hU
    have hI0 := hJI _ _ hJ
    have HC1 := hid (hcall W.drew k lo (hId W 1 hI0))
    have HC2 := hid (hcall W.drew k hi (hId W 1 hI0))
    have c0 := ht.1.c0
    have HT := hid ht
    have HP := hid hP
    have HJ := hid hJ
    have HN := hid hN
    have IR := hid ihr
    have IL := hid ihl
    have HY := hid hY
    obtain ⟨x1, hx1⟩ : ∃ x, c k lo = x := ⟨_, rfl⟩
    obtain ⟨x2, hx2⟩ : ∃ x, c k hi = x := ⟨_, rfl⟩
    rw [hx1] at HC1
    rw [hx2] at HC2
    have HX1 := hid hx1
    have HX2 := hid hx2
    have HU := hid hU
    have U := hid (show Up c tl.pairs ∧ Up c tr.pairs ∧ (∀ x ∈ tl.pairs, c x.1 k < 0) ∧ (∀ y ∈ tr.pairs, c k y.1 < 0) from ⟨u1, u2, u3, u4⟩)
    clear ht hP hJ hN ihl ihr hx1 hx2 hU u1 u2 u3 u4 u5 hI0
    show CallsIn _ _ _ _ #[.pointer (some ⟨b, 0, none⟩), .func (.func g) #[] cb, _, _, _] _ _
    refine callsIn_of_wp Try.func138 rfl trivial ?_ rfl
    simp only [Try.ntmps138, List.size_toArray, List.length_cons, List.length_nil, Nat.reduceAdd, Nat.reduceSub, Array.replicate_succ, Array.replicate_zero, List.push_toArray, List.append_toArray, List.nil_append, List.cons_append]
    gi_wp2
    gi_cut [11, 12] from 31 (fun s11 s12 wc => s11 = .bool (decide (x1 < 0)) ∧ s12 = .bool (decide (0 < x2)) ∧ wc = W.drew)
    case first =>
      gi_region_with (first
        | (refine ⟨trivial, fun h => (by cases h), ?_⟩; with_reducible refine (callsIn_wide.2 HC1.out).mono ?_; rintro e w' ⟨rfl, hw⟩; obtain rfl : _ = w' := hw.symm)
        | (refine ⟨trivial, fun h => (by cases h), ?_⟩; with_reducible refine (callsIn_wide.2 HC2.out).mono ?_; rintro e w' ⟨rfl, hw⟩; obtain rfl : _ = w' := hw.symm))
      all_goals gi_wp2
      all_goals gi_meet
      all_goals exact ⟨rfl, rfl, rfl⟩
    case rest =>
    obtain ⟨rfl, rfl, rfl⟩ := hcut
    generalize hWd : W.drew = Wd
    have HTd : Hid (Held ek ev Wd (.node b tl k v tr)) := by rw [← hWd]; exact HT.out.drewN 1
    have HJd2 : Hid (J pre Wd) := by rw [← hWd]; exact hJd _ _ 1 HJ.out
    have HKd : Hid (KeepsT P W Wd) := by rw [← hWd]; exact fun _ _ => rfl
    have HSP : Hid ((Tr.node b tl k v tr).pairs.filter (inR c lo hi) = tl.pairs.filter (inR c lo hi) ++ (if inR c lo hi (k, v) = true then [(k, v)] else []) ++ tr.pairs.filter (inR c lo hi)) := by
      show _ = _
      simp only [Tr.pairs, List.filter_append, List.filter_cons]
      split <;> simp
    have hLen : pre ++ tl.pairs.filter (inR c lo hi) <+: F := by
      have h := HN.out
      rw [HSP.out] at h
      exact List.IsPrefix.trans ⟨(if inR c lo hi (k, v) = true then [(k, v)] else []) ++ tr.pairs.filter (inR c lo hi), by simp only [List.append_assoc]⟩ h
    have HLB : Hid (inR c lo hi (k, v) = true → pre ++ tl.pairs.filter (inR c lo hi) ++ [(k, v)] ++ tr.pairs.filter (inR c lo hi) <+: F) := by
      intro ht
      have h := HN.out
      rw [HSP.out, if_pos ht] at h
      simpa only [List.append_assoc] using h
    have HLR : Hid (inR c lo hi (k, v) = false → tl.pairs.filter (inR c lo hi) = [] → pre ++ tr.pairs.filter (inR c lo hi) <+: F) := by
      intro ht hn
      have h := HN.out
      rw [HSP.out, hn, if_neg (by rw [ht]; simp)] at h
      simpa using h
    have HJD : Hid (∀ pre W, J pre W → J pre W.drew) := fun p W h => hJd p W 1 h
    have d2 := HTd.out.1.c2
    have d3 := HTd.out.1.c3
    clear hWd c0 HC1 HC2
    by_cases g1 : x1 < 0
    · -- below
      have b1 : decide (x1 < 0) = true := by simpa using g1
      have e1 : Hid (tl.pairs.filter (inR c lo hi) = []) := inR_below hc (by rw [HX1.out]; exact g1) U.out.2.2.1
      have e2 : Hid (inR c lo hi (k, v) = false) := by show _ = _; unfold inR; simp only [HX1.out, Bool.and_eq_false_imp, decide_eq_true_eq]; omega
      by_cases g2 : 0 < x2
      · have b2 : decide (0 < x2) = true := by simpa using g2
        have e3 : Hid (tr.pairs.filter (inR c lo hi) = []) := inR_above hc (by rw [HX2.out]; exact g2) U.out.2.2.2
        clear g1 g2 hLen
        gi_wp2
        refine ⟨trivial, ?_⟩
        gi_wp2
        refine wpIn_region_any (by kernel_rfl) ?_
        try (change wpAnyIn _ _ _ _ _ _ _ _ _ (World.drew _))
        refine wpAnyIn_take (i := 0) (v := ?_) rfl rfl (by kernel_rfl) (by kernel_rfl) (by kernel_rfl) (fun _ _ _ h => h) ⟨Or.inl ⟨by first | kernel_rfl | rfl, ?_⟩, fun _ => rfl⟩ ?_
        rotate_left 1
        · (intro w; go_simp) <;> (with_reducible rfl)
        refine wpAnyIn_take (i := 1) (v := ?_) rfl rfl (by kernel_rfl) (by kernel_rfl) (by kernel_rfl) (fun _ _ _ h => h) ⟨Or.inl ⟨by first | kernel_rfl | rfl, ?_⟩, fun _ => rfl⟩ ?_
        rotate_left 1
        · (intro w; go_simp) <;> (with_reducible rfl)
        refine wpAnyIn_take (i := 2) (v := ?_) rfl rfl (by kernel_rfl) (by kernel_rfl) (by kernel_rfl) (fun _ _ _ h => h) ⟨Or.inl ⟨by first | kernel_rfl | rfl, ?_⟩, fun _ => rfl⟩ ?_
        rotate_left 1
        · (intro w; go_simp) <;> (with_reducible rfl)
        refine wpAnyIn_take (i := 3) (v := undef) rfl rfl (by kernel_rfl) (by kernel_rfl) (by kernel_rfl) (fun _ _ _ h => h) ⟨Or.inr ⟨by first | kernel_rfl | rfl, rfl⟩, fun _ => rfl⟩ ?_
        refine wpAnyIn_take (i := 4) (v := undef) rfl rfl (by kernel_rfl) (by kernel_rfl) (by kernel_rfl) (fun _ _ _ h => h) ⟨Or.inr ⟨by first | kernel_rfl | rfl, rfl⟩, fun _ => rfl⟩ ?_
        refine wpAnyIn_take (i := 5) (v := ?_) rfl rfl (by kernel_rfl) (by kernel_rfl) (by kernel_rfl) (fun _ _ _ h => h) ⟨Or.inl ⟨by first | kernel_rfl | rfl, ?_⟩, fun _ => rfl⟩ ?_
        rotate_left 1
        · (intro w; go_simp) <;> (with_reducible rfl)
        refine wpAnyIn_take (i := 6) (v := ?_) rfl rfl (by kernel_rfl) (by kernel_rfl) (by kernel_rfl) (fun _ _ _ h => h) ⟨Or.inl ⟨by first | kernel_rfl | rfl, ?_⟩, fun _ => rfl⟩ ?_
        rotate_left 1
        · (intro w; go_simp) <;> (with_reducible rfl)
        refine wpAnyIn_take (i := 7) (v := undef) rfl rfl (by kernel_rfl) (by kernel_rfl) (by kernel_rfl) (fun _ _ _ h => h) ⟨Or.inr ⟨by first | kernel_rfl | rfl, rfl⟩, fun _ => rfl⟩ ?_
        refine wpAnyIn_take (i := 8) (v := undef) rfl rfl (by kernel_rfl) (by kernel_rfl) (by kernel_rfl) (fun _ _ _ h => h) ⟨Or.inr ⟨by first | kernel_rfl | rfl, rfl⟩, fun _ => rfl⟩ ?_
        refine wpAnyIn_take (i := 9) (v := undef) rfl rfl (by kernel_rfl) (by kernel_rfl) (by kernel_rfl) (fun _ _ _ h => h) ⟨Or.inr ⟨by first | kernel_rfl | rfl, rfl⟩, fun _ => rfl⟩ ?_
        refine wpAnyIn_take (i := 10) (v := undef) rfl rfl (by kernel_rfl) (by kernel_rfl) (by kernel_rfl) (fun _ _ _ h => h) ⟨Or.inr ⟨by first | kernel_rfl | rfl, rfl⟩, fun _ => rfl⟩ ?_
        refine wpAnyIn_take (i := 12) (v := undef) rfl rfl (by kernel_rfl) (by kernel_rfl) (by kernel_rfl) (fun _ _ _ h => h) ⟨Or.inr ⟨by first | kernel_rfl | rfl, rfl⟩, fun _ => rfl⟩ ?_
        refine wpAnyIn_take (i := 13) (v := undef) rfl rfl (by kernel_rfl) (by kernel_rfl) (by kernel_rfl) (fun _ _ _ h => h) ⟨Or.inr ⟨by first | kernel_rfl | rfl, rfl⟩, fun _ => rfl⟩ ?_
        refine wpAnyIn_take (i := 14) (v := undef) rfl rfl (by kernel_rfl) (by kernel_rfl) (by kernel_rfl) (fun _ _ _ h => h) ⟨Or.inr ⟨by first | kernel_rfl | rfl, rfl⟩, fun _ => rfl⟩ ?_
        refine wpAnyIn_take (i := 11) (v := undef) rfl rfl (by kernel_rfl) (by kernel_rfl) (by kernel_rfl) (fun _ _ _ h => h) ⟨Or.inr ⟨by first | kernel_rfl | rfl, rfl⟩, fun _ => rfl⟩ ?_
        refine wpAnyIn_take (i := 15) (v := undef) rfl rfl (by kernel_rfl) (by kernel_rfl) (by kernel_rfl) (fun _ _ _ h => h) ⟨Or.inr ⟨by first | kernel_rfl | rfl, rfl⟩, fun _ => rfl⟩ ?_
        refine wpAnyIn_ready (rs := [16]) (by kernel_rfl) (by simp) ?_
        refine AllReadyIn.cons rfl (fun K hK => ?_) AllReadyIn.nil
        go_simp
        refine ⟨fun _ h => (by cases h), ?_⟩
        refine hK _ _ ?_
        clear hK K
        refine wpAnyIn_take (i := 17) (v := undef) rfl rfl (by kernel_rfl) (by kernel_rfl) (by kernel_rfl) (fun _ _ _ h => h) ⟨Or.inr ⟨by first | kernel_rfl | rfl, rfl⟩, fun _ => rfl⟩ ?_
        refine wpAnyIn_take (i := 18) (v := ?_) rfl rfl (by kernel_rfl) (by kernel_rfl) (by kernel_rfl) (fun _ _ _ h => h) ⟨Or.inl ⟨by first | kernel_rfl | rfl, ?_⟩, fun _ => rfl⟩ ?_
        rotate_left 1
        · (intro w; go_simp) <;> (with_reducible rfl)
        refine wpAnyIn_done (by kernel_rfl) ?_ _
        gi_wp2
        refine ⟨trivial, ?_⟩
        gi_wp2
        go_ret
        exact .inl ⟨rfl, by rw [HSP.out, e1.out, e3.out, if_neg (by rw [e2.out]; simp)]; simpa using HJD.out _ _ HJd2.out, keepsT_t HKd.out (fun _ _ => rfl)⟩
      · have b2 : decide (0 < x2) = false := by simpa using g2
        have HIR := hid (IR.out (n - 1) pre Wd.drew (HTd.out.2.2.drewN 1) (fun x hx => HP.out x (by simp [Tr.blocks, hx])) U.out.2.1 (hJd _ _ 1 HJd2.out) (HLR.out e2.out e1.out))
        clear g1 g2 hLen
        gi_wp2
        refine ⟨trivial, ?_⟩
        gi_wp2
        refine wpIn_region_any (by kernel_rfl) ?_
        try (change wpAnyIn _ _ _ _ _ _ _ _ _ (World.drew _))
        refine wpAnyIn_take (i := 0) (v := ?_) rfl rfl (by kernel_rfl) (by kernel_rfl) (by kernel_rfl) (fun _ _ _ h => h) ⟨Or.inl ⟨by first | kernel_rfl | rfl, ?_⟩, fun _ => rfl⟩ ?_
        rotate_left 1
        · (intro w; go_simp) <;> (with_reducible rfl)
        refine wpAnyIn_take (i := 1) (v := ?_) rfl rfl (by kernel_rfl) (by kernel_rfl) (by kernel_rfl) (fun _ _ _ h => h) ⟨Or.inl ⟨by first | kernel_rfl | rfl, ?_⟩, fun _ => rfl⟩ ?_
        rotate_left 1
        · (intro w; go_simp) <;> (with_reducible rfl)
        refine wpAnyIn_take (i := 2) (v := ?_) rfl rfl (by kernel_rfl) (by kernel_rfl) (by kernel_rfl) (fun _ _ _ h => h) ⟨Or.inl ⟨by first | kernel_rfl | rfl, ?_⟩, fun _ => rfl⟩ ?_
        rotate_left 1
        · (intro w; go_simp) <;> (with_reducible rfl)
        refine wpAnyIn_take (i := 3) (v := undef) rfl rfl (by kernel_rfl) (by kernel_rfl) (by kernel_rfl) (fun _ _ _ h => h) ⟨Or.inr ⟨by first | kernel_rfl | rfl, rfl⟩, fun _ => rfl⟩ ?_
        refine wpAnyIn_take (i := 4) (v := undef) rfl rfl (by kernel_rfl) (by kernel_rfl) (by kernel_rfl) (fun _ _ _ h => h) ⟨Or.inr ⟨by first | kernel_rfl | rfl, rfl⟩, fun _ => rfl⟩ ?_
        refine wpAnyIn_take (i := 5) (v := ?_) rfl rfl (by kernel_rfl) (by kernel_rfl) (by kernel_rfl) (fun _ _ _ h => h) ⟨Or.inl ⟨by first | kernel_rfl | rfl, ?_⟩, fun _ => rfl⟩ ?_
        rotate_left 1
        · (intro w; go_simp) <;> (with_reducible rfl)
        refine wpAnyIn_take (i := 6) (v := ?_) rfl rfl (by kernel_rfl) (by kernel_rfl) (by kernel_rfl) (fun _ _ _ h => h) ⟨Or.inl ⟨by first | kernel_rfl | rfl, ?_⟩, fun _ => rfl⟩ ?_
        rotate_left 1
        · (intro w; go_simp) <;> (with_reducible rfl)
        refine wpAnyIn_take (i := 7) (v := undef) rfl rfl (by kernel_rfl) (by kernel_rfl) (by kernel_rfl) (fun _ _ _ h => h) ⟨Or.inr ⟨by first | kernel_rfl | rfl, rfl⟩, fun _ => rfl⟩ ?_
        refine wpAnyIn_take (i := 8) (v := undef) rfl rfl (by kernel_rfl) (by kernel_rfl) (by kernel_rfl) (fun _ _ _ h => h) ⟨Or.inr ⟨by first | kernel_rfl | rfl, rfl⟩, fun _ => rfl⟩ ?_
        refine wpAnyIn_take (i := 9) (v := undef) rfl rfl (by kernel_rfl) (by kernel_rfl) (by kernel_rfl) (fun _ _ _ h => h) ⟨Or.inr ⟨by first | kernel_rfl | rfl, rfl⟩, fun _ => rfl⟩ ?_
        refine wpAnyIn_take (i := 10) (v := undef) rfl rfl (by kernel_rfl) (by kernel_rfl) (by kernel_rfl) (fun _ _ _ h => h) ⟨Or.inr ⟨by first | kernel_rfl | rfl, rfl⟩, fun _ => rfl⟩ ?_
        refine wpAnyIn_take (i := 12) (v := undef) rfl rfl (by kernel_rfl) (by kernel_rfl) (by kernel_rfl) (fun _ _ _ h => h) ⟨Or.inr ⟨by first | kernel_rfl | rfl, rfl⟩, fun _ => rfl⟩ ?_
        refine wpAnyIn_take (i := 13) (v := undef) rfl rfl (by kernel_rfl) (by kernel_rfl) (by kernel_rfl) (fun _ _ _ h => h) ⟨Or.inr ⟨by first | kernel_rfl | rfl, rfl⟩, fun _ => rfl⟩ ?_
        refine wpAnyIn_take (i := 14) (v := undef) rfl rfl (by kernel_rfl) (by kernel_rfl) (by kernel_rfl) (fun _ _ _ h => h) ⟨Or.inr ⟨by first | kernel_rfl | rfl, rfl⟩, fun _ => rfl⟩ ?_
        refine wpAnyIn_take (i := 11) (v := undef) rfl rfl (by kernel_rfl) (by kernel_rfl) (by kernel_rfl) (fun _ _ _ h => h) ⟨Or.inr ⟨by first | kernel_rfl | rfl, rfl⟩, fun _ => rfl⟩ ?_
        refine wpAnyIn_take (i := 15) (v := undef) rfl rfl (by kernel_rfl) (by kernel_rfl) (by kernel_rfl) (fun _ _ _ h => h) ⟨Or.inr ⟨by first | kernel_rfl | rfl, rfl⟩, fun _ => rfl⟩ ?_
        refine wpAnyIn_ready (rs := [16]) (by kernel_rfl) (by simp) ?_
        refine AllReadyIn.cons rfl (fun K hK => ?_) AllReadyIn.nil
        go_simp
        refine ⟨fun _ h => (by cases h), ?_⟩
        refine hK _ _ ?_
        clear hK K
        refine wpAnyIn_take (i := 17) (v := undef) rfl rfl (by kernel_rfl) (by kernel_rfl) (by kernel_rfl) (fun _ _ _ h => h) ⟨Or.inr ⟨by first | kernel_rfl | rfl, rfl⟩, fun _ => rfl⟩ ?_
        refine wpAnyIn_take (i := 18) (v := ?_) rfl rfl (by kernel_rfl) (by kernel_rfl) (by kernel_rfl) (fun _ _ _ h => h) ⟨Or.inl ⟨by first | kernel_rfl | rfl, ?_⟩, fun _ => rfl⟩ ?_
        rotate_left 1
        · (intro w; go_simp) <;> (with_reducible rfl)
        refine wpAnyIn_done (by kernel_rfl) ?_ _
        gi_wp2_with (refine ⟨trivial, fun h => (by cases h), ?_⟩; with_reducible refine HIR.out.mono ?_; rintro e W3 (⟨rfl, hj3, hk3⟩ | ⟨rfl, q, hq, hx3⟩))
        · go_ret
          exact .inl ⟨rfl, by rw [HSP.out, e1.out, if_neg (by rw [e2.out]; simp)]; simpa using hj3, keepsT_t HKd.out hk3⟩
        · go_ret
          exact .inr ⟨rfl, q, by rw [HSP.out, e1.out, if_neg (by rw [e2.out]; simp)]; simpa using hq, hx3⟩
    · -- not below
      have b1 : decide (x1 < 0) = false := by simpa using g1
      have HIL := hid (IL.out (n - 1) pre Wd HTd.out.2.1 (fun x hx => HP.out x (by simp [Tr.blocks, hx])) U.out.1 HJd2.out hLen)
      have G1 := hid g1
      have HLEN := hid hLen
      clear g1 hLen d2
      have d2 := HTd.out.1.c2
      clear d3
      gi_wp2_with (refine ⟨trivial, fun h => (by cases h), ?_⟩; with_reducible refine HIL.out.mono ?_; rintro e W1 (⟨rfl, hj1, hk1⟩ | ⟨rfl, q, hq, hx1⟩))
      · have HK1 := hid (keepsT_t HKd.out hk1)
        have HT1 := hid (HT.out.keeps HK1.out HP.out)
        have HJ1 := hid hj1
        clear hk1 hj1 d2
        have c0 := HT1.out.1.c0
        have c1 := HT1.out.1.c1
        have d3 := HT1.out.1.c3
        by_cases g2 : 0 < x2
        · have b2 : decide (0 < x2) = true := by simpa using g2
          have e3 : Hid (tr.pairs.filter (inR c lo hi) = []) := inR_above hc (by rw [HX2.out]; exact g2) U.out.2.2.2
          have e2 : Hid (inR c lo hi (k, v) = false) := by show _ = _; unfold inR; simp only [HX2.out, Bool.and_eq_false_imp, decide_eq_true_eq, decide_eq_false_iff_not]; omega
          clear g2
          gi_wp2
          refine wpIn_region_any (by kernel_rfl) ?_
          try (change wpAnyIn _ _ _ _ _ _ _ _ _ (World.drew _))
          refine wpAnyIn_take (i := 0) (v := ?_) rfl rfl (by kernel_rfl) (by kernel_rfl) (by kernel_rfl) (fun _ _ _ h => h) ⟨Or.inl ⟨by first | kernel_rfl | rfl, ?_⟩, fun _ => rfl⟩ ?_
          rotate_left 1
          · (intro w; go_simp) <;> (with_reducible rfl)
          refine wpAnyIn_take (i := 1) (v := ?_) rfl rfl (by kernel_rfl) (by kernel_rfl) (by kernel_rfl) (fun _ _ _ h => h) ⟨Or.inl ⟨by first | kernel_rfl | rfl, ?_⟩, fun _ => rfl⟩ ?_
          rotate_left 1
          · (intro w; go_simp) <;> (with_reducible rfl)
          refine wpAnyIn_take (i := 2) (v := ?_) rfl rfl (by kernel_rfl) (by kernel_rfl) (by kernel_rfl) (fun _ _ _ h => h) ⟨Or.inl ⟨by first | kernel_rfl | rfl, ?_⟩, fun _ => rfl⟩ ?_
          rotate_left 1
          · (intro w; go_simp) <;> (with_reducible rfl)
          refine wpAnyIn_take (i := 3) (v := ?_) rfl rfl (by kernel_rfl) (by kernel_rfl) (by kernel_rfl) (fun _ _ _ h => h) ⟨Or.inl ⟨by first | kernel_rfl | rfl, ?_⟩, fun _ => rfl⟩ ?_
          rotate_left 1
          · (intro w; go_simp) <;> (with_reducible rfl)
          refine wpAnyIn_take (i := 4) (v := ?_) rfl rfl (by kernel_rfl) (by kernel_rfl) (by kernel_rfl) (fun _ _ _ h => h) ⟨Or.inl ⟨by first | kernel_rfl | rfl, ?_⟩, fun _ => rfl⟩ ?_
          rotate_left 1
          · (intro w; go_simp) <;> (with_reducible rfl)
          refine wpAnyIn_take (i := 5) (v := ?_) rfl rfl (by kernel_rfl) (by kernel_rfl) (by kernel_rfl) (fun _ _ _ h => h) ⟨Or.inl ⟨by first | kernel_rfl | rfl, ?_⟩, fun _ => rfl⟩ ?_
          rotate_left 1
          · (intro w; go_simp) <;> (with_reducible rfl)
          refine wpAnyIn_take (i := 6) (v := ?_) rfl rfl (by kernel_rfl) (by kernel_rfl) (by kernel_rfl) (fun _ _ _ h => h) ⟨Or.inl ⟨by first | kernel_rfl | rfl, ?_⟩, fun _ => rfl⟩ ?_
          rotate_left 1
          · (intro w; go_simp) <;> (with_reducible rfl)
          refine wpAnyIn_take (i := 7) (v := undef) rfl rfl (by kernel_rfl) (by kernel_rfl) (by kernel_rfl) (fun _ _ _ h => h) ⟨Or.inr ⟨by first | kernel_rfl | rfl, rfl⟩, fun _ => rfl⟩ ?_
          refine wpAnyIn_take (i := 8) (v := undef) rfl rfl (by kernel_rfl) (by kernel_rfl) (by kernel_rfl) (fun _ _ _ h => h) ⟨Or.inr ⟨by first | kernel_rfl | rfl, rfl⟩, fun _ => rfl⟩ ?_
          refine wpAnyIn_take (i := 9) (v := undef) rfl rfl (by kernel_rfl) (by kernel_rfl) (by kernel_rfl) (fun _ _ _ h => h) ⟨Or.inr ⟨by first | kernel_rfl | rfl, rfl⟩, fun _ => rfl⟩ ?_
          refine wpAnyIn_take (i := 10) (v := undef) rfl rfl (by kernel_rfl) (by kernel_rfl) (by kernel_rfl) (fun _ _ _ h => h) ⟨Or.inr ⟨by first | kernel_rfl | rfl, rfl⟩, fun _ => rfl⟩ ?_
          refine wpAnyIn_take (i := 12) (v := undef) rfl rfl (by kernel_rfl) (by kernel_rfl) (by kernel_rfl) (fun _ _ _ h => h) ⟨Or.inr ⟨by first | kernel_rfl | rfl, rfl⟩, fun _ => rfl⟩ ?_
          refine wpAnyIn_take (i := 13) (v := undef) rfl rfl (by kernel_rfl) (by kernel_rfl) (by kernel_rfl) (fun _ _ _ h => h) ⟨Or.inr ⟨by first | kernel_rfl | rfl, rfl⟩, fun _ => rfl⟩ ?_
          refine wpAnyIn_take (i := 14) (v := undef) rfl rfl (by kernel_rfl) (by kernel_rfl) (by kernel_rfl) (fun _ _ _ h => h) ⟨Or.inr ⟨by first | kernel_rfl | rfl, rfl⟩, fun _ => rfl⟩ ?_
          refine wpAnyIn_take (i := 11) (v := undef) rfl rfl (by kernel_rfl) (by kernel_rfl) (by kernel_rfl) (fun _ _ _ h => h) ⟨Or.inr ⟨by first | kernel_rfl | rfl, rfl⟩, fun _ => rfl⟩ ?_
          refine wpAnyIn_take (i := 15) (v := undef) rfl rfl (by kernel_rfl) (by kernel_rfl) (by kernel_rfl) (fun _ _ _ h => h) ⟨Or.inr ⟨by first | kernel_rfl | rfl, rfl⟩, fun _ => rfl⟩ ?_
          refine wpAnyIn_ready (rs := [16]) (by kernel_rfl) (by simp) ?_
          refine AllReadyIn.cons rfl (fun K hK => ?_) AllReadyIn.nil
          go_simp
          refine ⟨fun _ h => (by cases h), ?_⟩
          refine hK _ _ ?_
          clear hK K
          refine wpAnyIn_take (i := 17) (v := undef) rfl rfl (by kernel_rfl) (by kernel_rfl) (by kernel_rfl) (fun _ _ _ h => h) ⟨Or.inr ⟨by first | kernel_rfl | rfl, rfl⟩, fun _ => rfl⟩ ?_
          refine wpAnyIn_take (i := 18) (v := ?_) rfl rfl (by kernel_rfl) (by kernel_rfl) (by kernel_rfl) (fun _ _ _ h => h) ⟨Or.inl ⟨by first | kernel_rfl | rfl, ?_⟩, fun _ => rfl⟩ ?_
          rotate_left 1
          · (intro w; go_simp) <;> (with_reducible rfl)
          refine wpAnyIn_done (by kernel_rfl) ?_ _
          gi_wp2
          refine ⟨trivial, ?_⟩
          gi_wp2
          go_ret
          exact .inl ⟨rfl, by rw [HSP.out, e3.out, if_neg (by rw [e2.out]; simp)]; simpa using HJD.out _ _ HJ1.out, keepsT_t HK1.out (fun _ _ => rfl)⟩
        · have b2 : decide (0 < x2) = false := by simpa using g2
          have e2 : Hid (inR c lo hi (k, v) = true) := by show _ = _; unfold inR; simp only [HX1.out, HX2.out, Bool.and_eq_true, decide_eq_true_eq]; exact ⟨by have := G1.out; omega, by omega⟩
          obtain ⟨fn, tmps, assign, body, hy, hR⟩ := HY.out (n - 1) (pre ++ tl.pairs.filter (inR c lo hi)) (k, v) W1.drew (HJD.out _ _ HJ1.out) (List.IsPrefix.trans ⟨_, rfl⟩ (HLB.out e2.out))
          have HR := hid hR
          clear hR g2
          gi_wp2
          refine wpIn_region_any (by kernel_rfl) ?_
          try (change wpAnyIn _ _ _ _ _ _ _ _ _ (World.drew _))
          refine wpAnyIn_take (i := 0) (v := ?_) rfl rfl (by kernel_rfl) (by kernel_rfl) (by kernel_rfl) (fun _ _ _ h => h) ⟨Or.inl ⟨by first | kernel_rfl | rfl, ?_⟩, fun _ => rfl⟩ ?_
          rotate_left 1
          · (intro w; go_simp) <;> (with_reducible rfl)
          refine wpAnyIn_take (i := 1) (v := ?_) rfl rfl (by kernel_rfl) (by kernel_rfl) (by kernel_rfl) (fun _ _ _ h => h) ⟨Or.inl ⟨by first | kernel_rfl | rfl, ?_⟩, fun _ => rfl⟩ ?_
          rotate_left 1
          · (intro w; go_simp) <;> (with_reducible rfl)
          refine wpAnyIn_take (i := 2) (v := ?_) rfl rfl (by kernel_rfl) (by kernel_rfl) (by kernel_rfl) (fun _ _ _ h => h) ⟨Or.inl ⟨by first | kernel_rfl | rfl, ?_⟩, fun _ => rfl⟩ ?_
          rotate_left 1
          · (intro w; go_simp) <;> (with_reducible rfl)
          refine wpAnyIn_take (i := 3) (v := ?_) rfl rfl (by kernel_rfl) (by kernel_rfl) (by kernel_rfl) (fun _ _ _ h => h) ⟨Or.inl ⟨by first | kernel_rfl | rfl, ?_⟩, fun _ => rfl⟩ ?_
          rotate_left 1
          · (intro w; go_simp) <;> (with_reducible rfl)
          refine wpAnyIn_take (i := 4) (v := ?_) rfl rfl (by kernel_rfl) (by kernel_rfl) (by kernel_rfl) (fun _ _ _ h => h) ⟨Or.inl ⟨by first | kernel_rfl | rfl, ?_⟩, fun _ => rfl⟩ ?_
          rotate_left 1
          · (intro w; go_simp) <;> (with_reducible rfl)
          refine wpAnyIn_take (i := 5) (v := ?_) rfl rfl (by kernel_rfl) (by kernel_rfl) (by kernel_rfl) (fun _ _ _ h => h) ⟨Or.inl ⟨by first | kernel_rfl | rfl, ?_⟩, fun _ => rfl⟩ ?_
          rotate_left 1
          · (intro w; go_simp) <;> (with_reducible rfl)
          refine wpAnyIn_take (i := 6) (v := ?_) rfl rfl (by kernel_rfl) (by kernel_rfl) (by kernel_rfl) (fun _ _ _ h => h) ⟨Or.inl ⟨by first | kernel_rfl | rfl, ?_⟩, fun _ => rfl⟩ ?_
          rotate_left 1
          · (intro w; go_simp) <;> (with_reducible rfl)
          refine wpAnyIn_take (i := 7) (v := ?_) rfl rfl (by kernel_rfl) (by kernel_rfl) (by kernel_rfl) (fun _ _ _ h => h) ⟨Or.inl ⟨by first | kernel_rfl | rfl, ?_⟩, fun _ => rfl⟩ ?_
          rotate_left 1
          · (intro w; go_simp) <;> (with_reducible rfl)
          refine wpAnyIn_take (i := 8) (v := ?_) rfl rfl (by kernel_rfl) (by kernel_rfl) (by kernel_rfl) (fun _ _ _ h => h) ⟨Or.inl ⟨by first | kernel_rfl | rfl, ?_⟩, fun _ => rfl⟩ ?_
          rotate_left 1
          · (intro w; go_simp) <;> (with_reducible rfl)
          refine wpAnyIn_take (i := 9) (v := ?_) rfl rfl (by kernel_rfl) (by kernel_rfl) (by kernel_rfl) (fun _ _ _ h => h) ⟨Or.inl ⟨by first | kernel_rfl | rfl, ?_⟩, fun _ => rfl⟩ ?_
          rotate_left 1
          · (intro w; go_simp) <;> (with_reducible rfl)
          refine wpAnyIn_take (i := 10) (v := ?_) rfl rfl (by kernel_rfl) (by kernel_rfl) (by kernel_rfl) (fun _ _ _ h => h) ⟨Or.inl ⟨by first | kernel_rfl | rfl, ?_⟩, fun _ => rfl⟩ ?_
          rotate_left 1
          · (intro w; go_simp) <;> (with_reducible rfl)
          refine wpAnyIn_take (i := 12) (v := ?_) rfl rfl (by kernel_rfl) (by kernel_rfl) (by kernel_rfl) (fun _ _ _ h => h) ⟨Or.inl ⟨by first | kernel_rfl | rfl, ?_⟩, fun _ => rfl⟩ ?_
          rotate_left 1
          · (intro w; go_simp) <;> (with_reducible rfl)
          refine wpAnyIn_take (i := 13) (v := ?_) rfl rfl (by kernel_rfl) (by kernel_rfl) (by kernel_rfl) (fun _ _ _ h => h) ⟨Or.inl ⟨by first | kernel_rfl | rfl, ?_⟩, fun _ => rfl⟩ ?_
          rotate_left 1
          · (intro w; go_simp) <;> (with_reducible rfl)
          refine wpAnyIn_take (i := 14) (v := ?_) rfl rfl (by kernel_rfl) (by kernel_rfl) (by kernel_rfl) (fun _ _ _ h => h) ⟨Or.inl ⟨by first | kernel_rfl | rfl, ?_⟩, fun _ => rfl⟩ ?_
          rotate_left 1
          · (intro w; go_simp) <;> (with_reducible rfl)
          refine wpAnyIn_ready (rs := [11, 15]) (by kernel_rfl) (by simp) ?_
          refine AllReadyIn.cons rfl (fun K hK => ?_) (AllReadyIn.cons rfl (fun K hK => ?_) AllReadyIn.nil)
          · go_simp
            refine hK _ _ ?_
            clear hK K
            refine wpAnyIn_ready (rs := [15]) (by kernel_rfl) (by simp) ?_
            refine AllReadyIn.cons rfl (fun K hK => ?_) AllReadyIn.nil
            go_simp
            refine hK _ _ ?_
            clear hK K
            refine wpAnyIn_ready (rs := [16]) (by kernel_rfl) (by simp) ?_
            refine AllReadyIn.cons rfl (fun K hK => ?_) AllReadyIn.nil
            go_simp
            refine ⟨fun h => (by cases h), ?_⟩
            refine HR.out.mono ?_
            rintro e W2 (⟨rfl, hj2, hk2⟩ | ⟨rfl, hx2⟩)
            all_goals refine hK _ _ ?_
            all_goals clear hK K
            · have HK2 := hid (keepsT_t (keepsT_t HK1.out (show KeepsT P W1 W1.drew from fun _ _ => rfl)) hk2)
              have HT2 := hid (HT.out.keeps HK2.out HP.out)
              have d4 := HT2.out.1.c3
              have HIR := hid (IR.out (n - 1) (pre ++ tl.pairs.filter (inR c lo hi) ++ [(k, v)]) W2 HT2.out.2.2 (fun x hx => HP.out x (by simp [Tr.blocks, hx])) U.out.2.1 hj2 (HLB.out e2.out))
              clear hk2 hj2 c0 c1 d3 hy
              refine wpAnyIn_take (i := 17) (v := ?_) rfl rfl (by kernel_rfl) (by kernel_rfl) (by kernel_rfl) (fun _ _ _ h => h) ⟨Or.inl ⟨by first | kernel_rfl | rfl, ?_⟩, fun _ => rfl⟩ ?_
              rotate_left 1
              · (intro w; go_simp) <;> (with_reducible rfl)
              refine wpAnyIn_take (i := 18) (v := ?_) rfl rfl (by kernel_rfl) (by kernel_rfl) (by kernel_rfl) (fun _ _ _ h => h) ⟨Or.inl ⟨by first | kernel_rfl | rfl, ?_⟩, fun _ => rfl⟩ ?_
              rotate_left 1
              · (intro w; go_simp) <;> (with_reducible rfl)
              refine wpAnyIn_done (by kernel_rfl) ?_ _
              gi_wp2_with (refine ⟨trivial, fun h => (by cases h), ?_⟩; with_reducible refine HIR.out.mono ?_; rintro e W3 (⟨rfl, hj3, hk3⟩ | ⟨rfl, q, hq, hx3⟩))
              · go_ret
                exact .inl ⟨rfl, by rw [HSP.out, if_pos e2.out]; simpa [List.append_assoc] using hj3, keepsT_t HK2.out hk3⟩
              · go_ret
                obtain ⟨r, hr'⟩ := hq
                exact .inr ⟨rfl, tl.pairs.filter (inR c lo hi) ++ (k, v) :: q, ⟨r, by rw [HSP.out, if_pos e2.out, ← hr']; simp⟩, by simpa [List.append_assoc] using hx3⟩
            · clear c0 c1 d3 hy
              refine wpAnyIn_take (i := 17) (v := ?_) rfl rfl (by kernel_rfl) (by kernel_rfl) (by kernel_rfl) (fun _ _ _ h => h) ⟨Or.inl ⟨by first | kernel_rfl | rfl, ?_⟩, fun _ => rfl⟩ ?_
              rotate_left 1
              · (intro w; go_simp) <;> (with_reducible rfl)
              refine wpAnyIn_take (i := 18) (v := ?_) rfl rfl (by kernel_rfl) (by kernel_rfl) (by kernel_rfl) (fun _ _ _ h => h) ⟨Or.inl ⟨by first | kernel_rfl | rfl, ?_⟩, fun _ => rfl⟩ ?_
              rotate_left 1
              · (intro w; go_simp) <;> (with_reducible rfl)
              refine wpAnyIn_done (by kernel_rfl) ?_ _
              gi_wp2
              go_ret
              exact .inr ⟨rfl, tl.pairs.filter (inR c lo hi) ++ [(k, v)], ⟨tr.pairs.filter (inR c lo hi), by rw [HSP.out, if_pos e2.out]⟩, by simpa [List.append_assoc] using hx2⟩
          · go_simp
            refine hK _ _ ?_
            clear hK K
            refine wpAnyIn_ready (rs := [11]) (by kernel_rfl) (by simp) ?_
            refine AllReadyIn.cons rfl (fun K hK => ?_) AllReadyIn.nil
            go_simp
            refine hK _ _ ?_
            clear hK K
            refine wpAnyIn_ready (rs := [16]) (by kernel_rfl) (by simp) ?_
            refine AllReadyIn.cons rfl (fun K hK => ?_) AllReadyIn.nil
            go_simp
            refine ⟨fun h => (by cases h), ?_⟩
            refine HR.out.mono ?_
            rintro e W2 (⟨rfl, hj2, hk2⟩ | ⟨rfl, hx2⟩)
            all_goals refine hK _ _ ?_
            all_goals clear hK K
            · have HK2 := hid (keepsT_t (keepsT_t HK1.out (show KeepsT P W1 W1.drew from fun _ _ => rfl)) hk2)
              have HT2 := hid (HT.out.keeps HK2.out HP.out)
              have d4 := HT2.out.1.c3
              have HIR := hid (IR.out (n - 1) (pre ++ tl.pairs.filter (inR c lo hi) ++ [(k, v)]) W2 HT2.out.2.2 (fun x hx => HP.out x (by simp [Tr.blocks, hx])) U.out.2.1 hj2 (HLB.out e2.out))
              clear hk2 hj2 c0 c1 d3 hy
              refine wpAnyIn_take (i := 17) (v := ?_) rfl rfl (by kernel_rfl) (by kernel_rfl) (by kernel_rfl) (fun _ _ _ h => h) ⟨Or.inl ⟨by first | kernel_rfl | rfl, ?_⟩, fun _ => rfl⟩ ?_
              rotate_left 1
              · (intro w; go_simp) <;> (with_reducible rfl)
              refine wpAnyIn_take (i := 18) (v := ?_) rfl rfl (by kernel_rfl) (by kernel_rfl) (by kernel_rfl) (fun _ _ _ h => h) ⟨Or.inl ⟨by first | kernel_rfl | rfl, ?_⟩, fun _ => rfl⟩ ?_
              rotate_left 1
              · (intro w; go_simp) <;> (with_reducible rfl)
              refine wpAnyIn_done (by kernel_rfl) ?_ _
              gi_wp2_with (refine ⟨trivial, fun h => (by cases h), ?_⟩; with_reducible refine HIR.out.mono ?_; rintro e W3 (⟨rfl, hj3, hk3⟩ | ⟨rfl, q, hq, hx3⟩))
              · go_ret
                exact .inl ⟨rfl, by rw [HSP.out, if_pos e2.out]; simpa [List.append_assoc] using hj3, keepsT_t HK2.out hk3⟩
              · go_ret
                obtain ⟨r, hr'⟩ := hq
                exact .inr ⟨rfl, tl.pairs.filter (inR c lo hi) ++ (k, v) :: q, ⟨r, by rw [HSP.out, if_pos e2.out, ← hr']; simp⟩, by simpa [List.append_assoc] using hx3⟩
            · clear c0 c1 d3 hy
              refine wpAnyIn_take (i := 17) (v := ?_) rfl rfl (by kernel_rfl) (by kernel_rfl) (by kernel_rfl) (fun _ _ _ h => h) ⟨Or.inl ⟨by first | kernel_rfl | rfl, ?_⟩, fun _ => rfl⟩ ?_
              rotate_left 1
              · (intro w; go_simp) <;> (with_reducible rfl)
              refine wpAnyIn_take (i := 18) (v := ?_) rfl rfl (by kernel_rfl) (by kernel_rfl) (by kernel_rfl) (fun _ _ _ h => h) ⟨Or.inl ⟨by first | kernel_rfl | rfl, ?_⟩, fun _ => rfl⟩ ?_
              rotate_left 1
              · (intro w; go_simp) <;> (with_reducible rfl)
              refine wpAnyIn_done (by kernel_rfl) ?_ _
              gi_wp2
              go_ret
              exact .inr ⟨rfl, tl.pairs.filter (inR c lo hi) ++ [(k, v)], ⟨tr.pairs.filter (inR c lo hi), by rw [HSP.out, if_pos e2.out]⟩, by simpa [List.append_assoc] using hx2⟩
      · go_ret
        obtain ⟨r, hr'⟩ := hq
        exact .inr ⟨rfl, q, ⟨r ++ ((if inR c lo hi (k, v) = true then [(k, v)] else []) ++ tr.pairs.filter (inR c lo hi)), by rw [HSP.out, ← hr']; simp only [List.append_assoc]⟩, hx1⟩
end TU
end Go.Proofs.Ytfjeagffdijcoaa
