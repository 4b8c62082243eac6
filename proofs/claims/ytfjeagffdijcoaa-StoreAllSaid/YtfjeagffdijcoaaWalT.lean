/- Layer 7: walk over a tree of ints whose values may change while it is gone through. -/
import Derived.Test.YtfjeagffdijcoaaRanT
import Derived.Test.YtfjeagffdijcoaaTrG
namespace Go.Proofs.Ytfjeagffdijcoaa
open Go.RowKit Go.Shelf
attribute [local go_sem] Oper.semAt_some

namespace Tr
variable {κ ν : Type}
/-- its nodes in order: where each lies, its key -/
def nodes : Tr κ ν → List (Nat × κ)
  | nil => []
  | node b l k _ r => l.nodes ++ (b, k) :: r.nodes
theorem nodes_len (t : Tr κ ν) : t.nodes.length = t.many := by
  induction t with
  | nil => rfl
  | node b l k v r hl hr => simp only [nodes, List.length_append, List.length_cons, hl, hr, many]; omega
end Tr

namespace TI
open Tr (nodes nodes_len)
/-- a tree's keys and links lie in memory; of the values: that they are numbers -/
def Links (w : World) : Tr Int Int → Prop
  | .nil => True
  | .node b l k _ r => w.cell? ⟨b, 0, none⟩ = some (ek k) ∧ w.cell? ⟨b, 2, none⟩ = some l.ptr ∧ w.cell? ⟨b, 3, none⟩ = some r.ptr ∧ (∃ u : Int, w.cell? ⟨b, 1, none⟩ = some (.int .i64 u)) ∧ Links w l ∧ Links w r

/-- what is told next: the key of the node that is next, and the value that it has now -/
def Next (T0 : Tr Int Int) (pre : List (Int × Int)) (x : Int × Int) (W : World) : Prop := ∃ b, T0.nodes[pre.length]? = some (b, x.1) ∧ W.cell? ⟨b, 1, none⟩ = some (.int .i64 x.2)

set_option maxRecDepth 100000 in
set_option maxHeartbeats 4000000 in
theorem walkNow_in (l : Nat) (T0 : Tr Int Int) (J Jx : List (Int × Int) → World → Prop) (hL : ∀ pre W, J pre W → Links W T0)
    (hY : ∀ m pre x W, J pre W → Next T0 pre x W → YieldAt Fence.wide m Try.prog l #[.int .i64 x.1, .int .i64 x.2] W fun e W' =>
      (e = .returned (.bool true) ∧ J (pre ++ [x]) W') ∨ (e = .returned (.bool false) ∧ Jx (pre ++ [x]) W')) (hJd : ∀ pre W q, J pre W → J pre (W.drewN q)) (T : Tr Int Int) :
    ∀ (A B : List (Nat × Int)) (n : Nat) (pre : List (Int × Int)) (W : World), T0.nodes = A ++ T.nodes ++ B → A.length = pre.length → (∀ W, Links W T0 → Links W T) → J pre W →
      CallsIn Fence.wide n Try.prog 79 #[T.ptr, .func (.yield l) #[] #[]] W fun e W' =>
        (e = .returned (.bool true) ∧ ∃ ys : List (Int × Int), ys.length = T.many ∧ J (pre ++ ys) W') ∨ (e = .returned (.bool false) ∧ ∃ q, Jx (pre ++ q) W') := by
  induction T with
  | nil =>
    intro A B n pre W _ _ _ hJ
    show CallsIn _ _ _ _ #[.pointer none, _] _ _
    refine callsIn_of_wp Try.func79 rfl trivial ?_ rfl
    simp only [Try.ntmps79, List.size_toArray, List.length_cons, List.length_nil, Nat.reduceAdd, Nat.reduceSub, Array.replicate_succ, Array.replicate_zero, List.push_toArray, List.append_toArray, List.nil_append, List.cons_append]
    gi_wp2
    refine wpIn_region_any (by kernel_rfl) ?_
    try (change wpAnyIn _ _ _ _ _ _ _ _ _ (World.drew _))
    refine wpAnyIn_take (i := 0) (v := ?_) rfl rfl (by kernel_rfl) (by kernel_rfl) (by kernel_rfl) (fun _ _ _ h => h) ⟨Or.inl ⟨by first | kernel_rfl | rfl, ?_⟩, fun _ => rfl⟩ ?_
    rotate_left 1
    · (intro w; go_simp) <;> (with_reducible rfl)
    refine wpAnyIn_take (i := 1) (v := ?_) rfl rfl (by kernel_rfl) (by kernel_rfl) (by kernel_rfl) (fun _ _ _ h => h) ⟨Or.inl ⟨by first | kernel_rfl | rfl, ?_⟩, fun _ => rfl⟩ ?_
    rotate_left 1
    · (intro w; go_simp) <;> (with_reducible rfl)
    refine wpAnyIn_take (i := 2) (v := ?_) rfl rfl (by kernel_rfl) (by kernel_rfl) (by kernel_rfl) (fun _ _ _ h => h) ⟨Or.inl ⟨by first | kernel_rfl | rfl, ?_⟩, fun _ => rfl⟩ ?_
    rotate_left 1
    · (intro w; go_simp) <;> (with_reducible rfl)
    refine wpAnyIn_take (i := 3) (v := undef) rfl rfl (by kernel_rfl) (by kernel_rfl) (by kernel_rfl) (fun _ _ _ h => h) ⟨Or.inr ⟨by first | kernel_rfl | rfl, rfl⟩, fun _ => rfl⟩ ?_
    refine wpAnyIn_take (i := 4) (v := undef) rfl rfl (by kernel_rfl) (by kernel_rfl) (by kernel_rfl) (fun _ _ _ h => h) ⟨Or.inr ⟨by first | kernel_rfl | rfl, rfl⟩, fun _ => rfl⟩ ?_
    refine wpAnyIn_take (i := 5) (v := undef) rfl rfl (by kernel_rfl) (by kernel_rfl) (by kernel_rfl) (fun _ _ _ h => h) ⟨Or.inr ⟨by first | kernel_rfl | rfl, rfl⟩, fun _ => rfl⟩ ?_
    refine wpAnyIn_take (i := 7) (v := undef) rfl rfl (by kernel_rfl) (by kernel_rfl) (by kernel_rfl) (fun _ _ _ h => h) ⟨Or.inr ⟨by first | kernel_rfl | rfl, rfl⟩, fun _ => rfl⟩ ?_
    refine wpAnyIn_take (i := 6) (v := undef) rfl rfl (by kernel_rfl) (by kernel_rfl) (by kernel_rfl) (fun _ _ _ h => h) ⟨Or.inr ⟨by first | kernel_rfl | rfl, rfl⟩, fun _ => rfl⟩ ?_
    refine wpAnyIn_ready (rs := [8]) (by kernel_rfl) (by simp) ?_
    refine AllReadyIn.cons rfl (fun K hK => ?_) AllReadyIn.nil
    go_simp
    refine ⟨trivial, ?_⟩
    refine hK _ _ ?_
    clear hK K
    refine wpAnyIn_take (i := 9) (v := undef) rfl rfl (by kernel_rfl) (by kernel_rfl) (by kernel_rfl) (fun _ _ _ h => h) ⟨Or.inr ⟨by first | kernel_rfl | rfl, rfl⟩, fun _ => rfl⟩ ?_
    refine wpAnyIn_take (i := 10) (v := undef) rfl rfl (by kernel_rfl) (by kernel_rfl) (by kernel_rfl) (fun _ _ _ h => h) ⟨Or.inr ⟨by first | kernel_rfl | rfl, rfl⟩, fun _ => rfl⟩ ?_
    refine wpAnyIn_take (i := 11) (v := undef) rfl rfl (by kernel_rfl) (by kernel_rfl) (by kernel_rfl) (fun _ _ _ h => h) ⟨Or.inr ⟨by first | kernel_rfl | rfl, rfl⟩, fun _ => rfl⟩ ?_
    refine wpAnyIn_take (i := 12) (v := undef) rfl rfl (by kernel_rfl) (by kernel_rfl) (by kernel_rfl) (fun _ _ _ h => h) ⟨Or.inr ⟨by first | kernel_rfl | rfl, rfl⟩, fun _ => rfl⟩ ?_
    refine wpAnyIn_take (i := 13) (v := undef) rfl rfl (by kernel_rfl) (by kernel_rfl) (by kernel_rfl) (fun _ _ _ h => h) ⟨Or.inr ⟨by first | kernel_rfl | rfl, rfl⟩, fun _ => rfl⟩ ?_
    refine wpAnyIn_take (i := 14) (v := undef) rfl rfl (by kernel_rfl) (by kernel_rfl) (by kernel_rfl) (fun _ _ _ h => h) ⟨Or.inr ⟨by first | kernel_rfl | rfl, rfl⟩, fun _ => rfl⟩ ?_
    refine wpAnyIn_take (i := 15) (v := undef) rfl rfl (by kernel_rfl) (by kernel_rfl) (by kernel_rfl) (fun _ _ _ h => h) ⟨Or.inr ⟨by first | kernel_rfl | rfl, rfl⟩, fun _ => rfl⟩ ?_
    refine wpAnyIn_take (i := 16) (v := undef) rfl rfl (by kernel_rfl) (by kernel_rfl) (by kernel_rfl) (fun _ _ _ h => h) ⟨Or.inr ⟨by first | kernel_rfl | rfl, rfl⟩, fun _ => rfl⟩ ?_
    refine wpAnyIn_take (i := 17) (v := undef) rfl rfl (by kernel_rfl) (by kernel_rfl) (by kernel_rfl) (fun _ _ _ h => h) ⟨Or.inr ⟨by first | kernel_rfl | rfl, rfl⟩, fun _ => rfl⟩ ?_
    refine wpAnyIn_take (i := 18) (v := undef) rfl rfl (by kernel_rfl) (by kernel_rfl) (by kernel_rfl) (fun _ _ _ h => h) ⟨Or.inr ⟨by first | kernel_rfl | rfl, rfl⟩, fun _ => rfl⟩ ?_
    refine wpAnyIn_ready (rs := [19]) (by kernel_rfl) (by simp) ?_
    refine AllReadyIn.cons rfl (fun K hK => ?_) AllReadyIn.nil
    go_simp
    refine ⟨fun _ h => (by cases h), ?_⟩
    refine hK _ _ ?_
    clear hK K
    refine wpAnyIn_take (i := 20) (v := undef) rfl rfl (by kernel_rfl) (by kernel_rfl) (by kernel_rfl) (fun _ _ _ h => h) ⟨Or.inr ⟨by first | kernel_rfl | rfl, rfl⟩, fun _ => rfl⟩ ?_
    refine wpAnyIn_take (i := 21) (v := undef) rfl rfl (by kernel_rfl) (by kernel_rfl) (by kernel_rfl) (fun _ _ _ h => h) ⟨Or.inr ⟨by first | kernel_rfl | rfl, rfl⟩, fun _ => rfl⟩ ?_
    refine wpAnyIn_take (i := 22) (v := undef) rfl rfl (by kernel_rfl) (by kernel_rfl) (by kernel_rfl) (fun _ _ _ h => h) ⟨Or.inr ⟨by first | kernel_rfl | rfl, rfl⟩, fun _ => rfl⟩ ?_
    refine wpAnyIn_take (i := 23) (v := undef) rfl rfl (by kernel_rfl) (by kernel_rfl) (by kernel_rfl) (fun _ _ _ h => h) ⟨Or.inr ⟨by first | kernel_rfl | rfl, rfl⟩, fun _ => rfl⟩ ?_
    refine wpAnyIn_take (i := 24) (v := undef) rfl rfl (by kernel_rfl) (by kernel_rfl) (by kernel_rfl) (fun _ _ _ h => h) ⟨Or.inr ⟨by first | kernel_rfl | rfl, rfl⟩, fun _ => rfl⟩ ?_
    refine wpAnyIn_take (i := 26) (v := undef) rfl rfl (by kernel_rfl) (by kernel_rfl) (by kernel_rfl) (fun _ _ _ h => h) ⟨Or.inr ⟨by first | kernel_rfl | rfl, rfl⟩, fun _ => rfl⟩ ?_
    refine wpAnyIn_take (i := 25) (v := undef) rfl rfl (by kernel_rfl) (by kernel_rfl) (by kernel_rfl) (fun _ _ _ h => h) ⟨Or.inr ⟨by first | kernel_rfl | rfl, rfl⟩, fun _ => rfl⟩ ?_
    refine wpAnyIn_ready (rs := [27]) (by kernel_rfl) (by simp) ?_
    refine AllReadyIn.cons rfl (fun K hK => ?_) AllReadyIn.nil
    go_simp
    refine ⟨trivial, ?_⟩
    refine hK _ _ ?_
    clear hK K
    refine wpAnyIn_take (i := 28) (v := undef) rfl rfl (by kernel_rfl) (by kernel_rfl) (by kernel_rfl) (fun _ _ _ h => h) ⟨Or.inr ⟨by first | kernel_rfl | rfl, rfl⟩, fun _ => rfl⟩ ?_
    refine wpAnyIn_take (i := 29) (v := ?_) rfl rfl (by kernel_rfl) (by kernel_rfl) (by kernel_rfl) (fun _ _ _ h => h) ⟨Or.inl ⟨by first | kernel_rfl | rfl, ?_⟩, fun _ => rfl⟩ ?_
    rotate_left 1
    · (intro w; go_simp) <;> (with_reducible rfl)
    refine wpAnyIn_take (i := 30) (v := ?_) rfl rfl (by kernel_rfl) (by kernel_rfl) (by kernel_rfl) (fun _ _ _ h => h) ⟨Or.inl ⟨by first | kernel_rfl | rfl, ?_⟩, fun _ => rfl⟩ ?_
    rotate_left 1
    · (intro w; go_simp) <;> (with_reducible rfl)
    refine wpAnyIn_done (by kernel_rfl) ?_ _
    gi_wp2
    go_ret
    exact .inl ⟨rfl, [], rfl, (by rw [List.append_nil]; exact hJd _ _ 1 hJ)⟩
  | node b tl k v tr ihl ihr =>
    intro A B n pre W hN hA hS hJ
    have HI1 := hid (ihl A ((b, k) :: tr.nodes ++ B) (n - 1) pre W.drew (by rw [hN]; simp [nodes]) hA (fun W h => (hS W h).2.2.2.2.1) (hJd _ _ 1 hJ))
    have c2 := (hS W (hL _ _ hJ)).2.1
    have HL := hid hL
    have HS := hid hS
    have HN := hid hN
    have HA := hid hA
    have IR := hid ihr
    have HY := hid hY
    clear hN hA hS hJ ihl ihr hL
    show CallsIn _ _ _ _ #[.pointer (some ⟨b, 0, none⟩), _] _ _
    refine callsIn_of_wp Try.func79 rfl trivial ?_ rfl
    simp only [Try.ntmps79, List.size_toArray, List.length_cons, List.length_nil, Nat.reduceAdd, Nat.reduceSub, Array.replicate_succ, Array.replicate_zero, List.push_toArray, List.append_toArray, List.nil_append, List.cons_append]
    gi_wp2
    refine wpIn_region_any (by kernel_rfl) ?_
    try (change wpAnyIn _ _ _ _ _ _ _ _ _ (World.drew _))
    refine wpAnyIn_take (i := 0) (v := ?_) rfl rfl (by kernel_rfl) (by kernel_rfl) (by kernel_rfl) (fun _ _ _ h => h) ⟨Or.inl ⟨by first | kernel_rfl | rfl, ?_⟩, fun _ => rfl⟩ ?_
    rotate_left 1
    · (intro w; go_simp) <;> (with_reducible rfl)
    refine wpAnyIn_take (i := 1) (v := ?_) rfl rfl (by kernel_rfl) (by kernel_rfl) (by kernel_rfl) (fun _ _ _ h => h) ⟨Or.inl ⟨by first | kernel_rfl | rfl, ?_⟩, fun _ => rfl⟩ ?_
    rotate_left 1
    · (intro w; go_simp) <;> (with_reducible rfl)
    refine wpAnyIn_take (i := 2) (v := ?_) rfl rfl (by kernel_rfl) (by kernel_rfl) (by kernel_rfl) (fun _ _ _ h => h) ⟨Or.inl ⟨by first | kernel_rfl | rfl, ?_⟩, fun _ => rfl⟩ ?_
    rotate_left 1
    · (intro w; go_simp) <;> (with_reducible rfl)
    refine wpAnyIn_take (i := 3) (v := ?_) rfl rfl (by kernel_rfl) (by kernel_rfl) (by kernel_rfl) (fun _ _ _ h => h) ⟨Or.inl ⟨by first | kernel_rfl | rfl, ?_⟩, fun _ => rfl⟩ ?_
    rotate_left 1
    · (intro w; go_simp) <;> (with_reducible rfl)
    refine wpAnyIn_take (i := 4) (v := ?_) rfl rfl (by kernel_rfl) (by kernel_rfl) (by kernel_rfl) (fun _ _ _ h => h) ⟨Or.inl ⟨by first | kernel_rfl | rfl, ?_⟩, fun _ => rfl⟩ ?_
    rotate_left 1
    · (intro w; go_simp) <;> (with_reducible rfl)
    refine wpAnyIn_take (i := 5) (v := ?_) rfl rfl (by kernel_rfl) (by kernel_rfl) (by kernel_rfl) (fun _ _ _ h => h) ⟨Or.inl ⟨by first | kernel_rfl | rfl, ?_⟩, fun _ => rfl⟩ ?_
    rotate_left 1
    · (intro w; go_simp) <;> (with_reducible rfl)
    refine wpAnyIn_take (i := 7) (v := ?_) rfl rfl (by kernel_rfl) (by kernel_rfl) (by kernel_rfl) (fun _ _ _ h => h) ⟨Or.inl ⟨by first | kernel_rfl | rfl, ?_⟩, fun _ => rfl⟩ ?_
    rotate_left 1
    · (intro w; go_simp) <;> (with_reducible rfl)
    refine wpAnyIn_ready (rs := [6]) (by kernel_rfl) (by simp) ?_
    refine AllReadyIn.cons rfl (fun K hK => ?_) AllReadyIn.nil
    go_simp
    refine hK _ _ ?_
    clear hK K
    refine wpAnyIn_ready (rs := [8]) (by kernel_rfl) (by simp) ?_
    refine AllReadyIn.cons rfl (fun K hK => ?_) AllReadyIn.nil
    go_simp
    refine ⟨trivial, fun h => (by cases h), ?_⟩
    refine HI1.out.mono ?_
    rintro e W1 (⟨rfl, ys1, hl1, hj1⟩ | ⟨rfl, q, hx1⟩)
    all_goals refine hK _ _ ?_
    all_goals clear hK K
    · -- the left side has been gone through
      have hk1 := HS.out W1 (HL.out _ _ hj1)
      have c0 := hk1.1
      obtain ⟨u, c1⟩ := hk1.2.2.2.1
      obtain ⟨fn, tmps, assign, body, hy, hR⟩ := HY.out (n - 1) (pre ++ ys1) (k, u) W1 hj1 ⟨b, by rw [HN.out, List.length_append, hl1, ← HA.out, ← nodes_len, List.append_assoc, List.getElem?_append_right (Nat.le_add_right _ _), Nat.add_sub_cancel_left]; simp [nodes], c1⟩
      have HR := hid hR
      have HJ1 := hid hj1
      clear hk1 hj1 hR
      refine wpAnyIn_take (i := 9) (v := ?_) rfl rfl (by kernel_rfl) (by kernel_rfl) (by kernel_rfl) (fun _ _ _ h => h) ⟨Or.inl ⟨by first | kernel_rfl | rfl, ?_⟩, fun _ => rfl⟩ ?_
      rotate_left 1
      · (intro w; go_simp) <;> (with_reducible rfl)
      refine wpAnyIn_take (i := 10) (v := ?_) rfl rfl (by kernel_rfl) (by kernel_rfl) (by kernel_rfl) (fun _ _ _ h => h) ⟨Or.inl ⟨by first | kernel_rfl | rfl, ?_⟩, fun _ => rfl⟩ ?_
      rotate_left 1
      · (intro w; go_simp) <;> (with_reducible rfl)
      refine wpAnyIn_take (i := 11) (v := ?_) rfl rfl (by kernel_rfl) (by kernel_rfl) (by kernel_rfl) (fun _ _ _ h => h) ⟨Or.inl ⟨by first | kernel_rfl | rfl, ?_⟩, fun _ => rfl⟩ ?_
      rotate_left 1
      · (intro w; go_simp) <;> (with_reducible rfl)
      refine wpAnyIn_take (i := 12) (v := ?_) rfl rfl (by kernel_rfl) (by kernel_rfl) (by kernel_rfl) (fun _ _ _ h => h) ⟨Or.inl ⟨by first | kernel_rfl | rfl, ?_⟩, fun _ => rfl⟩ ?_
      rotate_left 1
      · (intro w; go_simp) <;> (with_reducible rfl)
      refine wpAnyIn_take (i := 13) (v := ?_) rfl rfl (by kernel_rfl) (by kernel_rfl) (by kernel_rfl) (fun _ _ _ h => h) ⟨Or.inl ⟨by first | kernel_rfl | rfl, ?_⟩, fun _ => rfl⟩ ?_
      rotate_left 1
      · (intro w; go_simp) <;> (with_reducible rfl)
      refine wpAnyIn_take (i := 15) (v := ?_) rfl rfl (by kernel_rfl) (by kernel_rfl) (by kernel_rfl) (fun _ _ _ h => h) ⟨Or.inl ⟨by first | kernel_rfl | rfl, ?_⟩, fun _ => rfl⟩ ?_
      rotate_left 1
      · (intro w; go_simp) <;> (with_reducible rfl)
      refine wpAnyIn_take (i := 16) (v := ?_) rfl rfl (by kernel_rfl) (by kernel_rfl) (by kernel_rfl) (fun _ _ _ h => h) ⟨Or.inl ⟨by first | kernel_rfl | rfl, ?_⟩, fun _ => rfl⟩ ?_
      rotate_left 1
      · (intro w; go_simp) <;> (with_reducible rfl)
      refine wpAnyIn_take (i := 17) (v := ?_) rfl rfl (by kernel_rfl) (by kernel_rfl) (by kernel_rfl) (fun _ _ _ h => h) ⟨Or.inl ⟨by first | kernel_rfl | rfl, ?_⟩, fun _ => rfl⟩ ?_
      rotate_left 1
      · (intro w; go_simp) <;> (with_reducible rfl)
      refine wpAnyIn_ready (rs := [14, 18]) (by kernel_rfl) (by simp) ?_
      refine AllReadyIn.cons rfl (fun K hK => ?_) (AllReadyIn.cons rfl (fun K hK => ?_) AllReadyIn.nil)
      · go_simp
        refine hK _ _ ?_
        clear hK K
        refine wpAnyIn_ready (rs := [18]) (by kernel_rfl) (by simp) ?_
        refine AllReadyIn.cons rfl (fun K hK => ?_) AllReadyIn.nil
        go_simp
        refine hK _ _ ?_
        clear hK K
        refine wpAnyIn_ready (rs := [19]) (by kernel_rfl) (by simp) ?_
        refine AllReadyIn.cons rfl (fun K hK => ?_) AllReadyIn.nil
        go_simp
        refine ⟨fun h => (by cases h), ?_⟩
        refine HR.out.mono ?_
        rintro e W2 (⟨rfl, hj2⟩ | ⟨rfl, hx2⟩)
        all_goals refine hK _ _ ?_
        all_goals clear hK K
        · -- the round goes on
          have d3 := (HS.out W2 (HL.out _ _ hj2)).2.2.1
          have HI3 := hid (IR.out (A ++ tl.nodes ++ [(b, k)]) B (n - 1) (pre ++ ys1 ++ [(k, u)]) W2 (by rw [HN.out]; simp [nodes]) (by simp only [List.length_append, List.length_singleton]; rw [hl1, HA.out, nodes_len]) (fun W h => (HS.out W h).2.2.2.2.2) hj2)
          clear hj2 c0 c1 hy
          refine wpAnyIn_take (i := 20) (v := ?_) rfl rfl (by kernel_rfl) (by kernel_rfl) (by kernel_rfl) (fun _ _ _ h => h) ⟨Or.inl ⟨by first | kernel_rfl | rfl, ?_⟩, fun _ => rfl⟩ ?_
          rotate_left 1
          · (intro w; go_simp) <;> (with_reducible rfl)
          refine wpAnyIn_take (i := 21) (v := ?_) rfl rfl (by kernel_rfl) (by kernel_rfl) (by kernel_rfl) (fun _ _ _ h => h) ⟨Or.inl ⟨by first | kernel_rfl | rfl, ?_⟩, fun _ => rfl⟩ ?_
          rotate_left 1
          · (intro w; go_simp) <;> (with_reducible rfl)
          refine wpAnyIn_take (i := 22) (v := ?_) rfl rfl (by kernel_rfl) (by kernel_rfl) (by kernel_rfl) (fun _ _ _ h => h) ⟨Or.inl ⟨by first | kernel_rfl | rfl, ?_⟩, fun _ => rfl⟩ ?_
          rotate_left 1
          · (intro w; go_simp) <;> (with_reducible rfl)
          refine wpAnyIn_take (i := 23) (v := ?_) rfl rfl (by kernel_rfl) (by kernel_rfl) (by kernel_rfl) (fun _ _ _ h => h) ⟨Or.inl ⟨by first | kernel_rfl | rfl, ?_⟩, fun _ => rfl⟩ ?_
          rotate_left 1
          · (intro w; go_simp) <;> (with_reducible rfl)
          refine wpAnyIn_take (i := 24) (v := ?_) rfl rfl (by kernel_rfl) (by kernel_rfl) (by kernel_rfl) (fun _ _ _ h => h) ⟨Or.inl ⟨by first | kernel_rfl | rfl, ?_⟩, fun _ => rfl⟩ ?_
          rotate_left 1
          · (intro w; go_simp) <;> (with_reducible rfl)
          refine wpAnyIn_take (i := 26) (v := ?_) rfl rfl (by kernel_rfl) (by kernel_rfl) (by kernel_rfl) (fun _ _ _ h => h) ⟨Or.inl ⟨by first | kernel_rfl | rfl, ?_⟩, fun _ => rfl⟩ ?_
          rotate_left 1
          · (intro w; go_simp) <;> (with_reducible rfl)
          refine wpAnyIn_ready (rs := [25]) (by kernel_rfl) (by simp) ?_
          refine AllReadyIn.cons rfl (fun K hK => ?_) AllReadyIn.nil
          go_simp
          refine hK _ _ ?_
          clear hK K
          refine wpAnyIn_ready (rs := [27]) (by kernel_rfl) (by simp) ?_
          refine AllReadyIn.cons rfl (fun K hK => ?_) AllReadyIn.nil
          go_simp
          refine ⟨trivial, fun h => (by cases h), ?_⟩
          refine HI3.out.mono ?_
          rintro e W3 (⟨rfl, ys3, hl3, hj3⟩ | ⟨rfl, q, hx3⟩)
          all_goals refine hK _ _ ?_
          all_goals clear hK K
          · -- all has been gone through
            refine wpAnyIn_take (i := 28) (v := ?_) rfl rfl (by kernel_rfl) (by kernel_rfl) (by kernel_rfl) (fun _ _ _ h => h) ⟨Or.inl ⟨by first | kernel_rfl | rfl, ?_⟩, fun _ => rfl⟩ ?_
            rotate_left 1
            · (intro w; go_simp) <;> (with_reducible rfl)
            refine wpAnyIn_take (i := 29) (v := ?_) rfl rfl (by kernel_rfl) (by kernel_rfl) (by kernel_rfl) (fun _ _ _ h => h) ⟨Or.inl ⟨by first | kernel_rfl | rfl, ?_⟩, fun _ => rfl⟩ ?_
            rotate_left 1
            · (intro w; go_simp) <;> (with_reducible rfl)
            refine wpAnyIn_take (i := 30) (v := ?_) rfl rfl (by kernel_rfl) (by kernel_rfl) (by kernel_rfl) (fun _ _ _ h => h) ⟨Or.inl ⟨by first | kernel_rfl | rfl, ?_⟩, fun _ => rfl⟩ ?_
            rotate_left 1
            · (intro w; go_simp) <;> (with_reducible rfl)
            refine wpAnyIn_done (by kernel_rfl) ?_ _
            gi_wp2
            go_ret
            exact .inl ⟨rfl, ys1 ++ (k, u) :: ys3, by simp only [List.length_append, List.length_cons, Tr.many]; omega, by simpa [List.append_assoc] using hj3⟩
          · -- the right side was cut short
            refine wpAnyIn_take (i := 28) (v := ?_) rfl rfl (by kernel_rfl) (by kernel_rfl) (by kernel_rfl) (fun _ _ _ h => h) ⟨Or.inl ⟨by first | kernel_rfl | rfl, ?_⟩, fun _ => rfl⟩ ?_
            rotate_left 1
            · (intro w; go_simp) <;> (with_reducible rfl)
            refine wpAnyIn_take (i := 29) (v := ?_) rfl rfl (by kernel_rfl) (by kernel_rfl) (by kernel_rfl) (fun _ _ _ h => h) ⟨Or.inl ⟨by first | kernel_rfl | rfl, ?_⟩, fun _ => rfl⟩ ?_
            rotate_left 1
            · (intro w; go_simp) <;> (with_reducible rfl)
            refine wpAnyIn_take (i := 30) (v := ?_) rfl rfl (by kernel_rfl) (by kernel_rfl) (by kernel_rfl) (fun _ _ _ h => h) ⟨Or.inl ⟨by first | kernel_rfl | rfl, ?_⟩, fun _ => rfl⟩ ?_
            rotate_left 1
            · (intro w; go_simp) <;> (with_reducible rfl)
            refine wpAnyIn_done (by kernel_rfl) ?_ _
            gi_wp2
            go_ret
            exact .inr ⟨rfl, ys1 ++ (k, u) :: q, by simpa [List.append_assoc] using hx3⟩
        · -- the round has said that is all
          clear c0 c1 hy
          refine wpAnyIn_take (i := 20) (v := ?_) rfl rfl (by kernel_rfl) (by kernel_rfl) (by kernel_rfl) (fun _ _ _ h => h) ⟨Or.inl ⟨by first | kernel_rfl | rfl, ?_⟩, fun _ => rfl⟩ ?_
          rotate_left 1
          · (intro w; go_simp) <;> (with_reducible rfl)
          refine wpAnyIn_take (i := 21) (v := ?_) rfl rfl (by kernel_rfl) (by kernel_rfl) (by kernel_rfl) (fun _ _ _ h => h) ⟨Or.inl ⟨by first | kernel_rfl | rfl, ?_⟩, fun _ => rfl⟩ ?_
          rotate_left 1
          · (intro w; go_simp) <;> (with_reducible rfl)
          refine wpAnyIn_take (i := 22) (v := undef) rfl rfl (by kernel_rfl) (by kernel_rfl) (by kernel_rfl) (fun _ _ _ h => h) ⟨Or.inr ⟨by first | kernel_rfl | rfl, rfl⟩, fun _ => rfl⟩ ?_
          refine wpAnyIn_take (i := 23) (v := undef) rfl rfl (by kernel_rfl) (by kernel_rfl) (by kernel_rfl) (fun _ _ _ h => h) ⟨Or.inr ⟨by first | kernel_rfl | rfl, rfl⟩, fun _ => rfl⟩ ?_
          refine wpAnyIn_take (i := 24) (v := undef) rfl rfl (by kernel_rfl) (by kernel_rfl) (by kernel_rfl) (fun _ _ _ h => h) ⟨Or.inr ⟨by first | kernel_rfl | rfl, rfl⟩, fun _ => rfl⟩ ?_
          refine wpAnyIn_take (i := 26) (v := undef) rfl rfl (by kernel_rfl) (by kernel_rfl) (by kernel_rfl) (fun _ _ _ h => h) ⟨Or.inr ⟨by first | kernel_rfl | rfl, rfl⟩, fun _ => rfl⟩ ?_
          refine wpAnyIn_take (i := 25) (v := undef) rfl rfl (by kernel_rfl) (by kernel_rfl) (by kernel_rfl) (fun _ _ _ h => h) ⟨Or.inr ⟨by first | kernel_rfl | rfl, rfl⟩, fun _ => rfl⟩ ?_
          refine wpAnyIn_ready (rs := [27]) (by kernel_rfl) (by simp) ?_
          refine AllReadyIn.cons rfl (fun K hK => ?_) AllReadyIn.nil
          go_simp
          refine ⟨trivial, ?_⟩
          refine hK _ _ ?_
          clear hK K
          refine wpAnyIn_take (i := 28) (v := ?_) rfl rfl (by kernel_rfl) (by kernel_rfl) (by kernel_rfl) (fun _ _ _ h => h) ⟨Or.inl ⟨by first | kernel_rfl | rfl, ?_⟩, fun _ => rfl⟩ ?_
          rotate_left 1
          · (intro w; go_simp) <;> (with_reducible rfl)
          refine wpAnyIn_take (i := 29) (v := ?_) rfl rfl (by kernel_rfl) (by kernel_rfl) (by kernel_rfl) (fun _ _ _ h => h) ⟨Or.inl ⟨by first | kernel_rfl | rfl, ?_⟩, fun _ => rfl⟩ ?_
          rotate_left 1
          · (intro w; go_simp) <;> (with_reducible rfl)
          refine wpAnyIn_take (i := 30) (v := ?_) rfl rfl (by kernel_rfl) (by kernel_rfl) (by kernel_rfl) (fun _ _ _ h => h) ⟨Or.inl ⟨by first | kernel_rfl | rfl, ?_⟩, fun _ => rfl⟩ ?_
          rotate_left 1
          · (intro w; go_simp) <;> (with_reducible rfl)
          refine wpAnyIn_done (by kernel_rfl) ?_ _
          gi_wp2
          go_ret
          exact .inr ⟨rfl, ys1 ++ [(k, u)], by simpa [List.append_assoc] using hx2⟩
      · go_simp
        refine hK _ _ ?_
        clear hK K
        refine wpAnyIn_ready (rs := [14]) (by kernel_rfl) (by simp) ?_
        refine AllReadyIn.cons rfl (fun K hK => ?_) AllReadyIn.nil
        go_simp
        refine hK _ _ ?_
        clear hK K
        refine wpAnyIn_ready (rs := [19]) (by kernel_rfl) (by simp) ?_
        refine AllReadyIn.cons rfl (fun K hK => ?_) AllReadyIn.nil
        go_simp
        refine ⟨fun h => (by cases h), ?_⟩
        refine HR.out.mono ?_
        rintro e W2 (⟨rfl, hj2⟩ | ⟨rfl, hx2⟩)
        all_goals refine hK _ _ ?_
        all_goals clear hK K
        · -- the round goes on
          have d3 := (HS.out W2 (HL.out _ _ hj2)).2.2.1
          have HI3 := hid (IR.out (A ++ tl.nodes ++ [(b, k)]) B (n - 1) (pre ++ ys1 ++ [(k, u)]) W2 (by rw [HN.out]; simp [nodes]) (by simp only [List.length_append, List.length_singleton]; rw [hl1, HA.out, nodes_len]) (fun W h => (HS.out W h).2.2.2.2.2) hj2)
          clear hj2 c0 c1 hy
          refine wpAnyIn_take (i := 20) (v := ?_) rfl rfl (by kernel_rfl) (by kernel_rfl) (by kernel_rfl) (fun _ _ _ h => h) ⟨Or.inl ⟨by first | kernel_rfl | rfl, ?_⟩, fun _ => rfl⟩ ?_
          rotate_left 1
          · (intro w; go_simp) <;> (with_reducible rfl)
          refine wpAnyIn_take (i := 21) (v := ?_) rfl rfl (by kernel_rfl) (by kernel_rfl) (by kernel_rfl) (fun _ _ _ h => h) ⟨Or.inl ⟨by first | kernel_rfl | rfl, ?_⟩, fun _ => rfl⟩ ?_
          rotate_left 1
          · (intro w; go_simp) <;> (with_reducible rfl)
          refine wpAnyIn_take (i := 22) (v := ?_) rfl rfl (by kernel_rfl) (by kernel_rfl) (by kernel_rfl) (fun _ _ _ h => h) ⟨Or.inl ⟨by first | kernel_rfl | rfl, ?_⟩, fun _ => rfl⟩ ?_
          rotate_left 1
          · (intro w; go_simp) <;> (with_reducible rfl)
          refine wpAnyIn_take (i := 23) (v := ?_) rfl rfl (by kernel_rfl) (by kernel_rfl) (by kernel_rfl) (fun _ _ _ h => h) ⟨Or.inl ⟨by first | kernel_rfl | rfl, ?_⟩, fun _ => rfl⟩ ?_
          rotate_left 1
          · (intro w; go_simp) <;> (with_reducible rfl)
          refine wpAnyIn_take (i := 24) (v := ?_) rfl rfl (by kernel_rfl) (by kernel_rfl) (by kernel_rfl) (fun _ _ _ h => h) ⟨Or.inl ⟨by first | kernel_rfl | rfl, ?_⟩, fun _ => rfl⟩ ?_
          rotate_left 1
          · (intro w; go_simp) <;> (with_reducible rfl)
          refine wpAnyIn_take (i := 26) (v := ?_) rfl rfl (by kernel_rfl) (by kernel_rfl) (by kernel_rfl) (fun _ _ _ h => h) ⟨Or.inl ⟨by first | kernel_rfl | rfl, ?_⟩, fun _ => rfl⟩ ?_
          rotate_left 1
          · (intro w; go_simp) <;> (with_reducible rfl)
          refine wpAnyIn_ready (rs := [25]) (by kernel_rfl) (by simp) ?_
          refine AllReadyIn.cons rfl (fun K hK => ?_) AllReadyIn.nil
          go_simp
          refine hK _ _ ?_
          clear hK K
          refine wpAnyIn_ready (rs := [27]) (by kernel_rfl) (by simp) ?_
          refine AllReadyIn.cons rfl (fun K hK => ?_) AllReadyIn.nil
          go_simp
          refine ⟨trivial, fun h => (by cases h), ?_⟩
          refine HI3.out.mono ?_
          rintro e W3 (⟨rfl, ys3, hl3, hj3⟩ | ⟨rfl, q, hx3⟩)
          all_goals refine hK _ _ ?_
          all_goals clear hK K
          · -- all has been gone through
            refine wpAnyIn_take (i := 28) (v := ?_) rfl rfl (by kernel_rfl) (by kernel_rfl) (by kernel_rfl) (fun _ _ _ h => h) ⟨Or.inl ⟨by first | kernel_rfl | rfl, ?_⟩, fun _ => rfl⟩ ?_
            rotate_left 1
            · (intro w; go_simp) <;> (with_reducible rfl)
            refine wpAnyIn_take (i := 29) (v := ?_) rfl rfl (by kernel_rfl) (by kernel_rfl) (by kernel_rfl) (fun _ _ _ h => h) ⟨Or.inl ⟨by first | kernel_rfl | rfl, ?_⟩, fun _ => rfl⟩ ?_
            rotate_left 1
            · (intro w; go_simp) <;> (with_reducible rfl)
            refine wpAnyIn_take (i := 30) (v := ?_) rfl rfl (by kernel_rfl) (by kernel_rfl) (by kernel_rfl) (fun _ _ _ h => h) ⟨Or.inl ⟨by first | kernel_rfl | rfl, ?_⟩, fun _ => rfl⟩ ?_
            rotate_left 1
            · (intro w; go_simp) <;> (with_reducible rfl)
            refine wpAnyIn_done (by kernel_rfl) ?_ _
            gi_wp2
            go_ret
            exact .inl ⟨rfl, ys1 ++ (k, u) :: ys3, by simp only [List.length_append, List.length_cons, Tr.many]; omega, by simpa [List.append_assoc] using hj3⟩
          · -- the right side was cut short
            refine wpAnyIn_take (i := 28) (v := ?_) rfl rfl (by kernel_rfl) (by kernel_rfl) (by kernel_rfl) (fun _ _ _ h => h) ⟨Or.inl ⟨by first | kernel_rfl | rfl, ?_⟩, fun _ => rfl⟩ ?_
            rotate_left 1
            · (intro w; go_simp) <;> (with_reducible rfl)
            refine wpAnyIn_take (i := 29) (v := ?_) rfl rfl (by kernel_rfl) (by kernel_rfl) (by kernel_rfl) (fun _ _ _ h => h) ⟨Or.inl ⟨by first | kernel_rfl | rfl, ?_⟩, fun _ => rfl⟩ ?_
            rotate_left 1
            · (intro w; go_simp) <;> (with_reducible rfl)
            refine wpAnyIn_take (i := 30) (v := ?_) rfl rfl (by kernel_rfl) (by kernel_rfl) (by kernel_rfl) (fun _ _ _ h => h) ⟨Or.inl ⟨by first | kernel_rfl | rfl, ?_⟩, fun _ => rfl⟩ ?_
            rotate_left 1
            · (intro w; go_simp) <;> (with_reducible rfl)
            refine wpAnyIn_done (by kernel_rfl) ?_ _
            gi_wp2
            go_ret
            exact .inr ⟨rfl, ys1 ++ (k, u) :: q, by simpa [List.append_assoc] using hx3⟩
        · -- the round has said that is all
          clear c0 c1 hy
          refine wpAnyIn_take (i := 20) (v := ?_) rfl rfl (by kernel_rfl) (by kernel_rfl) (by kernel_rfl) (fun _ _ _ h => h) ⟨Or.inl ⟨by first | kernel_rfl | rfl, ?_⟩, fun _ => rfl⟩ ?_
          rotate_left 1
          · (intro w; go_simp) <;> (with_reducible rfl)
          refine wpAnyIn_take (i := 21) (v := ?_) rfl rfl (by kernel_rfl) (by kernel_rfl) (by kernel_rfl) (fun _ _ _ h => h) ⟨Or.inl ⟨by first | kernel_rfl | rfl, ?_⟩, fun _ => rfl⟩ ?_
          rotate_left 1
          · (intro w; go_simp) <;> (with_reducible rfl)
          refine wpAnyIn_take (i := 22) (v := undef) rfl rfl (by kernel_rfl) (by kernel_rfl) (by kernel_rfl) (fun _ _ _ h => h) ⟨Or.inr ⟨by first | kernel_rfl | rfl, rfl⟩, fun _ => rfl⟩ ?_
          refine wpAnyIn_take (i := 23) (v := undef) rfl rfl (by kernel_rfl) (by kernel_rfl) (by kernel_rfl) (fun _ _ _ h => h) ⟨Or.inr ⟨by first | kernel_rfl | rfl, rfl⟩, fun _ => rfl⟩ ?_
          refine wpAnyIn_take (i := 24) (v := undef) rfl rfl (by kernel_rfl) (by kernel_rfl) (by kernel_rfl) (fun _ _ _ h => h) ⟨Or.inr ⟨by first | kernel_rfl | rfl, rfl⟩, fun _ => rfl⟩ ?_
          refine wpAnyIn_take (i := 26) (v := undef) rfl rfl (by kernel_rfl) (by kernel_rfl) (by kernel_rfl) (fun _ _ _ h => h) ⟨Or.inr ⟨by first | kernel_rfl | rfl, rfl⟩, fun _ => rfl⟩ ?_
          refine wpAnyIn_take (i := 25) (v := undef) rfl rfl (by kernel_rfl) (by kernel_rfl) (by kernel_rfl) (fun _ _ _ h => h) ⟨Or.inr ⟨by first | kernel_rfl | rfl, rfl⟩, fun _ => rfl⟩ ?_
          refine wpAnyIn_ready (rs := [27]) (by kernel_rfl) (by simp) ?_
          refine AllReadyIn.cons rfl (fun K hK => ?_) AllReadyIn.nil
          go_simp
          refine ⟨trivial, ?_⟩
          refine hK _ _ ?_
          clear hK K
          refine wpAnyIn_take (i := 28) (v := ?_) rfl rfl (by kernel_rfl) (by kernel_rfl) (by kernel_rfl) (fun _ _ _ h => h) ⟨Or.inl ⟨by first | kernel_rfl | rfl, ?_⟩, fun _ => rfl⟩ ?_
          rotate_left 1
          · (intro w; go_simp) <;> (with_reducible rfl)
          refine wpAnyIn_take (i := 29) (v := ?_) rfl rfl (by kernel_rfl) (by kernel_rfl) (by kernel_rfl) (fun _ _ _ h => h) ⟨Or.inl ⟨by first | kernel_rfl | rfl, ?_⟩, fun _ => rfl⟩ ?_
          rotate_left 1
          · (intro w; go_simp) <;> (with_reducible rfl)
          refine wpAnyIn_take (i := 30) (v := ?_) rfl rfl (by kernel_rfl) (by kernel_rfl) (by kernel_rfl) (fun _ _ _ h => h) ⟨Or.inl ⟨by first | kernel_rfl | rfl, ?_⟩, fun _ => rfl⟩ ?_
          rotate_left 1
          · (intro w; go_simp) <;> (with_reducible rfl)
          refine wpAnyIn_done (by kernel_rfl) ?_ _
          gi_wp2
          go_ret
          exact .inr ⟨rfl, ys1 ++ [(k, u)], by simpa [List.append_assoc] using hx2⟩
    · -- the left side was cut short
      refine wpAnyIn_take (i := 9) (v := ?_) rfl rfl (by kernel_rfl) (by kernel_rfl) (by kernel_rfl) (fun _ _ _ h => h) ⟨Or.inl ⟨by first | kernel_rfl | rfl, ?_⟩, fun _ => rfl⟩ ?_
      rotate_left 1
      · (intro w; go_simp) <;> (with_reducible rfl)
      refine wpAnyIn_take (i := 10) (v := undef) rfl rfl (by kernel_rfl) (by kernel_rfl) (by kernel_rfl) (fun _ _ _ h => h) ⟨Or.inr ⟨by first | kernel_rfl | rfl, rfl⟩, fun _ => rfl⟩ ?_
      refine wpAnyIn_take (i := 11) (v := undef) rfl rfl (by kernel_rfl) (by kernel_rfl) (by kernel_rfl) (fun _ _ _ h => h) ⟨Or.inr ⟨by first | kernel_rfl | rfl, rfl⟩, fun _ => rfl⟩ ?_
      refine wpAnyIn_take (i := 12) (v := undef) rfl rfl (by kernel_rfl) (by kernel_rfl) (by kernel_rfl) (fun _ _ _ h => h) ⟨Or.inr ⟨by first | kernel_rfl | rfl, rfl⟩, fun _ => rfl⟩ ?_
      refine wpAnyIn_take (i := 13) (v := undef) rfl rfl (by kernel_rfl) (by kernel_rfl) (by kernel_rfl) (fun _ _ _ h => h) ⟨Or.inr ⟨by first | kernel_rfl | rfl, rfl⟩, fun _ => rfl⟩ ?_
      refine wpAnyIn_take (i := 14) (v := undef) rfl rfl (by kernel_rfl) (by kernel_rfl) (by kernel_rfl) (fun _ _ _ h => h) ⟨Or.inr ⟨by first | kernel_rfl | rfl, rfl⟩, fun _ => rfl⟩ ?_
      refine wpAnyIn_take (i := 15) (v := undef) rfl rfl (by kernel_rfl) (by kernel_rfl) (by kernel_rfl) (fun _ _ _ h => h) ⟨Or.inr ⟨by first | kernel_rfl | rfl, rfl⟩, fun _ => rfl⟩ ?_
      refine wpAnyIn_take (i := 16) (v := undef) rfl rfl (by kernel_rfl) (by kernel_rfl) (by kernel_rfl) (fun _ _ _ h => h) ⟨Or.inr ⟨by first | kernel_rfl | rfl, rfl⟩, fun _ => rfl⟩ ?_
      refine wpAnyIn_take (i := 17) (v := undef) rfl rfl (by kernel_rfl) (by kernel_rfl) (by kernel_rfl) (fun _ _ _ h => h) ⟨Or.inr ⟨by first | kernel_rfl | rfl, rfl⟩, fun _ => rfl⟩ ?_
      refine wpAnyIn_take (i := 18) (v := undef) rfl rfl (by kernel_rfl) (by kernel_rfl) (by kernel_rfl) (fun _ _ _ h => h) ⟨Or.inr ⟨by first | kernel_rfl | rfl, rfl⟩, fun _ => rfl⟩ ?_
      refine wpAnyIn_ready (rs := [19]) (by kernel_rfl) (by simp) ?_
      refine AllReadyIn.cons rfl (fun K hK => ?_) AllReadyIn.nil
      go_simp
      refine ⟨fun _ h => (by cases h), ?_⟩
      refine hK _ _ ?_
      clear hK K
      refine wpAnyIn_take (i := 20) (v := ?_) rfl rfl (by kernel_rfl) (by kernel_rfl) (by kernel_rfl) (fun _ _ _ h => h) ⟨Or.inl ⟨by first | kernel_rfl | rfl, ?_⟩, fun _ => rfl⟩ ?_
      rotate_left 1
      · (intro w; go_simp) <;> (with_reducible rfl)
      refine wpAnyIn_take (i := 21) (v := ?_) rfl rfl (by kernel_rfl) (by kernel_rfl) (by kernel_rfl) (fun _ _ _ h => h) ⟨Or.inl ⟨by first | kernel_rfl | rfl, ?_⟩, fun _ => rfl⟩ ?_
      rotate_left 1
      · (intro w; go_simp) <;> (with_reducible rfl)
      refine wpAnyIn_take (i := 22) (v := undef) rfl rfl (by kernel_rfl) (by kernel_rfl) (by kernel_rfl) (fun _ _ _ h => h) ⟨Or.inr ⟨by first | kernel_rfl | rfl, rfl⟩, fun _ => rfl⟩ ?_
      refine wpAnyIn_take (i := 23) (v := undef) rfl rfl (by kernel_rfl) (by kernel_rfl) (by kernel_rfl) (fun _ _ _ h => h) ⟨Or.inr ⟨by first | kernel_rfl | rfl, rfl⟩, fun _ => rfl⟩ ?_
      refine wpAnyIn_take (i := 24) (v := undef) rfl rfl (by kernel_rfl) (by kernel_rfl) (by kernel_rfl) (fun _ _ _ h => h) ⟨Or.inr ⟨by first | kernel_rfl | rfl, rfl⟩, fun _ => rfl⟩ ?_
      refine wpAnyIn_take (i := 26) (v := undef) rfl rfl (by kernel_rfl) (by kernel_rfl) (by kernel_rfl) (fun _ _ _ h => h) ⟨Or.inr ⟨by first | kernel_rfl | rfl, rfl⟩, fun _ => rfl⟩ ?_
      refine wpAnyIn_take (i := 25) (v := undef) rfl rfl (by kernel_rfl) (by kernel_rfl) (by kernel_rfl) (fun _ _ _ h => h) ⟨Or.inr ⟨by first | kernel_rfl | rfl, rfl⟩, fun _ => rfl⟩ ?_
      refine wpAnyIn_ready (rs := [27]) (by kernel_rfl) (by simp) ?_
      refine AllReadyIn.cons rfl (fun K hK => ?_) AllReadyIn.nil
      go_simp
      refine ⟨trivial, ?_⟩
      refine hK _ _ ?_
      clear hK K
      refine wpAnyIn_take (i := 28) (v := ?_) rfl rfl (by kernel_rfl) (by kernel_rfl) (by kernel_rfl) (fun _ _ _ h => h) ⟨Or.inl ⟨by first | kernel_rfl | rfl, ?_⟩, fun _ => rfl⟩ ?_
      rotate_left 1
      · (intro w; go_simp) <;> (with_reducible rfl)
      refine wpAnyIn_take (i := 29) (v := ?_) rfl rfl (by kernel_rfl) (by kernel_rfl) (by kernel_rfl) (fun _ _ _ h => h) ⟨Or.inl ⟨by first | kernel_rfl | rfl, ?_⟩, fun _ => rfl⟩ ?_
      rotate_left 1
      · (intro w; go_simp) <;> (with_reducible rfl)
      refine wpAnyIn_take (i := 30) (v := ?_) rfl rfl (by kernel_rfl) (by kernel_rfl) (by kernel_rfl) (fun _ _ _ h => h) ⟨Or.inl ⟨by first | kernel_rfl | rfl, ?_⟩, fun _ => rfl⟩ ?_
      rotate_left 1
      · (intro w; go_simp) <;> (with_reducible rfl)
      refine wpAnyIn_done (by kernel_rfl) ?_ _
      gi_wp2
      go_ret
      exact .inr ⟨rfl, q, hx1⟩
end TI
end Go.Proofs.Ytfjeagffdijcoaa
