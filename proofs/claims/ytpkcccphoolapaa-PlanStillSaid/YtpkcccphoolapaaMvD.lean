/- Layer 15: Moves: the givers and the takers as lists, and as heaps. -/
import Derived.Test.YtpkcccphoolapaaMvQ
import Derived.Test.YtpkcccphoolapaaHp
namespace Go.Proofs.Ytpkcccphoolapaa
open Go.RowKit

theorem filterMap_same {α β : Type} {l : List α} {f g : α → Option β} (h : ∀ x ∈ l, f x = g x) : l.filterMap f = l.filterMap g := by
  induction l with
  | nil => rfl
  | cons a l ih =>
    rw [List.filterMap_cons, List.filterMap_cons, h a (List.mem_cons_self ..), ih fun x hx => h x (List.mem_cons_of_mem _ hx)]
/-- the hosts with more than nothing, and how much -/
def gvK (d : Nat → Int) (k : Nat) : List Sd := (List.range k).filterMap fun h => if 0 < d h then some ((h : Int), d h) else none
theorem gvK_succ (d : Nat → Int) (k : Nat) : gvK d (k + 1) = if 0 < d k then gvK d k ++ [((k : Int), d k)] else gvK d k := by
  unfold gvK
  rw [List.range_succ, List.filterMap_append]
  by_cases h : 0 < d k <;> simp [h]
theorem gvK_len (d : Nat → Int) (k : Nat) : (gvK d k).length ≤ k := by
  unfold gvK
  have := List.length_filterMap_le (fun h => if 0 < d h then some ((h : Int), d h) else none) (List.range k)
  rw [List.length_range] at this
  exact this
theorem mem_gvK {d : Nat → Int} {k : Nat} {x : Sd} : x ∈ gvK d k ↔ ∃ h, h < k ∧ 0 < d h ∧ x = ((h : Int), d h) := by
  unfold gvK
  rw [List.mem_filterMap]
  constructor
  · rintro ⟨h, hh, he⟩
    by_cases h0 : 0 < d h
    · rw [if_pos h0] at he
      exact ⟨h, List.mem_range.1 hh, h0, (Option.some.inj he).symm⟩
    · rw [if_neg h0] at he; cases he
  · rintro ⟨h, hh, h0, rfl⟩
    exact ⟨h, List.mem_range.2 hh, by rw [if_pos h0]⟩
theorem gv_top {d : Nat → Int} {n : Nat} {l : List Sd} {x : Sd} {rest : List Sd} (hp : l.Perm (gvK d n)) (hh : HeapFrom l 0 l.length) (hl : l = x :: rest) : ∃ g, best n d = some g ∧ x = ((g : Int), d g) := by
  have hx : x ∈ l := by rw [hl]; exact List.mem_cons_self ..
  obtain ⟨g, g1, g2, g3⟩ := mem_gvK.1 (hp.mem_iff.1 hx)
  refine ⟨g, best_unique g1 g2 fun k hk => ?_, g3⟩
  by_cases h0 : 0 < d k
  · have := heap_top hh (t := x) (by rw [hl]; rfl) _ (hp.mem_iff.2 (mem_gvK.2 ⟨k, hk, h0, rfl⟩))
    rw [gtB_not, g3] at this
    dsimp only at this
    omega
  · exact .inl (by omega)
theorem gv_none {d : Nat → Int} {n : Nat} {l : List Sd} (hp : l.Perm (gvK d n)) : l = [] ↔ best n d = none := by
  rw [best_none]
  constructor
  · rintro rfl h hh
    refine Classical.byContradiction fun hn => ?_
    have := hp.mem_iff.2 (mem_gvK.2 ⟨h, hh, by omega, rfl⟩)
    cases this
  · intro hn
    cases l with
    | nil => rfl
    | cons x r =>
      obtain ⟨h, h1, h2, _⟩ := mem_gvK.1 (hp.mem_iff.1 (List.mem_cons_self ..))
      have := hn h h1; omega
theorem gv_upd {e e' : Nat → Int} {n g : Nat} {v : Int} {rest : List Sd} (hg : g < n) (h0 : 0 < e g) (hv : e' g = v) (hv0 : 0 ≤ v) (ho : ∀ h, h < n → h ≠ g → (0 < e' h ↔ 0 < e h) ∧ (0 < e h → e' h = e h)) (hp : (((g : Int), e g) :: rest).Perm (gvK e n)) :
    (if v = 0 then rest else ((g : Int), v) :: rest).Perm (gvK e' n) := by
  obtain ⟨m, rfl⟩ : ∃ m, n = g + (1 + m) := ⟨n - g - 1, by omega⟩
  have hsp : ∀ d : Nat → Int, gvK d (g + (1 + m)) = gvK d g ++ ((if 0 < d g then [((g : Int), d g)] else []) ++ ((List.range m).map fun i => g + 1 + i).filterMap fun h => if 0 < d h then some ((h : Int), d h) else none) := by
    intro d
    unfold gvK
    rw [List.range_add, List.filterMap_append, List.range_add, List.map_append, List.filterMap_append]
    congr 1
    congr 1
    · by_cases h : 0 < d g <;> simp [h]
    · congr 1
      simp [Nat.add_assoc]
  rw [hsp e, if_pos h0] at hp
  rw [hsp e', hv]
  have c1 : gvK e' g = gvK e g := by
    unfold gvK
    apply filterMap_same
    intro h hh
    have hlt := List.mem_range.1 hh
    obtain ⟨a1, a2⟩ := ho h (by omega) (by omega)
    by_cases hc : 0 < e h
    · rw [if_pos hc, if_pos (a1.2 hc), a2 hc]
    · rw [if_neg hc, if_neg (fun x => hc (a1.1 x))]
  have c2 : (((List.range m).map fun i => g + 1 + i).filterMap fun h => if 0 < e' h then some ((h : Int), e' h) else none) = (((List.range m).map fun i => g + 1 + i).filterMap fun h => if 0 < e h then some ((h : Int), e h) else none) := by
    apply filterMap_same
    intro h hh
    obtain ⟨i, hi, rfl⟩ := List.mem_map.1 hh
    have hlt := List.mem_range.1 hi
    obtain ⟨a1, a2⟩ := ho (g + 1 + i) (by omega) (by omega)
    by_cases hc : 0 < e (g + 1 + i)
    · rw [if_pos hc, if_pos (a1.2 hc), a2 hc]
    · rw [if_neg hc, if_neg (fun x => hc (a1.1 x))]
  rw [c1, c2]
  have hr : rest.Perm (gvK e g ++ (((List.range m).map fun i => g + 1 + i).filterMap fun h => if 0 < e h then some ((h : Int), e h) else none)) := (hp.trans List.perm_middle).cons_inv
  by_cases hv1 : v = 0
  · rw [if_pos hv1, if_neg (by omega)]
    exact hr
  · rw [if_neg hv1, if_pos (by omega)]
    exact (hr.cons _).trans List.perm_middle.symm

/-! ### a side as it lies -/
structure SideAt (w : World) (B Hb : Nat) (A : Option Addr) (c : Nat) (l : List Sd) : Prop where
  box : w.heap[Hb]? = some (Obj.cells #[.slice A l.length c] 100 (0, 0))
  row : w.ownsRow B 102 2 (.slice A l.length c) l.length (l.flatMap sdE)
  ne : A.map Addr.block ≠ some Hb
  hB : B ≤ Hb
namespace SideAt
variable {w w' : World} {B Hb c : Nat} {A : Option Addr} {l : List Sd}
theorem c0 (h : SideAt w B Hb A c l) : w.cell? ⟨Hb, 0, none⟩ = some (.slice A l.length c) := by simp [World.cell?, h.box]
theorem fz0 (h : SideAt w B Hb A c l) : w.frozen? ⟨Hb, 0, none⟩ = false := by simp [World.frozen?, h.box]
theorem lt (h : SideAt w B Hb A c l) : Hb < w.heap.size := (Array.getElem?_eq_some_iff.1 h.box).1
theorem ownBlock_eq (A : Option Addr) (n c : Nat) : (Value.slice A n c).ownBlock = A.map Addr.block := by cases A <;> rfl
theorem blk (h : SideAt w B Hb A c l) {k : Nat} (hk : A.map Addr.block = some k) : B ≤ k ∧ k < w.heap.size := h.row.lt k (by rw [ownBlock_eq]; exact hk)
theorem heapAt (h : SideAt w B Hb A c l) {a : Addr} (ha : A = some a) : ∃ g, A = some ⟨g, 0, none⟩ ∧ HeapAt w B Hb g c l := by
  subst ha
  rcases h.row.2 with ⟨e, _⟩ | ⟨g, cap, cur, e, _⟩
  · cases e
  · injection e with e1 _ e3
    refine ⟨g, e1, ?_⟩
    have hb := h.box
    have hr := h.row
    have hn := h.ne
    rw [e1] at hb hr hn
    exact ⟨hb, hr, fun e => hn (by rw [e]; rfl), h.hB⟩
theorem of_heapAt {g : Nat} (h : HeapAt w B Hb g c l) : SideAt w B Hb (some ⟨g, 0, none⟩) c l := ⟨h.box, h.row, fun e => h.ne (Option.some.inj e).symm, h.hB⟩
theorem nilOf (h : SideAt w B Hb none c l) : l = [] ∧ c = 0 := by
  rcases h.row.2 with ⟨e, hn⟩ | ⟨g, cap, cur, e, _⟩
  · injection e with _ _ e3
    exact ⟨List.eq_nil_of_length_eq_zero hn, e3⟩
  · cases e
theorem keptB (h : SideAt w B Hb A c l) (h1 : w'.heap[Hb]? = w.heap[Hb]?) (h2 : ∀ g, A.map Addr.block = some g → w'.heap[g]? = w.heap[g]?) : SideAt w' B Hb A c l :=
  ⟨h1.trans h.box, ⟨h.row.1, h.row.2.imp id fun ⟨g, cap, cur, e1, e2, e3, e4⟩ => ⟨g, cap, cur, e1, e2, (h2 g (by injection e1 with e1; rw [e1]; rfl)).trans e3, e4⟩⟩, h.ne, h.hB⟩
theorem below (h : SideAt w B Hb A c l) {b : Nat} (hb : Below b w w') (hs : w.heap.size ≤ b) : SideAt w' B Hb A c l :=
  h.keptB (hb.block _ (by have := h.lt; omega)) (fun g hg => hb.block _ (by have := (h.blk hg).2; omega))
end SideAt

set_option maxHeartbeats 1000000 in
theorem initNil_any (w : World) (Hb : Nat) (h : w.cell? ⟨Hb, 0, none⟩ = some (.slice none 0 0)) :
    Calls Try.prog 55 #[.iface 104 (.pointer (some ⟨Hb, 0, none⟩))] w fun e w' => (∃ z, e = .returned z) ∧ w' = w := by
  have m0 := meth_len w _ _ h
  have hl := sdLen_any w none 0 0
  have hws : IntKind.i64.wrap ((0 : Int) - 1) = -1 := IntWalk.i64_in _ ⟨by omega, by omega⟩
  clear h
  go_enter Try.func55, Try.ntmps55
  go_wp2_with fail
  refine hl.mono ?_
  rintro e w1 ⟨rfl, hw⟩
  obtain rfl : w = w1 := hw.symm
  go_wp2_with fail
  refine wp_loop_rounds 1 ?_
  rw [rounds_succ]
  go_wp2_with fail
  refine bodyPost_end (results_none rfl _ _ _) rfl ?_
  exact ⟨⟨_, rfl⟩, rfl⟩

/-- heap.Init of a side -/
theorem initSide_any (w : World) (B Hb c : Nat) (A : Option Addr) (l : List Sd) (h : SideAt w B Hb A c l) (h16 : l.length ≤ 16) :
    Calls Try.prog 55 #[.iface 104 (.pointer (some ⟨Hb, 0, none⟩))] w fun e w' =>
      ∃ z l', e = .returned z ∧ SideAt w' B Hb A c l' ∧ l'.Perm l ∧ HeapFrom l' 0 l'.length ∧ w.grownBy w' (A.map Addr.block) := by
  cases A with
  | none =>
    obtain ⟨rfl, rfl⟩ := h.nilOf
    refine (initNil_any w Hb h.c0).mono ?_
    rintro e w' ⟨⟨z, rfl⟩, rfl⟩
    exact ⟨z, [], rfl, h, List.Perm.refl _, fun j x y h1 h2 => by simp at h2, World.grownBy_refl' _ _⟩
  | some a =>
    obtain ⟨g, hg, hh⟩ := h.heapAt rfl
    refine (init_any w B Hb g c l hh h16).mono ?_
    rintro e w' ⟨z, l', rfl, h1, h2, h3, h4⟩
    rw [hg]
    exact ⟨z, l', rfl, SideAt.of_heapAt h1, h2, h3, h4⟩

/-- used of a side -/
theorem usedSide_any (w : World) (B Hb c : Nat) (A : Option Addr) (l : List Sd) (h0 v k : Int) (rest : List Sd) (h : SideAt w B Hb A c l) (hl : l = (h0, v) :: rest) (h16 : l.length ≤ 16) (hh : HeapFrom l 0 l.length) (hk0 : 0 ≤ k) (hkv : k ≤ v) (hv : v ≤ 4611686018427387904) :
    Calls Try.prog 57 #[.pointer (some ⟨Hb, 0, none⟩), .int .i64 k] w fun e w' =>
      ∃ z l', e = .returned z ∧ SideAt w' B Hb A c l' ∧ l'.Perm (if v - k = 0 then rest else (h0, v - k) :: rest) ∧ HeapFrom l' 0 l'.length ∧ TwoBy ((A.map Addr.block).getD Hb) Hb w w' := by
  cases A with
  | none => obtain ⟨e, _⟩ := h.nilOf; rw [e] at hl; cases hl
  | some a =>
    obtain ⟨g, hg, ha⟩ := h.heapAt rfl
    refine (used_any w B Hb g c l h0 v k rest ha hl h16 hh hk0 hkv hv).mono ?_
    rintro e w' ⟨z, l', rfl, h1, h2, h3, h4⟩
    rw [hg]
    exact ⟨z, l', rfl, SideAt.of_heapAt h1, h2, h3, h4⟩
end Go.Proofs.Ytpkcccphoolapaa
