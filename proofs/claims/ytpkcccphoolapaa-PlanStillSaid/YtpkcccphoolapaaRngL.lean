/- Layer 6: what is wrong with a list of segments; a list joined; in plain Lean. -/
import Derived.Test.YtpkcccphoolapaaRng
import Derived.IntWalk
namespace Go.Proofs.Ytpkcccphoolapaa

def okSeg (s : Seg) : Prop := 0 ≤ s.lo ∧ s.lo ≤ maxK ∧ 0 ≤ s.hi ∧ s.hi ≤ maxK ∧ 0 ≤ s.host ∧ s.host ≤ 255

namespace Rng
def fault : Int → Bool → Nat → List Seg → Nat × Int
  | _, full, i, [] => if full = true then (0, 0) else (i, 62)
  | next, full, i, s :: r =>
    if full = true ∨ s.lo ≠ next then (i, 62) else if s.hi < s.lo then (i, 60) else if 16 ≤ s.host then (i, 2)
    else fault (IntKind.u64.wrap (s.hi + 1)) (decide (s.hi = maxK)) (i + 1) r

def faultL (l : List Seg) : Nat × Int := fault 0 false 0 l
def joinL (l : List Seg) : List Seg := l.foldl push []

theorem fault_ok {next : Int} {full : Bool} {i : Nat} {l : List Seg} (hok : ∀ s ∈ l, okSeg s) (hn : full = false → 0 ≤ next ∧ next ≤ maxK) (h : (fault next full i l).2 = 0) :
    fault next full i l = (0, 0) ∧ (full = true → l = []) ∧ (full = false → tile next l (maxK + 1) ∧ ∀ s ∈ l, 0 ≤ s.host ∧ s.host < 16) := by
  induction l generalizing next full i with
  | nil =>
    unfold fault at h ⊢
    by_cases hf : full = true
    · simp [hf]
    · rw [if_neg hf] at h; simp at h
  | cons s r ih =>
    unfold fault at h ⊢
    by_cases h1 : full = true ∨ s.lo ≠ next
    · rw [if_pos h1] at h; simp at h
    rw [if_neg h1] at h ⊢
    by_cases h2 : s.hi < s.lo
    · rw [if_pos h2] at h; simp at h
    rw [if_neg h2] at h ⊢
    by_cases h3 : 16 ≤ s.host
    · rw [if_pos h3] at h; simp at h
    rw [if_neg h3] at h ⊢
    have hs := hok s (List.mem_cons_self ..)
    unfold okSeg at hs
    have hlo : s.lo = next := Classical.byContradiction fun e => h1 (.inr e)
    obtain ⟨i1, i2, i3⟩ := ih (fun t ht => hok t (List.mem_cons_of_mem _ ht)) (fun hf => by
      have hne : s.hi ≠ maxK := of_decide_eq_false hf
      have e : IntKind.u64.wrap (s.hi + 1) = s.hi + 1 := by
        unfold IntKind.wrap; rw [maxK_eq] at *
        simp only [IntKind.signed, IntKind.bits]
        first | omega | (simp; omega)
      rw [e]; omega) h
    refine ⟨i1, fun hf => absurd (.inl hf) h1, fun _ => ?_⟩
    by_cases hm : s.hi = maxK
    · have : r = [] := i2 (by simpa using hm)
      subst this
      refine ⟨⟨hlo, by omega, by rw [hm]; rfl⟩, fun t ht => ?_⟩
      simp at ht; subst ht; omega
    · have e : IntKind.u64.wrap (s.hi + 1) = s.hi + 1 := by
        unfold IntKind.wrap; rw [maxK_eq] at *
        simp only [IntKind.signed, IntKind.bits]
        first | omega | (simp; omega)
      obtain ⟨g1, g2⟩ := i3 (by simpa using hm)
      rw [e] at g1
      refine ⟨⟨hlo, by omega, g1⟩, fun t ht => ?_⟩
      rcases List.mem_cons.1 ht with rfl | ht
      · omega
      · exact g2 t ht

/-- A list without fault, joined, is a table; whose each key is stays. -/
theorem joinL_wf {l : List Seg} (hok : ∀ s ∈ l, okSeg s) (h : (faultL l).2 = 0) : WF (joinL l) ∧ (∀ key x, Has (joinL l) key x ↔ Has l key x) ∧ tile 0 l (maxK + 1) ∧ (∀ s ∈ l, 0 ≤ s.host ∧ s.host < 16) := by
  obtain ⟨_, _, h3⟩ := fault_ok hok (fun _ => by rw [maxK_eq]; omega) h
  obtain ⟨t, hh⟩ := h3 rfl
  obtain ⟨p1, p2, p3, _, _⟩ := pushes (o := []) (b := 0) rfl trivial t
  refine ⟨⟨p1, p2, fun s hs => ?_⟩, fun key x => (by have := p3 key x; rw [List.nil_append] at this; exact this), t, hh⟩
  have hm := tile_mem p1 s hs
  obtain ⟨u, hu, _, _, e⟩ := (p3 s.lo s.host).1 ⟨s, hs, by omega, by omega, rfl⟩
  rw [← e]
  exact hh u (by simpa using hu)

theorem joinL_len (l : List Seg) : (joinL l).length ≤ l.length := by
  have : ∀ (l o : List Seg), (l.foldl push o).length ≤ o.length + l.length := by
    intro l
    induction l with
    | nil => intro o; simp
    | cons s r ih => intro o; have h1 := ih (push o s); have h2 := (push_length o s).1; simp only [List.foldl_cons, List.length_cons]; omega
  have h := this l []
  rw [List.length_nil, Nat.zero_add] at h
  exact h

theorem joinL_self {l : List Seg} (h : coal l) : joinL l = l := by
  have h1 := foldl_push_coal (o := []) (r := l) (by rw [List.nil_append]; exact h)
  rw [List.nil_append] at h1
  exact h1

/-- A table has no fault. -/
theorem wf_fault {l : List Seg} (h : WF l) : faultL l = (0, 0) := by
  have key : ∀ (l : List Seg) (next : Int) (i : Nat), 0 ≤ next → next ≤ maxK → tile next l (maxK + 1) → (∀ s ∈ l, 0 ≤ s.host ∧ s.host < 16) → fault next false i l = (0, 0) := by
    intro l
    induction l with
    | nil => intro next i h0 h1 ht _; have ht : next = maxK + 1 := ht; omega
    | cons s r ih =>
      intro next i h0 h1 ht hh
      obtain ⟨t1, t2, t3⟩ := ht
      have hb := tile_le t3
      have hs := hh s (List.mem_cons_self ..)
      unfold fault
      rw [if_neg (by simp [t1]), if_neg (by omega), if_neg (by omega)]
      by_cases hm : s.hi = maxK
      · cases r with
        | nil => unfold fault; simp [hm]
        | cons u r => obtain ⟨u1, u2, u3⟩ := t3; have := tile_le u3; omega
      · have e : IntKind.u64.wrap (s.hi + 1) = s.hi + 1 := by
          unfold IntKind.wrap; rw [maxK_eq] at *
          simp only [IntKind.signed, IntKind.bits]
          first | omega | (simp; omega)
        rw [e, show decide (s.hi = maxK) = false by simpa using hm]
        exact ih (s.hi + 1) (i + 1) (by omega) (by omega) t3 (fun t ht => hh t (List.mem_cons_of_mem _ ht))
  exact key l 0 0 (by omega) (by rw [maxK_eq]; omega) h.tiles h.hosts

/-- What Load makes: the error, the segments. -/
def loadL (l : List Seg) (limit : Int) : Int × List Seg :=
  if ¬ (1 ≤ limit ∧ limit ≤ 8192) then (63, []) else if (faultL l).2 ≠ 0 then ((faultL l).2, []) else if limit < (joinL l).length then (61, []) else (0, joinL l)
end Rng
end Go.Proofs.Ytpkcccphoolapaa
