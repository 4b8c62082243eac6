/- Layer 6: RangeLead, in plain Lean. -/
import Derived.Test.YtefdbhmjbfpeoaaDiffL
namespace Go.Proofs.Ytefdbhmjbfpeoaa
namespace Rng

/-- a range that is all one host's lies in one segment -/
theorem owned_seg {t : List Seg} (h : WF t) {lo hi x : Int} (h0 : 0 ≤ lo) (h1 : lo ≤ hi) (h2 : hi ≤ maxK) (ho : ∀ key z, lo ≤ key → key ≤ hi → Has t key z → z = x) :
    ∃ s, t[at' t lo]? = some s ∧ s.host = x ∧ hi ≤ s.hi := by
  obtain ⟨s, s1, s2, s3, s4, _⟩ := at_split h.tiles h0 (show lo < maxK + 1 by omega)
  have hs : s ∈ t := List.mem_of_getElem? s1
  have e1 := ho lo s.host (Int.le_refl _) h1 ⟨s, hs, s2, s3, rfl⟩
  refine ⟨s, s1, e1, Classical.byContradiction fun hn => ?_⟩
  have ht := h.tiles
  have hc := h.coal
  rw [s4] at ht hc
  obtain ⟨b, _, t2⟩ := tile_append.1 ht
  have hc2 := coal_right hc
  cases hd : t.drop (at' t lo + 1) with
  | nil =>
    rw [hd] at t2
    have : s.hi + 1 = maxK + 1 := t2.2.2
    omega
  | cons u r =>
    rw [hd] at t2 hc2
    have hlo : u.lo = s.hi + 1 := t2.2.2.1
    have hle : u.lo ≤ u.hi := t2.2.2.2.1
    have hu : u ∈ t := List.mem_of_mem_drop (by rw [hd]; simp)
    have := ho u.lo u.host (by omega) (by omega) ⟨u, hu, Int.le_refl _, hle, rfl⟩
    exact hc2.1 (by rw [e1, this])

/-- t is b below p, a from p on -/
def Lead (a b t : List Seg) (p : Int) : Prop := (∀ key z, 0 ≤ key → key < p → Has t key z → Has b key z) ∧ (∀ key z, p ≤ key → key ≤ maxK → Has t key z → Has a key z)

theorem lead_len {a b t : List Seg} (ha : WF a) (hb : WF b) (ht : WF t) {p : Int} (h0 : 0 ≤ p) (h1 : p ≤ maxK + 1) (hl : Lead a b t p) : t.length ≤ a.length + b.length := by
  by_cases e0 : p = 0
  · subst e0
    have : t = a := ht.eq ha fun key k0 k1 x hx => hl.2 key x k0 k1 hx
    rw [this]; omega
  by_cases e1 : p = maxK + 1
  · subst e1
    have : t = b := ht.eq hb fun key k0 k1 x hx => hl.1 key x k0 (by omega) hx
    rw [this]; omega
  obtain ⟨s, s1, s2, s3, s4, _⟩ := at_split hb.tiles (show 0 ≤ p - 1 by omega) (show p - 1 < maxK + 1 by omega)
  obtain ⟨u, u1, u2, u3, u4, _⟩ := at_split ha.tiles h0 (show p < maxK + 1 by omega)
  have hsb := List.mem_of_getElem? s1
  have hua := List.mem_of_getElem? u1
  have lb : (b.take (at' b (p - 1))).length + 1 ≤ b.length := by have := (List.getElem?_eq_some_iff.1 s1).1; simp; omega
  have la : (a.drop (at' a p + 1)).length + 1 ≤ a.length := by have := (List.getElem?_eq_some_iff.1 u1).1; simp; omega
  have mb : ∀ v ∈ b.take (at' b (p - 1)), v ∈ b := fun v hv => List.mem_of_mem_take hv
  have ma : ∀ v ∈ a.drop (at' a p + 1), v ∈ a := fun v hv => List.mem_of_mem_drop hv
  have tb := hb.tiles
  have ta := ha.tiles
  rw [s4] at tb
  rw [u4] at ta
  generalize b.take (at' b (p - 1)) = b1 at *
  generalize a.drop (at' a p + 1) = a2 at *
  obtain ⟨m1, x1, x2⟩ := tile_append.1 tb
  obtain ⟨m2, _, y2⟩ := tile_append.1 ta
  have hm1 : s.lo = m1 := x2.1
  have tl : tile 0 ((b1 ++ [⟨s.lo, p - 1, s.host⟩]) ++ (⟨p, u.hi, u.host⟩ :: a2)) (maxK + 1) := by
    refine tile_append.2 ⟨p, tile_append.2 ⟨m1, x1, ⟨hm1, by simp only; omega, by show p - 1 + 1 = p; omega⟩⟩, ⟨rfl, by simp only; omega, y2.2.2⟩⟩
  obtain ⟨p1, p2, p3, p4, _⟩ := pushes (o := []) (b := 0) rfl trivial tl
  have hmem : ∀ v ∈ ((b1 ++ [⟨s.lo, p - 1, s.host⟩]) ++ (⟨p, u.hi, u.host⟩ :: a2) : List Seg), (v.hi < p ∧ ∃ v' ∈ b, v'.host = v.host ∧ v'.lo ≤ v.lo ∧ v.hi ≤ v'.hi) ∨ (p ≤ v.lo ∧ ∃ v' ∈ a, v'.host = v.host ∧ v'.lo ≤ v.lo ∧ v.hi ≤ v'.hi) := by
    intro v hv
    rcases List.mem_append.1 hv with hv | hv
    · rcases List.mem_append.1 hv with hv | hv
      · have := tile_mem x1 v hv
        exact .inl ⟨by omega, v, mb v hv, rfl, Int.le_refl _, Int.le_refl _⟩
      · rw [List.mem_singleton] at hv
        subst hv
        exact .inl ⟨by simp only; omega, s, hsb, rfl, Int.le_refl _, by simp only; omega⟩
    · rcases List.mem_cons.1 hv with rfl | hv
      · exact .inr ⟨Int.le_refl _, u, hua, rfl, by simp only; omega, Int.le_refl _⟩
      · have := tile_mem y2.2.2 v hv
        exact .inr ⟨by omega, v, ma v hv, rfl, Int.le_refl _, Int.le_refl _⟩
  have hlen : ((b1 ++ [⟨s.lo, p - 1, s.host⟩]) ++ (⟨p, u.hi, u.host⟩ :: a2) : List Seg).length ≤ a.length + b.length := by simp; omega
  generalize ((b1 ++ [⟨s.lo, p - 1, s.host⟩]) ++ (⟨p, u.hi, u.host⟩ :: a2) : List Seg) = L at *
  have hW : WF (L.foldl push []) := by
    refine ⟨p1, p2, fun v hv => ?_⟩
    have hv2 := tile_mem p1 v hv
    obtain ⟨w, hw, _, _, e3⟩ := (p3 v.lo v.host).1 ⟨v, hv, by omega, by omega, rfl⟩
    rw [← e3]
    rcases hmem w (by simpa using hw) with ⟨_, v', hv', e, _⟩ | ⟨_, v', hv', e, _⟩
    · rw [← e]; exact hb.hosts v' hv'
    · rw [← e]; exact ha.hosts v' hv'
  have : t = L.foldl push [] := by
    refine ht.eq hW fun key k0 k1 x hx => ?_
    obtain ⟨y, hy⟩ := tile_has p1 key k0 (by omega)
    obtain ⟨w, hw, w1, w2, w3⟩ := (p3 key y).1 hy
    have : y = x := by
      rcases hmem w (by simpa using hw) with ⟨g, v', hv', e, e1, e2⟩ | ⟨g, v', hv', e, e1, e2⟩
      · exact tile_unique hb.tiles ⟨v', hv', by omega, by omega, by rw [e, w3]⟩ (hl.1 key x k0 (by omega) hx)
      · exact tile_unique ha.tiles ⟨v', hv', by omega, by omega, by rw [e, w3]⟩ (hl.2 key x (by omega) k1 hx)
    exact this ▸ hy
  rw [this]
  simp at p4
  omega
theorem lead_gap {a b t : List Seg} (hb : WF b) {p q : Int} (h : Lead a b t p) (hpq : p ≤ q) (hq : q ≤ maxK + 1) (he : ∀ key x y, p ≤ key → key < q → Has a key x → Has b key y → x = y) : Lead a b t q := by
  refine ⟨fun key z k0 k1 hz => ?_, fun key z k0 k1 hz => h.2 key z (by omega) k1 hz⟩
  rcases Int.lt_or_le key p with hk | hk
  · exact h.1 key z k0 hk hz
  · have hza := h.2 key z hk (by omega) hz
    obtain ⟨y, hy⟩ := tile_has hb.tiles key k0 (by omega)
    exact (he key z y hk k1 hza hy) ▸ hy

theorem lead_play {a b t : List Seg} (ha : WF a) (hb : WF b) (ht : WF t) {c : Chg} (h0 : 0 ≤ c.lo) (h1 : c.lo ≤ c.hi) (h2 : c.hi ≤ maxK) (he : ∀ key, c.lo ≤ key → key ≤ c.hi → Has a key c.src ∧ Has b key c.dst) (hl : Lead a b t c.lo) :
    (0 ≤ c.dst ∧ c.dst < 16) ∧ WF (withL t c.lo c.hi c.dst) ∧ Lead a b (withL t c.lo c.hi c.dst) (c.hi + 1) ∧
      (∃ s, t[at' t c.lo]? = some s ∧ s.host = c.src ∧ c.hi ≤ s.hi) ∧ (∃ s, b[at' b c.lo]? = some s ∧ s.host = c.dst ∧ c.hi ≤ s.hi) := by
  have hd : 0 ≤ c.dst ∧ c.dst < 16 := by
    obtain ⟨s, hs, _, _, e⟩ := (he c.lo (Int.le_refl _) h1).2
    rw [← e]; exact hb.hosts s hs
  obtain ⟨w1, w2, _⟩ := withL_spec ht h0 h1 h2 hd.1 hd.2
  refine ⟨hd, w1, ⟨fun key z k0 k1 hz => ?_, fun key z k0 k1 hz => ?_⟩, owned_seg ht h0 h1 h2 (fun key z k0 k1 hz => ?_), owned_seg hb h0 h1 h2 (fun key z k0 k1 hz => ?_)⟩
  · rcases w2 key z hz with ⟨g1, g2, rfl⟩ | ⟨g1, g2⟩
    · exact (he key g1 g2).2
    · exact hl.1 key z k0 (by omega) g2
  · rcases w2 key z hz with ⟨g1, g2, rfl⟩ | ⟨g1, g2⟩
    · omega
    · exact hl.2 key z (by omega) k1 g2
  · exact tile_unique ha.tiles (hl.2 key z k0 (by omega) hz) (he key k0 k1).1
  · exact tile_unique hb.tiles hz (he key k0 k1).2

theorem chain_tail {c : Chg} {r : List Chg} (h : chain (c :: r)) : chain r := by
  cases r with
  | nil => trivial
  | cons d r => exact h.2

theorem chain_rise {l : List Chg} (h : chain l) (hl : ∀ c ∈ l, c.lo ≤ c.hi) : ∀ (i j : Nat) (c d : Chg), i < j → l[i]? = some c → l[j]? = some d → c.hi < d.lo := by
  induction l with
  | nil => intro i j c d _ h1; simp at h1
  | cons x r ih =>
    intro i j c d hij hc hd
    have hr := ih (chain_tail h) (fun c hc => hl c (List.mem_cons_of_mem _ hc))
    cases j with
    | zero => omega
    | succ j =>
      cases i with
      | succ i => simp at hc hd; exact hr i j c d (by omega) hc hd
      | zero =>
        simp at hc
        subst hc
        cases r with
        | nil => simp at hd
        | cons y r =>
          have hap : apart x y := h.1
          have hyl := hl y (by simp)
          cases j with
          | zero => simp at hd; subst hd; exact hap.1
          | succ j =>
            have := hr 0 (j + 1) y d (by omega) rfl (by simpa using hd)
            have := hap.1
            omega

/-- where the k-th change has its forerunners behind it -/
def cedge (l : List Chg) : Nat → Int
  | 0 => 0
  | k + 1 => match l[k]? with | some c => c.hi + 1 | none => maxK + 1

theorem cedge_some {l : List Chg} {k : Nat} {c : Chg} (h : l[k]? = some c) : cedge l (k + 1) = c.hi + 1 := by show (match l[k]? with | some c => c.hi + 1 | none => maxK + 1) = _; rw [h]
theorem cedge_none {l : List Chg} {k : Nat} (h : l[k]? = none) : cedge l (k + 1) = maxK + 1 := by show (match l[k]? with | some c => c.hi + 1 | none => maxK + 1) = _; rw [h]

theorem cedge_le {a b : List Seg} {l : List Chg} (h : DInv a b l (maxK + 1)) (k : Nat) : 0 ≤ cedge l k ∧ cedge l k ≤ maxK + 1 := by
  cases k with
  | zero => exact ⟨Int.le_refl _, by show (0 : Int) ≤ _; rw [maxK_eq]; omega⟩
  | succ k =>
    cases hk : l[k]? with
    | none => rw [cedge_none hk, maxK_eq]; omega
    | some c => have := h.each c (List.mem_of_getElem? hk); rw [cedge_some hk]; omega

theorem lead_at {a b t : List Seg} (hb : WF b) {l : List Chg} (h : DInv a b l (maxK + 1)) {k : Nat} {c : Chg} (hk : l[k]? = some c) (hl : Lead a b t (cedge l k)) : Lead a b t c.lo := by
  have hr := chain_rise h.row (fun c hc => (h.each c hc).2.1)
  have hc := h.each c (List.mem_of_getElem? hk)
  have hle : cedge l k ≤ c.lo := by
    cases k with
    | zero => exact hc.1
    | succ k =>
      cases hk' : l[k]? with
      | none => have h1 := (List.getElem?_eq_some_iff.1 hk).1; have h2 := List.getElem?_eq_none_iff.1 hk'; omega
      | some d => have := hr k (k + 1) d c (by omega) hk' hk; rw [cedge_some hk']; omega
  refine lead_gap hb hl hle (by omega) fun key x y k0 k1 hx hy => Classical.byContradiction fun hn => ?_
  have := cedge_le h k
  obtain ⟨d, hd, d1, d2⟩ := h.all key x y (by omega) (by omega) hx hy hn
  obtain ⟨j, hj⟩ := List.mem_iff_getElem?.1 hd
  rcases Nat.lt_trichotomy j k with hjk | rfl | hjk
  · cases k with
    | zero => omega
    | succ k =>
      cases hk' : l[k]? with
      | none => have h1 := (List.getElem?_eq_some_iff.1 hk).1; have h2 := List.getElem?_eq_none_iff.1 hk'; omega
      | some e =>
        rw [cedge_some hk'] at k0
        rcases Nat.lt_or_ge j k with g | g
        · have h1 := hr j k d e g hj hk'
          have h2 := (h.each e (List.mem_of_getElem? hk')).2.1
          omega
        · obtain rfl : j = k := by omega
          rw [hj] at hk'; injection hk' with hk'; subst hk'; omega
  · rw [hk] at hj; injection hj with hj; subst hj; omega
  · have := hr k j c d hjk hk hj; omega

theorem lead_done {a b t : List Seg} (hb : WF b) (ht : WF t) {l : List Chg} (h : DInv a b l (maxK + 1)) (hl : Lead a b t (cedge l l.length)) : t = b := by
  have hr := chain_rise h.row (fun c hc => (h.each c hc).2.1)
  have hce := cedge_le h l.length
  have h2 : Lead a b t (maxK + 1) := by
    refine lead_gap hb hl hce.2 (Int.le_refl _) fun key x y k0 k1 hx hy => Classical.byContradiction fun hn => ?_
    obtain ⟨d, hd, d1, d2⟩ := h.all key x y (by omega) k1 hx hy hn
    obtain ⟨j, hj⟩ := List.mem_iff_getElem?.1 hd
    have hjl := (List.getElem?_eq_some_iff.1 hj).1
    obtain ⟨k, hk⟩ : ∃ k, l.length = k + 1 := ⟨l.length - 1, by omega⟩
    rw [hk] at k0
    have he : l[k]? = some (l[k]'(by omega)) := List.getElem?_eq_getElem (by omega)
    rw [cedge_some he] at k0
    rcases Nat.lt_or_ge j k with g | g
    · have h1 := hr j k d _ g hj he
      have h2 := (h.each _ (List.mem_of_getElem? he)).2.1
      omega
    · obtain rfl : j = k := by omega
      rw [hj] at he; injection he with he; rw [← he] at k0; omega
  exact ht.eq hb fun key k0 k1 x hx => h2.1 key x k0 (by omega) hx

/-- there are changes just where the tables differ -/
theorem diff_nil {a b : List Seg} (ha : WF a) (hb : WF b) {l : List Chg} (h : DInv a b l (maxK + 1)) : l = [] ↔ a = b := by
  constructor
  · rintro rfl
    exact lead_done hb ha h ⟨fun key z k0 k1 => absurd k1 (by show ¬ key < 0; omega), fun key z _ _ hz => hz⟩
  · rintro rfl
    cases l with
    | nil => rfl
    | cons c r =>
      obtain ⟨g1, g2, g3, g4, g5⟩ := h.each c (by simp)
      obtain ⟨e1, e2⟩ := g5 c.lo (Int.le_refl _) g2
      exact absurd (tile_unique ha.tiles e1 e2) g4
end Rng
end Go.Proofs.Ytefdbhmjbfpeoaa
