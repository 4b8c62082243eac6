/- Layer 7: the reference's map of ints: Order, Rank, at. -/
import Derived.Test.YtfjeagffdijcoaaRefP
import Derived.Test.YtfjeagffdijcoaaTrMem
import Derived.Test.YtfjeagffdijcoaaChecked
import Derived.Laws.OwnMore
import Derived.StillTailTactics
namespace Go.Proofs.Ytfjeagffdijcoaa
open Go.RowKit

theorem tmod10 (a : Int) : -9 ≤ a.tmod 10 ∧ a.tmod 10 ≤ 9 := by
  have h1 := Int.tmod_lt_of_pos a (show (0 : Int) < 10 by omega)
  have h2 := Int.tmod_lt_of_pos (-a) (show (0 : Int) < 10 by omega)
  rw [Int.neg_tmod] at h2
  omega
theorem tmod2 (a : Int) : -1 ≤ a.tmod 2 ∧ a.tmod 2 ≤ 1 := by
  have h1 := Int.tmod_lt_of_pos a (show (0 : Int) < 2 by omega)
  have h2 := Int.tmod_lt_of_pos (-a) (show (0 : Int) < 2 by omega)
  rw [Int.neg_tmod] at h2
  omega

theorem ordI_2 (a b : Int) : ordI 2 a b = if (b.tmod 10 + 10).tmod 10 < (a.tmod 10 + 10).tmod 10 then 1 else if (a.tmod 10 + 10).tmod 10 < (b.tmod 10 + 10).tmod 10 then -1 else 0 := by simp [ordI]
theorem ordI_1 (a b : Int) : ordI 1 a b = -(if b < a then 1 else if a < b then -1 else 0) := by simp [ordI]
theorem ordI_3 (a b : Int) : ordI 3 a b = if (a.tmod 2 + 2).tmod 2 ≠ (b.tmod 2 + 2).tmod 2 then (a.tmod 2 + 2).tmod 2 - (b.tmod 2 + 2).tmod 2 else (if b < a then 1 else if a < b then -1 else 0) := by simp [ordI]
theorem ordI_0 (which a b : Int) (h1 : which ≠ 1) (h2 : which ≠ 2) (h3 : which ≠ 3) : ordI which a b = if b < a then 1 else if a < b then -1 else 0 := by simp [ordI, h1, h2, h3]

set_option maxHeartbeats 2000000 in
theorem order_any (w : World) (which a b : Int) : Calls Try.prog 56 #[.int .i64 which, .int .i64 a, .int .i64 b] w fun e w' => e = .returned (.int .i64 (ordI which a b)) ∧ w' = w := by
  have t10a := tmod10 a
  have t10b := tmod10 b
  have t2a := tmod2 a
  have t2b := tmod2 b
  by_cases h2 : which = 2
  · subst h2
    have e := hid (ordI_2 a b)
    have hw1 : IntKind.i64.wrap (a.tmod 10 + 10) = a.tmod 10 + 10 := wrap_mid _ (by omega) (by omega)
    have hw2 : IntKind.i64.wrap (b.tmod 10 + 10) = b.tmod 10 + 10 := wrap_mid _ (by omega) (by omega)
    clear t10a t10b t2a t2b
    generalize hx : (a.tmod 10 + 10).tmod 10 = x at e
    generalize hy : (b.tmod 10 + 10).tmod 10 = y at e
    rcases Int.lt_trichotomy x y with h | h | h
    · have e2 : Hid (ordI 2 a b = -1) := by show _ = _; rw [e.out, if_neg (by omega), if_pos h]
      have h' : ¬ y < x := by omega
      go_enter Try.func56, Try.ntmps56
      go_wp2_with fail
      go_ret
      exact ⟨by rw [e2.out]; rfl, rfl⟩
    · have e2 : Hid (ordI 2 a b = 0) := by show _ = _; rw [e.out, if_neg (by omega), if_neg (by omega)]
      subst h
      go_enter Try.func56, Try.ntmps56
      go_wp2_with fail
      go_ret
      exact ⟨by rw [e2.out]; rfl, rfl⟩
    · have e2 : Hid (ordI 2 a b = 1) := by show _ = _; rw [e.out, if_pos h]
      have h' : ¬ x < y := by omega
      go_enter Try.func56, Try.ntmps56
      go_wp2_with fail
      go_ret
      exact ⟨by rw [e2.out]; rfl, rfl⟩
  · by_cases h1 : which = 1
    · subst h1
      have e := hid (ordI_1 a b)
      clear t10a t10b t2a t2b h2
      rcases Int.lt_trichotomy a b with h | h | h
      · have e2 : Hid (ordI 1 a b = 1) := by show _ = _; rw [e.out, if_neg (by omega), if_pos h]; rfl
        have h' : ¬ b < a := by omega
        go_enter Try.func56, Try.ntmps56
        go_wp2_with fail
        go_ret
        exact ⟨by rw [e2.out]; rfl, rfl⟩
      · have e2 : Hid (ordI 1 a b = 0) := by show _ = _; rw [e.out, if_neg (by omega), if_neg (by omega)]; rfl
        subst h
        go_enter Try.func56, Try.ntmps56
        go_wp2_with fail
        go_ret
        exact ⟨by rw [e2.out]; rfl, rfl⟩
      · have e2 : Hid (ordI 1 a b = -1) := by show _ = _; rw [e.out, if_pos h]
        have h' : ¬ a < b := by omega
        go_enter Try.func56, Try.ntmps56
        go_wp2_with fail
        go_ret
        exact ⟨by rw [e2.out]; rfl, rfl⟩
    · by_cases h3 : which = 3
      · subst h3
        have e := hid (ordI_3 a b)
        have hw1 : IntKind.i64.wrap (a.tmod 2 + 2) = a.tmod 2 + 2 := wrap_mid _ (by omega) (by omega)
        have hw2 : IntKind.i64.wrap (b.tmod 2 + 2) = b.tmod 2 + 2 := wrap_mid _ (by omega) (by omega)
        have u1 := tmod2 (a.tmod 2 + 2)
        have u2 := tmod2 (b.tmod 2 + 2)
        clear t10a t10b t2a t2b h1 h2
        generalize hx : (a.tmod 2 + 2).tmod 2 = x at e u1
        generalize hy : (b.tmod 2 + 2).tmod 2 = y at e u2
        by_cases hxy : x = y
        · have hb : (x != y) = false := by simp [hxy]
          have e1 : Hid (ordI 3 a b = if b < a then 1 else if a < b then -1 else 0) := by show _ = _; rw [e.out, if_neg (by simp [hxy])]
          clear hxy
          rcases Int.lt_trichotomy a b with h | h | h
          · have e2 : Hid (ordI 3 a b = -1) := by show _ = _; rw [e1.out, if_neg (by omega), if_pos h]
            have h' : ¬ b < a := by omega
            go_enter Try.func56, Try.ntmps56
            go_wp2_with fail
            go_ret
            exact ⟨by rw [e2.out]; rfl, rfl⟩
          · have e2 : Hid (ordI 3 a b = 0) := by show _ = _; rw [e1.out, if_neg (by omega), if_neg (by omega)]
            have h' : ¬ b < a := by omega
            have h'' : ¬ a < b := by omega
            clear h
            go_enter Try.func56, Try.ntmps56
            go_wp2_with fail
            go_ret
            exact ⟨by rw [e2.out]; rfl, rfl⟩
          · have e2 : Hid (ordI 3 a b = 1) := by show _ = _; rw [e1.out, if_pos h]
            have h' : ¬ a < b := by omega
            go_enter Try.func56, Try.ntmps56
            go_wp2_with fail
            go_ret
            exact ⟨by rw [e2.out]; rfl, rfl⟩
        · have hb : (x != y) = true := by simp [hxy]
          have e2 : Hid (ordI 3 a b = x - y) := by show _ = _; rw [e.out, if_pos hxy]
          have hw3 : IntKind.i64.wrap (x - y) = x - y := wrap_mid _ (by omega) (by omega)
          clear hxy u1 u2
          go_enter Try.func56, Try.ntmps56
          go_wp2_with fail
          go_ret
          exact ⟨by rw [e2.out]; rfl, rfl⟩
      · have e := hid (ordI_0 which a b h1 h2 h3)
        have k1 : (which == 1) = false := by simp [h1]
        have k2 : (which == 2) = false := by simp [h2]
        have k3 : (which == 3) = false := by simp [h3]
        clear t10a t10b t2a t2b h1 h2 h3
        rcases Int.lt_trichotomy a b with h | h | h
        · have e2 : Hid (ordI which a b = -1) := by show _ = _; rw [e.out, if_neg (by omega), if_pos h]
          have h' : ¬ b < a := by omega
          go_enter Try.func56, Try.ntmps56
          go_wp2_with fail
          go_ret
          exact ⟨by rw [e2.out]; rfl, rfl⟩
        · have e2 : Hid (ordI which a b = 0) := by show _ = _; rw [e.out, if_neg (by omega), if_neg (by omega)]
          have h' : ¬ b < a := by omega
          have h'' : ¬ a < b := by omega
          clear h
          go_enter Try.func56, Try.ntmps56
          go_wp2_with fail
          go_ret
          exact ⟨by rw [e2.out]; rfl, rfl⟩
        · have e2 : Hid (ordI which a b = 1) := by show _ = _; rw [e.out, if_pos h]
          have h' : ¬ a < b := by omega
          go_enter Try.func56, Try.ntmps56
          go_wp2_with fail
          go_ret
          exact ⟨by rw [e2.out]; rfl, rfl⟩

/-- the reference's map: its order, its two lists, which lie in blocks of their own -/
structure IsRef (w : World) (B R : Nat) (which : Int) (kv vv : Value) (l : List (Int × Int)) : Prop where
  c0 : w.cell? ⟨R, 0, none⟩ = some (.int .i64 which)
  c1 : w.cell? ⟨R, 1, none⟩ = some kv
  c2 : w.cell? ⟨R, 2, none⟩ = some vv
  fz : ∀ j, w.frozen? ⟨R, j, none⟩ = false
  ks : w.ownsRow B 3 1 kv l.length ((l.map Prod.fst).flatMap i64)
  vs : w.ownsRow B 3 1 vv l.length ((l.map Prod.snd).flatMap i64)
  hk : kv.ownBlock ≠ some R
  hv : vv.ownBlock ≠ some R
  ne : ∀ g, kv.ownBlock = some g → vv.ownBlock ≠ some g

theorem i64_len (x : Int) : (i64 x).length = 1 := rfl
theorem i64_one (x : Int) : ∀ u ∈ i64 x, u.oneCell' = true := by intro u hu; simp [i64] at hu; subst hu; rfl

/-- the blocks that it is in -/
def footR (R : Nat) (kv vv : Value) (x : Nat) : Prop := x = R ∨ kv.ownBlock = some x ∨ vv.ownBlock = some x

theorem ownsRow_wrote {w w' : World} {B : Nat} {e : TypeId} {size n : Nat} {v : Value} {xs : List Value} {S : Nat → Prop} (h : w.ownsRow B e size v n xs) (hw : Wrote S w w') (hn : ∀ g, v.ownBlock = some g → ¬ S g) : w'.ownsRow B e size v n xs := by
  refine ⟨h.1, ?_⟩
  rcases h.2 with hz | ⟨g, cap, cur, hv, hb, hh, rest⟩
  · exact .inl hz
  · exact .inr ⟨g, cap, cur, hv, hb, (hw.block g (Array.getElem?_eq_some_iff.1 hh).1 (hn g (by rw [hv]; rfl))).trans hh, rest⟩

namespace IsRef
variable {w w' : World} {B R : Nat} {which : Int} {kv vv : Value} {l : List (Int × Int)} {S : Nat → Prop}
theorem lt (h : IsRef w B R which kv vv l) : R < w.heap.size := World.block_lt_of_cell? _ _ h.c0
theorem foot_lt (h : IsRef w B R which kv vv l) : ∀ x, footR R kv vv x → x < w.heap.size := by
  rintro x (rfl | hx | hx)
  · exact h.lt
  · exact (h.ks.lt x hx).2
  · exact (h.vs.lt x hx).2
theorem wrote (h : IsRef w B R which kv vv l) (hw : Wrote S w w') (hs : ∀ x, footR R kv vv x → ¬ S x) : IsRef w' B R which kv vv l :=
  ⟨hw.cell (hs R (.inl rfl)) h.c0, hw.cell (hs R (.inl rfl)) h.c1, hw.cell (hs R (.inl rfl)) h.c2, fun j => (hw.fz ⟨R, j, none⟩ h.lt).trans (h.fz j),
    ownsRow_wrote h.ks hw (fun g hg => hs g (.inr (.inl hg))), ownsRow_wrote h.vs hw (fun g hg => hs g (.inr (.inr hg))), h.hk, h.hv, h.ne⟩
theorem below (h : IsRef w B R which kv vv l) (hb : Below w.heap.size w w') : IsRef w' B R which kv vv l := h.wrote (S := fun _ => False) (Wrote.below hb) (fun _ _ => id)
theorem drewN (h : IsRef w B R which kv vv l) (q : Nat) : IsRef (w.drewN q) B R which kv vv l := h.wrote (S := fun _ => False) ((Wrote.refl _ w).drewN q) (fun _ _ => id)
/-- what a walk reads -/
theorem read (h : IsRef w B R which kv vv l) : ∃ A c A' c', kv = .slice A l.length c ∧ vv = .slice A' l.length c' ∧ l.length ≤ c ∧ l.length ≤ c' ∧ c ≤ maxLen ∧ c' ≤ maxLen ∧ Ints w.heap.size w A (l.map Prod.fst) ∧ Ints w.heap.size w A' (l.map Prod.snd) := by
  obtain ⟨h1, A, c, e1, e2, e3, e4⟩ := owns_reads i64_len h.ks (by decide)
  obtain ⟨h1', A', c', e1', e2', e3', e4'⟩ := owns_reads i64_len h.vs (by decide)
  exact ⟨A, c, A', c', e1, e1', e2, e2', e3, e3', e4, e4'⟩
end IsRef

theorem rankL_snoc {κ ν : Type} (c : κ → κ → Int) (key : κ) (l : List (κ × ν)) (i : Nat) (p : κ × ν) (h : l[i]? = some p) : rankL c key (l.take (i + 1)) = rankL c key (l.take i) + (if c p.1 key < 0 then 1 else 0) := by
  have hi := (List.getElem?_eq_some_iff.1 h).1
  have e : l.take (i + 1) = l.take i ++ [p] := by
    rw [List.take_add_one, h]; rfl
  rw [e]
  unfold rankL
  rw [List.countP_append]
  simp [List.countP_cons]

theorem rankL_le {κ ν : Type} (c : κ → κ → Int) (key : κ) (l : List (κ × ν)) : rankL c key l ≤ l.length := List.countP_le_length

set_option maxHeartbeats 2000000 in
theorem refRank_any (w : World) (B R : Nat) (which : Int) (kv vv : Value) (l : List (Int × Int)) (key : Int) (h : IsRef w B R which kv vv l) (hm : l.length ≤ 4611686018427387904) :
    Calls Try.prog 83 #[.pointer (some ⟨R, 0, none⟩), .int .i64 key] w fun e w' => e = .returned (.int .i64 (rankL (ordI which) key l : Nat)) ∧ ∃ q, w' = w.drewN q := by
  obtain ⟨A, c, A', c', rfl, rfl, _, _, _, _, h6, _⟩ := h.read
  have c0 := h.c0
  have c1 := h.c1
  have HR := hid h6
  clear h h6
  go_enter Try.func83, Try.ntmps83
  go_wp2_with fail
  go_loopg [5, 6] l.length (fun gx sn si wr => ∃ (i q r : Nat), sn = .int .i64 r ∧ si = .int .i64 i ∧ i ≤ l.length ∧ l.length - i ≤ gx ∧ r ≤ i ∧ Hid (r = rankL (ordI which) key (l.take i)) ∧ wr = w.drewN q)
  case atStart => exact ⟨0, 0, 0, rfl, rfl, Nat.zero_le _, Nat.le_refl _, Nat.le_refl _, hid rfl, rfl⟩
  case round =>
    obtain ⟨i, q, r, rfl, rfl, hi, hg, hr, HRK, rfl⟩ := hrel
    by_cases hlt : i < l.length
    · have hii : (i : Int) < (l.length : Int) := by omega
      obtain ⟨b, off, x, hx, rfl, hb, hc⟩ := HR.out.at' i (by simpa using hlt)
      have hx2 : Hid (∃ y, l[i]? = some (x, y)) := by
        have := hx.out
        rw [List.getElem?_map] at this
        obtain ⟨p, hp, rfl⟩ := Option.map_eq_some_iff.1 this
        exact ⟨p.2, hp⟩
      obtain ⟨cv, hcv⟩ : ∃ cv, ordI which x key = cv := ⟨_, rfl⟩
      have HO : Hid (∀ w', Calls Try.prog 56 #[.int .i64 which, .int .i64 x, .int .i64 key] w' fun e w'' => e = .returned (.int .i64 cv) ∧ ∃ n, w'' = w'.drewN n) := fun w' => (order_any w' which x key).mono (by rintro e w'' ⟨rfl, rfl⟩; exact ⟨by rw [hcv], 0, rfl⟩)
      have hwi : IntKind.i64.wrap ((i : Int) + 1) = (i : Int) + 1 := wrap_small _ (by omega) (by omega)
      have hwr : IntKind.i64.wrap ((r : Int) + 1) = (r : Int) + 1 := wrap_small _ (by omega) (by omega)
      have HST : Hid (rankL (ordI which) key (l.take (i + 1)) = r + (if cv < 0 then 1 else 0)) := by
        obtain ⟨y, hy⟩ := hx2.out
        show _ = _
        rw [rankL_snoc _ _ _ _ _ hy, ← HRK.out]
        simp only [hcv]
      have HD : Hid (∀ n, ∃ n', (w.drewN q).drewN n = w.drewN n') := fun n => ⟨q + n, by rw [World.drewN_drewN]⟩
      have c0q : (w.drewN q).cell? ⟨R, 0, none⟩ = some (.int .i64 which) := c0
      have c1q : (w.drewN q).cell? ⟨R, 1, none⟩ = some (.slice (some ⟨b, off, none⟩) l.length c) := c1
      have hcq : (w.drewN q).cell? ⟨b, off + i, none⟩ = some (.int .i64 x) := hc
      generalize w.drewN q = Wq at *
      clear hcv
      go_wp2_with fail
      go_quiet (refine Calls.quiet_of (HO.out _))
      obtain ⟨qz, hqz⟩ := HD.out nq
      clear HO HD
      by_cases hn : cv < 0
      · have HS2 : Hid (r + 1 = rankL (ordI which) key (l.take (i + 1))) := by show _ = _; rw [HST.out, if_pos hn]
        go_wp2_with fail
        go_roundg (l.length - (i + 1))
        case measure => omega
        case rel => exact ⟨i + 1, _, r + 1, by go_num, by go_num, hlt, Nat.le_refl _, by omega, HS2, by first | rfl | exact hqz⟩
      · have HS2 : Hid (r = rankL (ordI which) key (l.take (i + 1))) := by show _ = _; rw [HST.out, if_neg hn]; rfl
        go_wp2_with fail
        go_roundg (l.length - (i + 1))
        case measure => omega
        case rel => exact ⟨i + 1, _, r, rfl, by go_num, hlt, Nat.le_refl _, by omega, HS2, by first | rfl | exact hqz⟩
    · have hii : ¬ (i : Int) < (l.length : Int) := by omega
      have HE : Hid (r = rankL (ordI which) key l) := by show _ = _; rw [HRK.out, List.take_of_length_le (by omega)]
      go_wp2_with fail
      refine bodyPost_ret (results_tmp rfl _ _ _) rfl ?_
      exact ⟨by rw [← HE.out]; rfl, q, rfl⟩

/-- a key's place, if it is there -/
def hitL (which key : Int) (l : List (Int × Int)) : Int := match l[rankL (ordI which) key l]? with | some p => if ordI which p.1 key = 0 then (rankL (ordI which) key l : Nat) else -1 | none => -1

set_option maxHeartbeats 2000000 in
theorem refAt_any (w : World) (B R : Nat) (which : Int) (kv vv : Value) (l : List (Int × Int)) (key : Int) (h : IsRef w B R which kv vv l) (hm : l.length ≤ 4611686018427387904) :
    Calls Try.prog 82 #[.pointer (some ⟨R, 0, none⟩), .int .i64 key] w fun e w' => e = .returned (.int .i64 (hitL which key l)) ∧ ∃ q, w' = w.drewN q := by
  obtain ⟨r, hr⟩ : ∃ r, rankL (ordI which) key l = r := ⟨_, rfl⟩
  have hrk := refRank_any w B R which kv vv l key h hm
  have hrl := rankL_le (ordI which) key l
  have HH : Hid (∀ q, IsRef (w.drewN q) B R which kv vv l) := fun q => h.drewN q
  rw [hr] at hrk hrl
  have hE : Hid (hitL which key l = match l[r]? with | some p => if ordI which p.1 key = 0 then ((r : Nat) : Int) else -1 | none => -1) := by show _ = _; unfold hitL; rw [hr]
  have HRK := hid hrk
  clear hrk hr h
  go_enter Try.func82, Try.ntmps82
  go_wp2_with fail
  refine HRK.out.mono ?_
  rintro e w1 ⟨rfl, q, rfl⟩
  obtain ⟨A, c, A', c', rfl, rfl, _, _, _, _, h6, _⟩ := (HH.out q).read
  have c0 := (HH.out q).c0
  have c1 := (HH.out q).c1
  have HR := hid h6
  clear h6 HH HRK
  generalize hWq : w.drewN q = Wq at *
  have HWQ := hid hWq
  clear hWq
  by_cases hlt : r < l.length
  · have hii : (r : Int) < (l.length : Int) := by omega
    obtain ⟨b, off, x, hx, rfl, hb, hc⟩ := HR.out.at' r (by simpa using hlt)
    have hx2 : Hid (∃ y, l[r]? = some (x, y)) := by
      have := hx.out
      rw [List.getElem?_map] at this
      obtain ⟨p, hp, rfl⟩ := Option.map_eq_some_iff.1 this
      exact ⟨p.2, hp⟩
    obtain ⟨cv, hcv⟩ : ∃ cv, ordI which x key = cv := ⟨_, rfl⟩
    have HO : Hid (∀ w', Calls Try.prog 56 #[.int .i64 which, .int .i64 x, .int .i64 key] w' fun e w'' => e = .returned (.int .i64 cv) ∧ ∃ n, w'' = w'.drewN n) := fun w' => (order_any w' which x key).mono (by rintro e w'' ⟨rfl, rfl⟩; exact ⟨by rw [hcv], 0, rfl⟩)
    have HST : Hid (hitL which key l = if cv = 0 then ((r : Nat) : Int) else -1) := by
      obtain ⟨y, hy⟩ := hx2.out
      show _ = _
      rw [hE.out, hy, ← hcv]
    have hD : Hid (∀ n, ∃ n', Wq.drewN n = w.drewN n') := fun n => ⟨q + n, by rw [← HWQ.out, World.drewN_drewN]⟩
    clear hcv hE HWQ
    go_wp2_with fail
    go_quiet (refine Calls.quiet_of (HO.out _))
    clear HO
    by_cases hn : cv = 0
    · have HS2 : Hid (hitL which key l = (r : Nat)) := by show _ = _; rw [HST.out, if_pos hn]
      subst hn
      go_wp2_with fail
      refine bodyPost_ret (results_tmp rfl _ _ _) rfl ?_
      exact ⟨by rw [HS2.out]; rfl, hD.out _⟩
    · have HS2 : Hid (hitL which key l = -1) := by show _ = _; rw [HST.out, if_neg hn]
      have hnb : (cv == 0) = false := by simp [hn]
      go_wp2_with fail
      refine bodyPost_ret (results_tmp rfl _ _ _) rfl ?_
      exact ⟨by rw [HS2.out]; rfl, hD.out _⟩
  · have hii : ¬ (r : Int) < (l.length : Int) := by omega
    have HS2 : Hid (hitL which key l = -1) := by show _ = _; rw [hE.out, List.getElem?_eq_none (by omega)]
    go_wp2_with fail
    refine bodyPost_ret (results_tmp rfl _ _ _) rfl ?_
    exact ⟨by rw [HS2.out]; rfl, q, HWQ.out.symm⟩
end Go.Proofs.Ytfjeagffdijcoaa
