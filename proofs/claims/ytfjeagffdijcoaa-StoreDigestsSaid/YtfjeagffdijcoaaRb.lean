/- Layer 7: the reference's map of ints: Put, Delete. Layer 7: a map of the program's beside the reference's; filled. Layer 7: the reference's map of ints: Between. -/
import Derived.Test.YtfjeagffdijcoaaRefA
import Derived.Test.YtfjeagffdijcoaaTb
import Derived.Test.YtfjeagffdijcoaaWk
namespace Go.Proofs.Ytfjeagffdijcoaa
open Go.RowKit

theorem infoInt : (Try.prog.info? 3).map (fun i => (i.zero, i.size, i.bytes)) = some (some (.int .i64 0), 1, 8) := by kernel_rfl

/-- a list built round by round -/
def bld {α : Type} (f : Nat → List α) : Nat → List α
  | 0 => []
  | j + 1 => bld f j ++ f j

section
variable {α : Type}
theorem bld_put (l : List α) (p : α) (r : Nat) (hr : r ≤ l.length) (j : Nat) :
    bld (fun i => (if i = r then [p] else []) ++ l[i]?.toList) j = if j ≤ r then l.take j else l.take r ++ p :: (l.drop r).take (j - r) := by
  induction j with
  | zero => simp [bld]
  | succ j ih =>
    rw [bld, ih]
    rcases Nat.lt_trichotomy j r with h | h | h
    · simp only [show j ≤ r by omega, show j + 1 ≤ r by omega, show ¬ j = r by omega, if_true, if_false, List.take_add_one, List.nil_append]
    · subst h
      simp only [Nat.le_refl, show ¬ j + 1 ≤ j by omega, if_true, if_false, show j + 1 - j = 0 + 1 by omega, List.take_add_one]
      simp
    · simp only [show ¬ j ≤ r by omega, show ¬ j + 1 ≤ r by omega, show ¬ j = r by omega, if_false, show j + 1 - r = (j - r) + 1 by omega, List.take_add_one, List.getElem?_drop, show r + (j - r) = j by omega]
      simp
theorem row_mono {w : World} {base base' : Nat} {e : TypeId} {size n : Nat} {v : Value} {xs : List Value} (h : w.ownsRow base e size v n xs) (hb : base' ≤ base) : w.ownsRow base' e size v n xs :=
  ⟨h.1, h.2.imp id fun ⟨g, cap, cur, hv, hg, r⟩ => ⟨g, cap, cur, hv, Nat.le_trans hb hg, r⟩⟩
theorem bld_put_end (a b : List α) (p : α) : bld (fun i => (if i = a.length then [p] else []) ++ (a ++ b)[i]?.toList) ((a ++ b).length + 1) = a ++ p :: b := by
  rw [bld_put _ _ _ (by simp), if_neg (by simp; omega)]
  simp
  exact List.take_of_length_le (by omega)
theorem bld_cut (l : List α) (r : Nat) (j : Nat) :
    bld (fun i => if i = r then [] else l[i]?.toList) j = if j ≤ r then l.take j else l.take r ++ (l.drop (r + 1)).take (j - (r + 1)) := by
  induction j with
  | zero => simp [bld]
  | succ j ih =>
    rw [bld, ih]
    rcases Nat.lt_trichotomy j r with h | h | h
    · simp only [show j ≤ r by omega, show j + 1 ≤ r by omega, show ¬ j = r by omega, if_true, if_false, List.take_add_one]
    · subst h
      simp only [Nat.le_refl, show ¬ j + 1 ≤ j by omega, if_true, if_false, Nat.sub_self]
      simp
    · simp only [show ¬ j ≤ r by omega, show ¬ j + 1 ≤ r by omega, show ¬ j = r by omega, if_false, show j + 1 - (r + 1) = (j - (r + 1)) + 1 by omega, List.take_add_one, List.getElem?_drop, show r + 1 + (j - (r + 1)) = j by omega]
      simp
theorem bld_cut_end (a b : List α) (p : α) : bld (fun i => if i = a.length then [] else (a ++ p :: b)[i]?.toList) (a ++ p :: b).length = a ++ b := by
  rw [bld_cut, if_neg (by simp)]
  have e : (a ++ p :: b).drop (a.length + 1) = b := by rw [← List.drop_drop]; simp
  rw [e]
  simp
  exact List.take_of_length_le (by omega)
end

/-- two lists of the walk's own -/
structure Two (W : World) (B0 : Nat) (kv vv : Value) (kl vl : List Int) : Prop where
  ks : W.ownsRow B0 3 1 kv kl.length (kl.flatMap i64)
  vs : W.ownsRow B0 3 1 vv vl.length (vl.flatMap i64)
  ne : ∀ g, kv.ownBlock = some g → vv.ownBlock ≠ some g
namespace Two
variable {W w2 : World} {B0 : Nat} {kv vv kv' vv' : Value} {kl vl : List Int} {x : Int}
theorem step1 (h : Two W B0 kv vv kl vl) (hown : w2.ownsRow B0 3 1 kv' (kl ++ [x]).length ((kl ++ [x]).flatMap i64)) (hg : W.grownBy w2 kv.ownBlock) (hat : kv'.ownBlock = kv.ownBlock ∨ ∃ b, kv'.ownBlock = some b ∧ W.heap.size ≤ b) : Two w2 B0 kv' vv (kl ++ [x]) vl := by
  refine ⟨hown, h.vs.kept hg ?_, ?_⟩
  · cases e : vv.ownBlock with
    | none => exact .inl rfl
    | some g => exact .inr fun e2 => h.ne g e2.symm e
  · intro g hk hv
    rcases hat with hat | ⟨b, hb, hsz⟩
    · exact h.ne g (hat ▸ hk) hv
    · have := (h.vs.lt g hv).2
      rw [hb] at hk
      cases hk
      omega
theorem step2 (h : Two W B0 kv vv kl vl) (hown : w2.ownsRow B0 3 1 vv' (vl ++ [x]).length ((vl ++ [x]).flatMap i64)) (hg : W.grownBy w2 vv.ownBlock) (hat : vv'.ownBlock = vv.ownBlock ∨ ∃ b, vv'.ownBlock = some b ∧ W.heap.size ≤ b) : Two w2 B0 kv vv' kl (vl ++ [x]) := by
  refine ⟨h.ks.kept hg ?_, hown, ?_⟩
  · cases e : kv.ownBlock with
    | none => exact .inl rfl
    | some g => exact .inr fun e2 => h.ne g e e2.symm
  · intro g hk hv
    rcases hat with hat | ⟨b, hb, hsz⟩
    · exact h.ne g hk (hat ▸ hv)
    · have := (h.ks.lt g hk).2
      rw [hb] at hv
      cases hv
      omega
theorem slices (h : Two W B0 kv vv kl vl) : ∃ A n c A' n' c', kv = .slice A n c ∧ vv = .slice A' n' c' := by
  obtain ⟨_, A, c, e, _⟩ := owns_reads i64_len h.ks (by decide)
  obtain ⟨_, A', c', e', _⟩ := owns_reads i64_len h.vs (by decide)
  exact ⟨A, _, c, A', _, c', e, e'⟩
theorem nil (W : World) (B0 : Nat) : Two W B0 (.slice none 0 0) (.slice none 0 0) [] [] := ⟨World.ownsRow_nil _ _ _ _, World.ownsRow_nil _ _ _ _, fun _ h => by cases h⟩
end Two

/-- a pair of the reference's map, where it lies -/
theorem ref_at {B : Nat} {w : World} {A A' : Option Addr} {l : List (Int × Int)} (h : Ints B w A (l.map Prod.fst)) (h' : Ints B w A' (l.map Prod.snd)) (i : Nat) (hi : i < l.length) :
    ∃ b off b' off' x y, Hid (l[i]? = some (x, y)) ∧ A = some ⟨b, off, none⟩ ∧ A' = some ⟨b', off', none⟩ ∧ b < B ∧ b' < B ∧ w.cell? ⟨b, off + i, none⟩ = some (.int .i64 x) ∧ w.cell? ⟨b', off' + i, none⟩ = some (.int .i64 y) := by
  obtain ⟨b, off, x, hx, hA, hb, hc⟩ := h.at' i (by simpa using hi)
  obtain ⟨b', off', y, hy, hA', hb', hc'⟩ := h'.at' i (by simpa using hi)
  refine ⟨b, off, b', off', x, y, ?_, hA, hA', hb, hb', hc, hc'⟩
  have e1 := hx.out
  have e2 := hy.out
  rw [List.getElem?_map] at e1 e2
  obtain ⟨p, hp, rfl⟩ := Option.map_eq_some_iff.1 e1
  obtain ⟨p', hp', rfl⟩ := Option.map_eq_some_iff.1 e2
  rw [hp] at hp'
  cases hp'
  exact hp
theorem Tfact' {B : Nat} {w w' : World} (h : Below B w w') {a : Addr} {v : Value} (ha : a.block < B) (hc : w.cell? a = some v) : w'.cell? a = some v := (h.cell ha).trans hc

/-- the map behind a call that has laid new lists -/
theorem IsRef.laid {w W : World} {B B0 R : Nat} {which : Int} {kv vv kv' vv' : Value} {l l' : List (Int × Int)} (h : IsRef w B R which kv vv l) (hb : Below w.heap.size w W) (hB : B ≤ w.heap.size) (hB0 : B0 = w.heap.size)
    (ht : Two W B0 kv' vv' (l'.map Prod.fst) (l'.map Prod.snd)) :
    IsRef ((W.setCell ⟨R, 1, none⟩ kv').setCell ⟨R, 2, none⟩ vv') B R which kv' vv' l' ∧ Wrote (footR R kv vv) w ((W.setCell ⟨R, 1, none⟩ kv').setCell ⟨R, 2, none⟩ vv') ∧ (∀ x, footR R kv' vv' x → footR R kv vv x ∨ w.heap.size ≤ x) := by
  subst hB0
  have hW := h.below hb
  have k1 : ∀ g, kv'.ownBlock = some g → w.heap.size ≤ g := fun g hg => (ht.ks.lt g hg).1
  have k2 : ∀ g, vv'.ownBlock = some g → w.heap.size ≤ g := fun g hg => (ht.vs.lt g hg).1
  have hR := h.lt
  have hwr : Wrote (fun x => x = R) W ((W.setCell ⟨R, 1, none⟩ kv').setCell ⟨R, 2, none⟩ vv') := ((Wrote.refl (fun x => x = R) W).setCell (p := ⟨R, 1, none⟩) (.inl rfl) kv').setCell (p := ⟨R, 2, none⟩) (.inl rfl) vv'
  refine ⟨⟨?_, ?_, ?_, fun j => (World.frozen?_setCell ..).trans ((World.frozen?_setCell ..).trans (hW.fz j)), ?_, ?_, ?_, ?_, ht.ne⟩, ?_, ?_⟩
  · exact (World.cell?_setCell_other _ _ _ _ (by simp)).trans ((World.cell?_setCell_other _ _ _ _ (by simp)).trans hW.c0)
  · exact (World.cell?_setCell_other _ _ _ _ (by simp)).trans (World.cell?_setCell_same _ _ _ hW.c1)
  · exact World.cell?_setCell_same _ _ _ ((World.cell?_setCell_other _ _ _ _ (by simp)).trans hW.c2)
  · have := ownsRow_wrote ht.ks hwr (fun g hg e => by have := k1 g hg; omega)
    simpa using row_mono this hB
  · have := ownsRow_wrote ht.vs hwr (fun g hg e => by have := k2 g hg; omega)
    simpa using row_mono this hB
  · intro e; have := k1 R e; omega
  · intro e; have := k2 R e; omega
  · exact Wrote.step (Wrote.below hb) hwr (fun x hx => .inl (.inl hx))
  · rintro x (rfl | hx | hx)
    · exact .inl (.inl rfl)
    · exact .inr (k1 x hx)
    · exact .inr (k2 x hx)

set_option maxRecDepth 100000 in
set_option maxHeartbeats 4000000 in
theorem refPut_any (w : World) (B R : Nat) (which : Int) (kv vv : Value) (l : List (Int × Int)) (key val : Int) (h : IsRef w B R which kv vv l) (hU : Up (ordI which) l) (hB : B ≤ w.heap.size) (hm : l.length ≤ 17592186044000) :
    Calls Try.prog 21 #[.pointer (some ⟨R, 0, none⟩), .int .i64 key, .int .i64 val] w fun e w' =>
      ∃ kv' vv', e = .returned (.tuple #[.int .i64 ((getL (ordI which) key l).getD 0), .bool (getL (ordI which) key l).isSome]) ∧ IsRef w' B R which kv' vv' (putL (ordI which) key val l) ∧ Wrote (footR R kv vv) w w' ∧ (∀ x, footR R kv' vv' x → footR R kv vv x ∨ w.heap.size ≤ x) := by
  have hat := refAt_any w B R which kv vv l key h (by omega)
  have hrk := fun q => refRank_any (w.drewN q) B R which kv vv l key (h.drewN q) (by omega)
  obtain ⟨r, hr⟩ : ∃ r, rankL (ordI which) key l = r := ⟨_, rfl⟩
  rcases rank_cases (ordI_ord which) key hU with ⟨a, b, k, v, e0, e1, e2, e3, -, e5⟩ | ⟨a, b, e0, e1, e2, e3, -, e5⟩
  · have hhit : hitL which key l = (r : Nat) := by
      unfold hitL
      rw [hr, e0, List.getElem?_append_right (by omega), show r - a.length = 0 by omega]
      show (if ordI which k key = 0 then _ else _) = _
      rw [if_pos e2]
    have hlr : l[r]? = some (k, v) := by rw [e0, List.getElem?_append_right (by omega), show r - a.length = 0 by omega]; rfl
    rw [hhit] at hat
    have hrl : r < l.length := (List.getElem?_eq_some_iff.1 hlr).1
    have HG : Hid (getL (ordI which) key l = some v) := e5
    have HP : Hid (putL (ordI which) key val l = a ++ (k, val) :: b) := e3 val
    have HE : Hid (l = a ++ (k, v) :: b ∧ a.length = r) := ⟨e0, by omega⟩
    have H := hid h
    have HAT := hid hat
    have HL := hid hlr
    clear hat hrk hhit e0 e1 e2 e3 e5 hr h hlr hU
    go_enter Try.func21, Try.ntmps21
    go_wp2_with fail
    refine HAT.out.mono ?_
    rintro e w1 ⟨rfl, q, rfl⟩
    have h1 := H.out.drewN q
    have hbw : Wrote (footR R kv vv) w (w.drewN q) := (Wrote.refl _ w).drewN q
    have HBW := hid hbw
    clear HAT hbw
    generalize w.drewN q = W at *
    obtain ⟨A, c, A', c', rfl, rfl, _, hc2, _, _, h6, h7⟩ := h1.read
    obtain ⟨bk, ofk, bv, ofv, x, y, hxy, rfl, rfl, hbk, hbv, hck, hcv⟩ := ref_at h6 h7 r hrl
    obtain ⟨rfl, rfl⟩ : x = k ∧ y = v := by have := hxy.out.symm.trans HL.out; cases this; exact ⟨rfl, rfl⟩
    obtain rfl : ofv = 0 := by
      rcases h1.vs.2 with ⟨e, _⟩ | ⟨g, cap, cur, e, _⟩
      · cases e
      · cases e; rfl
    have hfv : W.frozen? ⟨bv, r, none⟩ = false := h1.vs.frozenAt r
    rw [Nat.zero_add] at hcv
    have c2 := h1.c2
    have hri : (r : Int) < (l.length : Int) := by omega
    have hst := h1.vs.stored r (.int .i64 val)
    have hkne := h1.ne
    have hvne := h1.hv
    have H1 := hid h1
    have HST := hid hst
    clear h1 h6 h7 hst
    go_wp2_with fail
    refine bodyPost_ret (results_tmp2 rfl _ _ _) rfl ?_
    obtain ⟨he, hal⟩ := HE.out
    have hwr : Wrote (fun x => x = bv) W (W.setCell ⟨bv, r, none⟩ (.int .i64 val)) := (Wrote.refl (fun x => x = bv) W).setCell (p := ⟨bv, r, none⟩) (.inl rfl) _
    have hRv : R ≠ bv := fun e => hvne (by rw [e]; rfl)
    refine ⟨_, _, by rw [HG.out]; rfl, ⟨hwr.cell hRv H1.out.c0, hwr.cell hRv H1.out.c1, hwr.cell hRv H1.out.c2, fun j => (World.frozen?_setCell ..).trans (H1.out.fz j), ?_, ?_, H1.out.hk, H1.out.hv, hkne⟩, Wrote.step HBW.out hwr (fun x hx => .inl (.inr (.inr (by rw [hx]; rfl)))), fun x hx => .inl hx⟩
    · have := ownsRow_wrote H1.out.ks hwr (fun g hg e => hkne g hg (by rw [e]; rfl))
      have e2 : l.length = (a ++ (x, val) :: b).length := by rw [he]; simp
      have e3 : (a ++ (x, val) :: b).map Prod.fst = l.map Prod.fst := by rw [he]; simp
      rw [HP.out, ← e2, e3]
      exact this
    · have := HST.out
      rw [HP.out]
      have e1 : ((l.map Prod.snd).flatMap i64).set r (.int .i64 val) = ((a ++ (x, val) :: b).map Prod.snd).flatMap i64 := by
        have fl : ∀ m : List Int, m.flatMap i64 = m.map (Value.int .i64) := fun m => by
          induction m with
          | nil => rfl
          | cons z m ih => rw [List.flatMap_cons, ih]; rfl
        rw [fl, fl, he, ← hal]
        simp
      rw [e1] at this
      have e2 : l.length = (a ++ (x, val) :: b).length := by rw [he]; simp
      rw [← e2]
      exact this.1
  · have hhit : hitL which key l = -1 := by
      unfold hitL
      rw [hr, e0]
      cases b with
      | nil => rw [List.getElem?_eq_none (by simp; omega)]
      | cons p b' =>
        rw [List.getElem?_append_right (by omega), show r - a.length = 0 by omega]
        show (if ordI which p.1 key = 0 then _ else _) = _
        rw [if_neg (by have := e2 p (by simp); omega)]
    rw [hhit] at hat
    simp only [hr] at hrk
    have hrl : r ≤ l.length := by rw [← hr]; exact rankL_le _ _ _
    have HG : Hid (getL (ordI which) key l = none) := e5
    have HP : Hid (bld (fun i => (if i = r then [(key, val)] else []) ++ l[i]?.toList) (l.length + 1) = putL (ordI which) key val l) := by
      show _ = _
      have := bld_put_end a b (key, val)
      rw [← e0, show a.length = r by omega] at this
      rw [this, e3 val]
    have H := hid h
    have HAT := hid hat
    have HRK := hid hrk
    clear hat hrk hhit e0 e1 e2 e3 e5 hr h hU
    go_enter Try.func21, Try.ntmps21
    go_wp2_with fail
    refine HAT.out.mono ?_
    rintro e w1 ⟨rfl, q, rfl⟩
    go_wp2_with fail
    refine (HRK.out q).mono ?_
    rintro e w1 ⟨rfl, q2, rfl⟩
    have h1 := (H.out.drewN q).drewN q2
    have hbw : Below w.heap.size w ((w.drewN q).drewN q2) := below_drewN' (below_drewN' (Below.refl _ w) q) q2
    obtain ⟨B0, hB0⟩ : ∃ B0, B0 = w.heap.size := ⟨_, rfl⟩
    obtain ⟨A, c, A', c', rfl, rfl, _, _, _, _, h6, h7⟩ := H.out.read
    have c1w := H.out.c1
    have c2w := H.out.c2
    have hRl := H.out.lt
    have H6 := hid h6
    have H7 := hid h7
    rw [← hB0] at hRl
    rw [← hB0] at hbw
    have HB0 := hid hB0
    clear HAT HRK h1 h6 h7
    generalize (w.drewN q).drewN q2 = W at *
    have hf0 : W.heap.size = W.heap.size := rfl
    have hWs := hbw.size
    have HB := hid hbw
    have c1 := Tfact' hbw (a := ⟨R, 1, none⟩) hRl c1w
    have c2 := Tfact' hbw (a := ⟨R, 2, none⟩) hRl c2w
    have C1w := hid c1w
    have C2w := hid c2w
    clear hbw hB0 c1w c2w hf0
    go_wp2_with fail
    clear c1 c2
    go_loopg [11, 12, 13] (l.length + 1) (fun gx sk sv sj wr => ∃ (j : Nat) (kl vl : List Int), sj = .int .i64 j ∧ j ≤ l.length + 1 ∧ l.length + 1 - j ≤ gx ∧ kl.length ≤ j + 1 ∧ vl.length ≤ j + 1 ∧ Hid (kl = (bld (fun i => (if i = r then [(key, val)] else []) ++ l[i]?.toList) j).map Prod.fst ∧ vl = (bld (fun i => (if i = r then [(key, val)] else []) ++ l[i]?.toList) j).map Prod.snd) ∧ Hid (Two wr B0 sk sv kl vl) ∧ Hid (Below B0 w wr) ∧ (j ≤ r → kl.length ≤ j ∧ vl.length ≤ j))
    case atStart => exact ⟨0, [], [], rfl, Nat.zero_le _, Nat.le_refl _, by simp, by simp, hid ⟨rfl, rfl⟩, Two.nil _ _, HB, fun _ => ⟨Nat.le_refl _, Nat.le_refl _⟩⟩
    case round =>
      obtain ⟨j, kl, vl, rfl, hj, hg, hkl, hvl, HEQ, HT, HBr, hjr⟩ := hrel
      have hc1 := Tfact' HBr.out (a := ⟨R, 1, none⟩) hRl C1w.out
      have hc2 := Tfact' HBr.out (a := ⟨R, 2, none⟩) hRl C2w.out
      have hBr := HBr.out
      have hSr := hBr.size
      have hSB := HB0.out
      have HST : Hid (bld (fun i => (if i = r then [(key, val)] else []) ++ l[i]?.toList) (j + 1) = bld (fun i => (if i = r then [(key, val)] else []) ++ l[i]?.toList) j ++ ((if j = r then [(key, val)] else []) ++ l[j]?.toList)) := rfl
      by_cases hlt : j ≤ l.length
      · have hji : (j : Int) ≤ (l.length : Int) := by omega
        have hwj : IntKind.i64.wrap ((j : Int) + 1) = (j : Int) + 1 := wrap_small _ (by omega) (by omega)
        by_cases hjr2 : j = r
        · subst hjr2
          have hb0 : ((j : Int) == (j : Int)) = true := by simp
          by_cases hjl : j < l.length
          · have hj2 : (j : Int) < (l.length : Int) := by omega
            obtain ⟨bk, ofk, bv, ofv, x, y, hxy, rfl, rfl, hbk, hbv, hck, hcv⟩ := ref_at H6.out H7.out j hjl
            rw [← hSB] at hbk hbv
            have hck0 := hck
            have hcv0 := hcv
            obtain ⟨A1k, n1k, c1k, A1v, n1v, c1v, rfl, rfl⟩ := HT.out.slices
            go_wp2_with (first
              | (at_builtin; refine wpList_append_one _ B0 rfl _ _ 31 3 _ 8 rfl Try.underlying31 infoInt rfl (by decide) i64_len i64_one (.slice A1k n1k c1k) kl key _ rfl rfl _ rfl (by simp) HT.out.ks (by simp only [maxLen]; omega) (by omega) (by first | omega | (simp; omega)) ?_; intro kv1a w1a hown1a hg1a hat1a; have hT1a := HT.out.step1 hown1a hg1a hat1a; have hB1a := hBr.grown hg1a (by have := hBr.size; omega) (fun k hk => own_ge HT.out.ks k hk); have hS1a := hB1a.size; have H1a := hid hT1a; clear hown1a hg1a hat1a hT1a; have hc11a := Tfact' hB1a (a := ⟨R, 1, none⟩) hRl C1w.out; have hc21a := Tfact' hB1a (a := ⟨R, 2, none⟩) hRl C2w.out; have hck1a := Tfact' hB1a (a := ⟨bk, _, none⟩) hbk hck0; have hcv1a := Tfact' hB1a (a := ⟨bv, _, none⟩) hbv hcv0)
              | (at_builtin; refine wpList_append_one _ B0 rfl _ _ 31 3 _ 8 rfl Try.underlying31 infoInt rfl (by decide) i64_len i64_one (.slice A1v n1v c1v) vl val _ rfl rfl _ rfl (by simp) H1a.out.vs (by simp only [maxLen]; omega) (by omega) (by first | omega | (simp; omega)) ?_; intro vv1b w1b hown1b hg1b hat1b; have hT1b := H1a.out.step2 hown1b hg1b hat1b; have hB1b := hB1a.grown hg1b (by have := hB1a.size; omega) (fun k hk => own_ge H1a.out.vs k hk); have hS1b := hB1b.size; have H1b := hid hT1b; clear hown1b hg1b hat1b hT1b H1a; have hc11b := Tfact' hB1b (a := ⟨R, 1, none⟩) hRl C1w.out; have hc21b := Tfact' hB1b (a := ⟨R, 2, none⟩) hRl C2w.out; have hck1b := Tfact' hB1b (a := ⟨bk, _, none⟩) hbk hck0; have hcv1b := Tfact' hB1b (a := ⟨bv, _, none⟩) hbv hcv0; obtain ⟨A2k, n2k, c2k, A2v, n2v, c2v, rfl, rfl⟩ := H1b.out.slices)
              | (at_builtin; refine wpList_append_one _ B0 rfl _ _ 31 3 _ 8 rfl Try.underlying31 infoInt rfl (by decide) i64_len i64_one (.slice A2k n2k c2k) (kl ++ [key]) x _ rfl rfl _ rfl (by simp) H1b.out.ks (by simp only [maxLen, List.length_append, List.length_singleton]; omega) (by simp only [List.length_append, List.length_singleton]; omega) (by first | omega | (simp; omega)) ?_; intro kv2a w2a hown2a hg2a hat2a; have hT2a := H1b.out.step1 hown2a hg2a hat2a; have hB2a := hB1b.grown hg2a (by have := hB1b.size; omega) (fun k hk => own_ge H1b.out.ks k hk); have hS2a := hB2a.size; have H2a := hid hT2a; clear hown2a hg2a hat2a hT2a; have hc12a := Tfact' hB2a (a := ⟨R, 1, none⟩) hRl C1w.out; have hc22a := Tfact' hB2a (a := ⟨R, 2, none⟩) hRl C2w.out; have hck2a := Tfact' hB2a (a := ⟨bk, _, none⟩) hbk hck0; have hcv2a := Tfact' hB2a (a := ⟨bv, _, none⟩) hbv hcv0)
              | (at_builtin; refine wpList_append_one _ B0 rfl _ _ 31 3 _ 8 rfl Try.underlying31 infoInt rfl (by decide) i64_len i64_one (.slice A2v n2v c2v) (vl ++ [val]) y _ rfl rfl _ rfl (by simp) H2a.out.vs (by simp only [maxLen, List.length_append, List.length_singleton]; omega) (by simp only [List.length_append, List.length_singleton]; omega) (by first | omega | (simp; omega)) ?_; intro vv2b w2b hown2b hg2b hat2b; have hT2b := H2a.out.step2 hown2b hg2b hat2b; have hB2b := hB2a.grown hg2b (by have := hB2a.size; omega) (fun k hk => own_ge H2a.out.vs k hk); have hS2b := hB2b.size; have H2b := hid hT2b; clear hown2b hg2b hat2b hT2b H2a; have hc12b := Tfact' hB2b (a := ⟨R, 1, none⟩) hRl C1w.out; have hc22b := Tfact' hB2b (a := ⟨R, 2, none⟩) hRl C2w.out; have hck2b := Tfact' hB2b (a := ⟨bk, _, none⟩) hbk hck0; have hcv2b := Tfact' hB2b (a := ⟨bv, _, none⟩) hbv hcv0))
            have HR : Hid ((kl ++ [key]) ++ [x] = (bld (fun i => (if i = j then [(key, val)] else []) ++ l[i]?.toList) (j + 1)).map Prod.fst ∧ (vl ++ [val]) ++ [y] = (bld (fun i => (if i = j then [(key, val)] else []) ++ l[i]?.toList) (j + 1)).map Prod.snd) := by
              obtain ⟨g1, g2⟩ := HEQ.out
              show _ ∧ _
              rw [HST.out, hxy.out]
              simp [g1, g2]
            go_roundg (l.length + 1 - (j + 1))
            case measure => omega
            case rel => exact ⟨j + 1, _, _, by go_num, by omega, Nat.le_refl _, by simp; have := (hjr (by omega)).1; omega, by simp; have := (hjr (by omega)).2; omega, HR, H2b, hid hB2b, fun h => by omega⟩
          · have hj2 : ¬ (j : Int) < (l.length : Int) := by omega
            obtain ⟨A1k, n1k, c1k, A1v, n1v, c1v, rfl, rfl⟩ := HT.out.slices
            go_wp2_with (first
              | (at_builtin; refine wpList_append_one _ B0 rfl _ _ 31 3 _ 8 rfl Try.underlying31 infoInt rfl (by decide) i64_len i64_one (.slice A1k n1k c1k) kl key _ rfl rfl _ rfl (by simp) HT.out.ks (by simp only [maxLen]; omega) (by omega) (by first | omega | (simp; omega)) ?_; intro kv1a w1a hown1a hg1a hat1a; have hT1a := HT.out.step1 hown1a hg1a hat1a; have hB1a := hBr.grown hg1a (by have := hBr.size; omega) (fun k hk => own_ge HT.out.ks k hk); have hS1a := hB1a.size; have H1a := hid hT1a; clear hown1a hg1a hat1a hT1a; have hc11a := Tfact' hB1a (a := ⟨R, 1, none⟩) hRl C1w.out; have hc21a := Tfact' hB1a (a := ⟨R, 2, none⟩) hRl C2w.out)
              | (at_builtin; refine wpList_append_one _ B0 rfl _ _ 31 3 _ 8 rfl Try.underlying31 infoInt rfl (by decide) i64_len i64_one (.slice A1v n1v c1v) vl val _ rfl rfl _ rfl (by simp) H1a.out.vs (by simp only [maxLen]; omega) (by omega) (by first | omega | (simp; omega)) ?_; intro vv1b w1b hown1b hg1b hat1b; have hT1b := H1a.out.step2 hown1b hg1b hat1b; have hB1b := hB1a.grown hg1b (by have := hB1a.size; omega) (fun k hk => own_ge H1a.out.vs k hk); have hS1b := hB1b.size; have H1b := hid hT1b; clear hown1b hg1b hat1b hT1b H1a; have hc11b := Tfact' hB1b (a := ⟨R, 1, none⟩) hRl C1w.out; have hc21b := Tfact' hB1b (a := ⟨R, 2, none⟩) hRl C2w.out))
            have HR : Hid (kl ++ [key] = (bld (fun i => (if i = j then [(key, val)] else []) ++ l[i]?.toList) (j + 1)).map Prod.fst ∧ vl ++ [val] = (bld (fun i => (if i = j then [(key, val)] else []) ++ l[i]?.toList) (j + 1)).map Prod.snd) := by
              obtain ⟨g1, g2⟩ := HEQ.out
              show _ ∧ _
              rw [HST.out, List.getElem?_eq_none (by omega)]
              simp [g1, g2]
            go_roundg (l.length + 1 - (j + 1))
            case measure => omega
            case rel => exact ⟨j + 1, _, _, by go_num, by omega, Nat.le_refl _, by simp; omega, by simp; omega, HR, H1b, hid hB1b, fun h => by omega⟩
        · have hb0 : ((j : Int) == (r : Int)) = false := by simp; omega
          by_cases hjl : j < l.length
          · have hj2 : (j : Int) < (l.length : Int) := by omega
            obtain ⟨bk, ofk, bv, ofv, x, y, hxy, rfl, rfl, hbk, hbv, hck, hcv⟩ := ref_at H6.out H7.out j hjl
            rw [← hSB] at hbk hbv
            have hck0 := hck
            have hcv0 := hcv
            replace hck := Tfact' hBr (a := ⟨bk, _, none⟩) hbk hck
            replace hcv := Tfact' hBr (a := ⟨bv, _, none⟩) hbv hcv
            obtain ⟨A1k, n1k, c1k, A1v, n1v, c1v, rfl, rfl⟩ := HT.out.slices
            go_wp2_with (first
              | (at_builtin; refine wpList_append_one _ B0 rfl _ _ 31 3 _ 8 rfl Try.underlying31 infoInt rfl (by decide) i64_len i64_one (.slice A1k n1k c1k) kl x _ rfl rfl _ rfl (by simp) HT.out.ks (by simp only [maxLen]; omega) (by omega) (by first | omega | (simp; omega)) ?_; intro kv1a w1a hown1a hg1a hat1a; have hT1a := HT.out.step1 hown1a hg1a hat1a; have hB1a := hBr.grown hg1a (by have := hBr.size; omega) (fun k hk => own_ge HT.out.ks k hk); have hS1a := hB1a.size; have H1a := hid hT1a; clear hown1a hg1a hat1a hT1a; have hc11a := Tfact' hB1a (a := ⟨R, 1, none⟩) hRl C1w.out; have hc21a := Tfact' hB1a (a := ⟨R, 2, none⟩) hRl C2w.out; have hck1a := Tfact' hB1a (a := ⟨bk, _, none⟩) hbk hck0; have hcv1a := Tfact' hB1a (a := ⟨bv, _, none⟩) hbv hcv0)
              | (at_builtin; refine wpList_append_one _ B0 rfl _ _ 31 3 _ 8 rfl Try.underlying31 infoInt rfl (by decide) i64_len i64_one (.slice A1v n1v c1v) vl y _ rfl rfl _ rfl (by simp) H1a.out.vs (by simp only [maxLen]; omega) (by omega) (by first | omega | (simp; omega)) ?_; intro vv1b w1b hown1b hg1b hat1b; have hT1b := H1a.out.step2 hown1b hg1b hat1b; have hB1b := hB1a.grown hg1b (by have := hB1a.size; omega) (fun k hk => own_ge H1a.out.vs k hk); have hS1b := hB1b.size; have H1b := hid hT1b; clear hown1b hg1b hat1b hT1b H1a; have hc11b := Tfact' hB1b (a := ⟨R, 1, none⟩) hRl C1w.out; have hc21b := Tfact' hB1b (a := ⟨R, 2, none⟩) hRl C2w.out; have hck1b := Tfact' hB1b (a := ⟨bk, _, none⟩) hbk hck0; have hcv1b := Tfact' hB1b (a := ⟨bv, _, none⟩) hbv hcv0))
            have HR : Hid (kl ++ [x] = (bld (fun i => (if i = r then [(key, val)] else []) ++ l[i]?.toList) (j + 1)).map Prod.fst ∧ vl ++ [y] = (bld (fun i => (if i = r then [(key, val)] else []) ++ l[i]?.toList) (j + 1)).map Prod.snd) := by
              obtain ⟨g1, g2⟩ := HEQ.out
              show _ ∧ _
              rw [HST.out, if_neg hjr2, hxy.out]
              simp [g1, g2]
            go_roundg (l.length + 1 - (j + 1))
            case measure => omega
            case rel => exact ⟨j + 1, _, _, by go_num, by omega, Nat.le_refl _, by simp; omega, by simp; omega, HR, H1b, hid hB1b, fun h => by have := hjr (by omega); simp; omega⟩
          · have hj2 : ¬ (j : Int) < (l.length : Int) := by omega
            have HR : Hid (kl = (bld (fun i => (if i = r then [(key, val)] else []) ++ l[i]?.toList) (j + 1)).map Prod.fst ∧ vl = (bld (fun i => (if i = r then [(key, val)] else []) ++ l[i]?.toList) (j + 1)).map Prod.snd) := by
              obtain ⟨g1, g2⟩ := HEQ.out
              show _ ∧ _
              rw [HST.out, if_neg hjr2, List.getElem?_eq_none (by omega)]
              simp [g1, g2]
            go_wp2_with fail
            go_roundg (l.length + 1 - (j + 1))
            case measure => omega
            case rel => exact ⟨j + 1, _, _, by go_num, by omega, Nat.le_refl _, by omega, by omega, HR, HT, HBr, fun h => by omega⟩
      · have hji : ¬ (j : Int) ≤ (l.length : Int) := by omega
        obtain rfl : j = l.length + 1 := by omega
        have hfz1 : wr.frozen? ⟨R, 1, none⟩ = false := (hBr.frozen (p := ⟨R, 1, none⟩) hRl).trans (H.out.fz 1)
        have hfz2 : wr.frozen? ⟨R, 2, none⟩ = false := (hBr.frozen (p := ⟨R, 2, none⟩) hRl).trans (H.out.fz 2)
        obtain ⟨A1k, n1k, c1k, A1v, n1v, c1v, rfl, rfl⟩ := HT.out.slices
        go_wp2_with fail
        refine bodyPost_ret (results_tmp2 rfl _ _ _) rfl ?_
        obtain ⟨g1, g2⟩ := HEQ.out
        rw [HP.out] at g1 g2
        subst g1
        subst g2
        rw [hSB] at hBr
        exact ⟨by rw [HG.out]; rfl, _, _, H.out.laid hBr hB hSB HT.out⟩

set_option maxRecDepth 100000 in
set_option maxHeartbeats 4000000 in
theorem refDelete_any (w : World) (B R : Nat) (which : Int) (kv vv : Value) (l : List (Int × Int)) (key : Int) (h : IsRef w B R which kv vv l) (hU : Up (ordI which) l) (hB : B ≤ w.heap.size) (hm : l.length ≤ 17592186044000) :
    Calls Try.prog 27 #[.pointer (some ⟨R, 0, none⟩), .int .i64 key] w fun e w' =>
      ∃ kv' vv', e = .returned (.tuple #[.int .i64 ((getL (ordI which) key l).getD 0), .bool (getL (ordI which) key l).isSome]) ∧ IsRef w' B R which kv' vv' (cutP (ordI which) key l) ∧ Wrote (footR R kv vv) w w' ∧ (∀ x, footR R kv' vv' x → footR R kv vv x ∨ w.heap.size ≤ x) := by
  have hat := refAt_any w B R which kv vv l key h (by omega)
  obtain ⟨r, hr⟩ : ∃ r, rankL (ordI which) key l = r := ⟨_, rfl⟩
  rcases rank_cases (ordI_ord which) key hU with ⟨a, b, k, v, e0, e1, e2, -, e4, e5⟩ | ⟨a, b, e0, e1, e2, -, e4, e5⟩
  case inr =>
    have hhit : hitL which key l = -1 := by
      unfold hitL
      rw [hr, e0]
      cases b with
      | nil => rw [List.getElem?_eq_none (by simp; omega)]
      | cons p b' =>
        rw [List.getElem?_append_right (by omega), show r - a.length = 0 by omega]
        show (if ordI which p.1 key = 0 then _ else _) = _
        rw [if_neg (by have := e2 p (by simp); omega)]
    rw [hhit] at hat
    have HG : Hid (getL (ordI which) key l = none) := e5
    have HP : Hid (cutP (ordI which) key l = l) := e4
    have H := hid h
    have HAT := hid hat
    clear hat hhit e0 e1 e2 e4 e5 hr h hU
    go_enter Try.func27, Try.ntmps27
    go_wp2_with fail
    refine HAT.out.mono ?_
    rintro e w1 ⟨rfl, q, rfl⟩
    go_wp2_with fail
    refine bodyPost_ret (results_tmp2 rfl _ _ _) rfl ?_
    exact ⟨kv, vv, by rw [HG.out]; rfl, by rw [HP.out]; exact H.out.drewN q, (Wrote.refl _ w).drewN q, fun x hx => .inl hx⟩
  case inl =>
    have hhit : hitL which key l = (r : Nat) := by
      unfold hitL
      rw [hr, e0, List.getElem?_append_right (by omega), show r - a.length = 0 by omega]
      show (if ordI which k key = 0 then _ else _) = _
      rw [if_pos e2]
    have hlr : l[r]? = some (k, v) := by rw [e0, List.getElem?_append_right (by omega), show r - a.length = 0 by omega]; rfl
    rw [hhit] at hat
    have hrl : r < l.length := (List.getElem?_eq_some_iff.1 hlr).1
    have HG : Hid (getL (ordI which) key l = some v) := e5
    have HP : Hid (bld (fun i => if i = r then [] else l[i]?.toList) l.length = cutP (ordI which) key l) := by
      show _ = _
      have := bld_cut_end a b (k, v)
      rw [← e0, show a.length = r by omega] at this
      rw [this, e4]
    have H := hid h
    have HAT := hid hat
    have HL := hid hlr
    clear hat hhit e0 e1 e2 e4 e5 hr h hU hlr
    go_enter Try.func27, Try.ntmps27
    go_wp2_with fail
    refine HAT.out.mono ?_
    rintro e w1 ⟨rfl, q, rfl⟩
    have h1 := H.out.drewN q
    have hbw : Below w.heap.size w (w.drewN q) := below_drewN' (Below.refl _ w) q
    obtain ⟨B0, hB0⟩ : ∃ B0, B0 = w.heap.size := ⟨_, rfl⟩
    obtain ⟨A, c, A', c', rfl, rfl, _, _, _, _, h6, h7⟩ := H.out.read
    have c1w := H.out.c1
    have c2w := H.out.c2
    have hRl := H.out.lt
    have H6 := hid h6
    have H7 := hid h7
    rw [← hB0] at hRl
    rw [← hB0] at hbw
    have HB0 := hid hB0
    clear HAT h1 h6 h7
    generalize w.drewN q = W at *
    have hWs := hbw.size
    have HB := hid hbw
    have c1 := Tfact' hbw (a := ⟨R, 1, none⟩) hRl c1w
    have c2 := Tfact' hbw (a := ⟨R, 2, none⟩) hRl c2w
    have C1w := hid c1w
    have C2w := hid c2w
    obtain ⟨bk0, ofk0, bv0, ofv0, x0, y0, hxy0, hA, hA', hbk0, hbv0, hck0, hcv0⟩ := ref_at H6.out H7.out r hrl
    obtain ⟨rfl, rfl⟩ : x0 = k ∧ y0 = v := by have := hxy0.out.symm.trans HL.out; cases this; exact ⟨rfl, rfl⟩
    subst hA
    subst hA'
    rw [← hB0] at hbv0
    have hcv1 := Tfact' hbw (a := ⟨bv0, _, none⟩) hbv0 hcv0
    have hri : (r : Int) < (l.length : Int) := by omega
    clear hbw hB0 c1w c2w hck0 hcv0 hbk0
    go_wp2_with fail
    clear c1 c2 hcv1
    go_loopg [8, 9, 10] l.length (fun gx sk sv sj wr => ∃ (j : Nat) (kl vl : List Int), sj = .int .i64 j ∧ j ≤ l.length ∧ l.length - j ≤ gx ∧ kl.length ≤ j ∧ vl.length ≤ j ∧ Hid (kl = (bld (fun i => if i = r then [] else l[i]?.toList) j).map Prod.fst ∧ vl = (bld (fun i => if i = r then [] else l[i]?.toList) j).map Prod.snd) ∧ Hid (Two wr B0 sk sv kl vl) ∧ Hid (Below B0 w wr))
    case atStart => exact ⟨0, [], [], rfl, Nat.zero_le _, Nat.le_refl _, by simp, by simp, hid ⟨rfl, rfl⟩, Two.nil _ _, HB⟩
    case round =>
      obtain ⟨j, kl, vl, rfl, hj, hg, hkl, hvl, HEQ, HT, HBr⟩ := hrel
      have hc1 := Tfact' HBr.out (a := ⟨R, 1, none⟩) hRl C1w.out
      have hc2 := Tfact' HBr.out (a := ⟨R, 2, none⟩) hRl C2w.out
      have hBr := HBr.out
      have hSr := hBr.size
      have hSB := HB0.out
      have HST : Hid (bld (fun i => if i = r then [] else l[i]?.toList) (j + 1) = bld (fun i => if i = r then [] else l[i]?.toList) j ++ (if j = r then [] else l[j]?.toList)) := rfl
      by_cases hjl : j < l.length
      · have hj2 : (j : Int) < (l.length : Int) := by omega
        have hwj : IntKind.i64.wrap ((j : Int) + 1) = (j : Int) + 1 := wrap_small _ (by omega) (by omega)
        by_cases hjr2 : j = r
        · have hb0 : ((j : Int) != (r : Int)) = false := by simp [hjr2]
          have HR : Hid (kl = (bld (fun i => if i = r then [] else l[i]?.toList) (j + 1)).map Prod.fst ∧ vl = (bld (fun i => if i = r then [] else l[i]?.toList) (j + 1)).map Prod.snd) := by
            obtain ⟨g1, g2⟩ := HEQ.out
            show _ ∧ _
            rw [HST.out]
            simp [g1, g2, hjr2]
          clear hjr2
          go_wp2_with fail
          go_roundg (l.length - (j + 1))
          case measure => omega
          case rel => exact ⟨j + 1, _, _, by go_num, by omega, Nat.le_refl _, by omega, by omega, HR, HT, HBr⟩
        · have hb0 : ((j : Int) != (r : Int)) = true := by simp; omega
          obtain ⟨bk, ofk, bv, ofv, x, y, hxy, hAk, hAv, hbk, hbv, hck, hcv⟩ := ref_at H6.out H7.out j hjl
          obtain ⟨rfl, rfl⟩ : bk0 = bk ∧ ofk0 = ofk := by cases hAk; exact ⟨rfl, rfl⟩
          obtain ⟨rfl, rfl⟩ : bv0 = bv ∧ ofv0 = ofv := by cases hAv; exact ⟨rfl, rfl⟩
          clear hAk hAv
          rw [← hSB] at hbk hbv
          have hck0 := hck
          have hcv0 := hcv
          replace hck := Tfact' hBr (a := ⟨bk0, _, none⟩) hbk hck
          replace hcv := Tfact' hBr (a := ⟨bv0, _, none⟩) hbv hcv
          obtain ⟨A1k, n1k, c1k, A1v, n1v, c1v, rfl, rfl⟩ := HT.out.slices
          go_wp2_with (first
            | (at_builtin; refine wpList_append_one _ B0 rfl _ _ 31 3 _ 8 rfl Try.underlying31 infoInt rfl (by decide) i64_len i64_one (.slice A1k n1k c1k) kl x _ rfl rfl _ rfl (by simp) HT.out.ks (by simp only [maxLen]; omega) (by omega) (by first | omega | (simp; omega)) ?_; intro kv1a w1a hown1a hg1a hat1a; have hT1a := HT.out.step1 hown1a hg1a hat1a; have hB1a := hBr.grown hg1a (by have := hBr.size; omega) (fun k hk => own_ge HT.out.ks k hk); have hS1a := hB1a.size; have H1a := hid hT1a; clear hown1a hg1a hat1a hT1a; have hc11a := Tfact' hB1a (a := ⟨R, 1, none⟩) hRl C1w.out; have hc21a := Tfact' hB1a (a := ⟨R, 2, none⟩) hRl C2w.out; have hck1a := Tfact' hB1a (a := ⟨bk0, _, none⟩) hbk hck0; have hcv1a := Tfact' hB1a (a := ⟨bv0, _, none⟩) hbv hcv0)
            | (at_builtin; refine wpList_append_one _ B0 rfl _ _ 31 3 _ 8 rfl Try.underlying31 infoInt rfl (by decide) i64_len i64_one (.slice A1v n1v c1v) vl y _ rfl rfl _ rfl (by simp) H1a.out.vs (by simp only [maxLen]; omega) (by omega) (by first | omega | (simp; omega)) ?_; intro vv1b w1b hown1b hg1b hat1b; have hT1b := H1a.out.step2 hown1b hg1b hat1b; have hB1b := hB1a.grown hg1b (by have := hB1a.size; omega) (fun k hk => own_ge H1a.out.vs k hk); have hS1b := hB1b.size; have H1b := hid hT1b; clear hown1b hg1b hat1b hT1b H1a; have hc11b := Tfact' hB1b (a := ⟨R, 1, none⟩) hRl C1w.out; have hc21b := Tfact' hB1b (a := ⟨R, 2, none⟩) hRl C2w.out; have hck1b := Tfact' hB1b (a := ⟨bk0, _, none⟩) hbk hck0; have hcv1b := Tfact' hB1b (a := ⟨bv0, _, none⟩) hbv hcv0))
          have HR : Hid (kl ++ [x] = (bld (fun i => if i = r then [] else l[i]?.toList) (j + 1)).map Prod.fst ∧ vl ++ [y] = (bld (fun i => if i = r then [] else l[i]?.toList) (j + 1)).map Prod.snd) := by
            obtain ⟨g1, g2⟩ := HEQ.out
            show _ ∧ _
            rw [HST.out, if_neg hjr2, hxy.out]
            simp [g1, g2]
          go_roundg (l.length - (j + 1))
          case measure => omega
          case rel => exact ⟨j + 1, _, _, by go_num, by omega, Nat.le_refl _, by simp; omega, by simp; omega, HR, H1b, hid hB1b⟩
      · have hji : ¬ (j : Int) < (l.length : Int) := by omega
        obtain rfl : j = l.length := by omega
        have hfz1 : wr.frozen? ⟨R, 1, none⟩ = false := (hBr.frozen (p := ⟨R, 1, none⟩) hRl).trans (H.out.fz 1)
        have hfz2 : wr.frozen? ⟨R, 2, none⟩ = false := (hBr.frozen (p := ⟨R, 2, none⟩) hRl).trans (H.out.fz 2)
        obtain ⟨A1k, n1k, c1k, A1v, n1v, c1v, rfl, rfl⟩ := HT.out.slices
        go_wp2_with fail
        refine bodyPost_ret (results_tmp2 rfl _ _ _) rfl ?_
        obtain ⟨g1, g2⟩ := HEQ.out
        rw [HP.out] at g1 g2
        subst g1
        subst g2
        rw [hSB] at hBr
        exact ⟨by rw [HG.out]; rfl, _, _, H.out.laid hBr hB hSB HT.out⟩
end Go.Proofs.Ytfjeagffdijcoaa
namespace Go.Proofs.Ytfjeagffdijcoaa
open Go.RowKit Go.Shelf

theorem ordI0 : ordI 0 = TI.cmpI := by
  funext a b
  rw [ordI_0 0 a b (by decide) (by decide) (by decide)]
  unfold TI.cmpI
  (repeat' split) <;> omega

/-- a map of the program's and one of the reference's that hold the same pairs, and lie apart -/
structure Both (W : World) (B M g : Nat) (cb : Array Value) (T : Tr Int Int) (R : Nat) (which : Int) (kv vv : Value) (l : List (Int × Int)) : Prop where
  mp : TI.IsMap W M g cb T
  rf : IsRef W B R which kv vv l
  pr : T.pairs = l
  up : Up (ordI which) l
  mB : B ≤ M
  tB : ∀ x ∈ T.blocks, B ≤ x
  rB : ∀ x, footR R kv vv x → B ≤ x
  apart : ∀ x, footR R kv vv x → x ≠ M ∧ x ∉ T.blocks

/-- the blocks that both are in -/
def footB (M : Nat) (T : Tr Int Int) (R : Nat) (kv vv : Value) (x : Nat) : Prop := (x = M ∨ x ∈ T.blocks) ∨ footR R kv vv x

namespace Both
variable {W W1 W2 : World} {B M g : Nat} {cb : Array Value} {T T' : Tr Int Int} {R : Nat} {which : Int} {kv vv kv' vv' : Value} {l l' : List (Int × Int)} {S : Nat → Prop}
theorem many (h : Both W B M g cb T R which kv vv l) : T.many = l.length := by rw [Tr.many_pairs, h.pr]
theorem ge (h : Both W B M g cb T R which kv vv l) : ∀ x, footB M T R kv vv x → B ≤ x := by
  rintro x ((rfl | hx) | hx)
  · exact h.mB
  · exact h.tB x hx
  · exact h.rB x hx
theorem lt (h : Both W B M g cb T R which kv vv l) : ∀ x, footB M T R kv vv x → x < W.heap.size := by
  rintro x ((rfl | hx) | hx)
  · exact h.mp.lt
  · exact h.mp.held.lt x hx
  · exact h.rf.foot_lt x hx
theorem wrote (h : Both W B M g cb T R which kv vv l) (hw : Wrote S W W1) (hs : ∀ x, footB M T R kv vv x → ¬ S x) : Both W1 B M g cb T R which kv vv l :=
  ⟨h.mp.wrote hw (hs M (.inl (.inl rfl))) (fun x hx => hs x (.inl (.inr hx))), h.rf.wrote hw (fun x hx => hs x (.inr hx)), h.pr, h.up, h.mB, h.tB, h.rB, h.apart⟩
theorem below (h : Both W B M g cb T R which kv vv l) (hb : Below W.heap.size W W1) : Both W1 B M g cb T R which kv vv l := h.wrote (S := fun _ => False) (Wrote.below hb) (fun _ _ => id)
theorem drewN (h : Both W B M g cb T R which kv vv l) (q : Nat) : Both (W.drewN q) B M g cb T R which kv vv l := h.wrote (S := fun _ => False) ((Wrote.refl _ W).drewN q) (fun _ _ => id)

/-- behind the program's own call: the reference's lies as it lay -/
theorem ref1 (h : Both W B M g cb T R which kv vv l) (hw : Wrote (fun x => x = M ∨ x ∈ T.blocks) W W1) : IsRef W1 B R which kv vv l :=
  h.rf.wrote hw (fun x hx e => by
    obtain ⟨h1, h2⟩ := h.apart x hx
    rcases e with e | e
    · exact h1 e
    · exact h2 e)
/-- behind both calls -/
theorem step (h : Both W B M g cb T R which kv vv l) (hm : TI.IsMap W1 M g cb T') (hw : Wrote (fun x => x = M ∨ x ∈ T.blocks) W W1) (hT : ∀ x ∈ T'.blocks, x ∈ T.blocks ∨ W.heap.size ≤ x) (hB : B ≤ W.heap.size)
    (hr : IsRef W2 B R which kv' vv' l') (hw2 : Wrote (footR R kv vv) W1 W2) (hf : ∀ x, footR R kv' vv' x → footR R kv vv x ∨ W1.heap.size ≤ x) (hp : T'.pairs = l') (hu : Up (ordI which) l') :
    Both W2 B M g cb T' R which kv' vv' l' ∧ Wrote (footB M T R kv vv) W W2 ∧ (∀ x, footB M T' R kv' vv' x → footB M T R kv vv x ∨ W.heap.size ≤ x) := by
  have hnT : ∀ x ∈ T'.blocks, ¬ footR R kv vv x := fun x hx hf' => by
    rcases hT x hx with e | e
    · exact (h.apart x hf').2 e
    · have := h.rf.foot_lt x hf'; omega
  have hnM : ¬ footR R kv vv M := fun hf' => (h.apart M hf').1 rfl
  have hM := hm.wrote hw2 hnM hnT
  have hsz := hw.size
  have hap : ∀ x, footR R kv' vv' x → x ≠ M ∧ x ∉ T'.blocks := fun x hx => by
    rcases hf x hx with e | e
    · exact ⟨(h.apart x e).1, fun hx' => hnT x hx' e⟩
    · exact ⟨fun e' => by have := hm.lt; omega, fun hx' => by have := hm.held.lt x hx'; omega⟩
  refine ⟨⟨hM, hr, hp, hu, h.mB, fun x hx => ?_, fun x hx => ?_, hap⟩, ?_, ?_⟩
  · rcases hT x hx with e | e
    · exact h.tB x e
    · omega
  · rcases hf x hx with e | e
    · exact h.rB x e
    · omega
  · exact (hw.mono (fun x hx => .inl hx)).step hw2 (fun x hx => .inl (.inr hx))
  · rintro x ((rfl | hx) | hx)
    · exact .inl (.inl (.inl rfl))
    · rcases hT x hx with e | e
      · exact .inl (.inl (.inr e))
      · exact .inr e
    · rcases hf x hx with e | e
      · exact .inl (.inr e)
      · exact .inr (by omega)
end Both

set_option maxRecDepth 100000 in
set_option maxHeartbeats 2000000 in
/-- a map of the program's and the reference's with these keys; some taken out again -/
theorem filled_any (w : World) (A : Option Addr) (n c : Nat) (ks : List Int) (A' : Option Addr) (n' c' : Nat) (os : List Int) (hl : ks.length = n) (hn : n * 8 ≤ 140737488351232) (hR : Ints w.heap.size w A ks) (hl' : os.length = n') (hn' : n' * 8 ≤ 140737488351232) (hR' : Ints w.heap.size w A' os) :
    Calls Try.prog 20 #[.slice A n c, .slice A' n' c'] w fun e w' =>
      ∃ M T R kv vv l, e = .returned (.tuple #[.pointer (some ⟨M, 0, none⟩), .pointer (some ⟨R, 0, none⟩)]) ∧ Both w' w.heap.size M 76 #[] T R 0 kv vv l ∧ Below w.heap.size w w' ∧ l.length ≤ n := by
  subst hl
  subst hl'
  have hord : TI.OrdFn 76 #[] (ordI 0) (fun _ => True) (fun _ => False) := by rw [ordI0]; exact TI.cmp_fn
  obtain ⟨B0, hB0⟩ : ∃ B0, B0 = w.heap.size := ⟨_, rfl⟩
  have hRb := hR
  have hRb' := hR'
  rw [← hB0] at hRb hRb'
  rw [← hB0]
  have HR := hid hRb
  have HR' := hid hRb'
  have HB0 := hid hB0
  clear hR hR' hRb hRb' hB0
  go_enter Try.func20, Try.ntmps20
  go_wp2_with fail
  refine (TI.newOrdered_any w).mono ?_
  rintro e w1 ⟨rfl, hM, hb⟩
  obtain ⟨M, hMe⟩ : ∃ M, M = w.heap.size := ⟨_, rfl⟩
  rw [← hMe] at hM ⊢
  have hw1 := hb.size
  have HM := hid hM
  have hB1 : Below B0 w w1 := by rw [HB0.out]; exact hb
  have HB1 := hid hB1
  have HMe := hid hMe
  clear hb hM hB1 hMe
  go_wp2_with fail
  obtain ⟨W, hW⟩ : ∃ W, W = w1.alloc (.cells #[.int .i64 0, .slice none 0 0, .slice none 0 0] 36) := ⟨_, rfl⟩
  obtain ⟨R, hRe⟩ : ∃ R, R = w1.heap.size := ⟨_, rfl⟩
  have hBB : Below w1.heap.size w1 W := by rw [hW]; exact (Below.refl _ w1).alloc (Nat.le_refl _) _
  have hRf : IsRef W B0 R 0 (.slice none 0 0) (.slice none 0 0) [] := by
    rw [hW, hRe]
    refine ⟨by simp, by simp, by simp, fun j => World.frozen?_alloc_new w1 _ _ j, World.ownsRow_nil _ _ _ _, World.ownsRow_nil _ _ _ _, fun e => (by cases e), fun e => (by cases e), fun _ e => (by cases e)⟩
  have hft : ∀ x, footR R (.slice none 0 0) (.slice none 0 0) x → x = R := by
    rintro x (h | h | h)
    · exact h
    · cases h
    · cases h
  have hBoth : Both W B0 M 76 #[] .nil R 0 (.slice none 0 0) (.slice none 0 0) [] :=
    ⟨HM.out.below hBB, hRf, rfl, List.Pairwise.nil, by rw [HMe.out, HB0.out]; exact Nat.le_refl _, fun x hx => (by cases hx), fun x hx => (by rw [hft x hx, hRe, HB0.out]; exact hw1), fun x hx => by
      rw [hft x hx]
      exact ⟨by have := HM.out.lt; omega, fun h => by cases h⟩⟩
  have hB2 : Below B0 w W := HB1.out.trans (hBB.mono (by rw [HB0.out]; exact hw1))
  rw [← hW, ← hRe]
  have HBoth := hid hBoth
  have HB2 := hid hB2
  clear hBoth hB2 hRf hft hBB hW hRe HM HB1
  go_loopg [8] ks.length (fun gx si wr => ∃ (i : Nat) (T : Tr Int Int) (kv vv : Value) (l : List (Int × Int)), si = .int .i64 i ∧ i ≤ ks.length ∧ ks.length - i ≤ gx ∧ l.length ≤ i ∧ Hid (Both wr B0 M 76 #[] T R 0 kv vv l) ∧ Hid (Below B0 w wr))
  case atStart => exact ⟨0, .nil, _, _, [], rfl, Nat.zero_le _, Nat.le_refl _, Nat.le_refl _, HBoth, HB2⟩
  case round =>
    clear HBoth HB2
    obtain ⟨i, T, kv, vv, l, rfl, hi, hg, hll, HT, HBr⟩ := hrel
    by_cases hlt : i < ks.length
    · have hii : (i : Int) < (ks.length : Int) := by omega
      have hwi : IntKind.i64.wrap ((i : Int) + 1) = (i : Int) + 1 := wrap_small _ (by omega) (by omega)
      obtain ⟨b, off, x, hx, rfl, hb, hc0⟩ := HR.out.at' i hlt
      have hc := Tfact' HBr.out (a := ⟨b, _, none⟩) hb hc0
      have hml := HT.out.many
      have hput := TI.mapPut_any 76 #[] (ordI 0) (fun _ => True) (fun _ => False) hord wr M T x (i : Int) HT.out.mp (by omega) trivial (fun _ _ => id) id
      have HPUT := hid hput
      have hsr : B0 ≤ wr.heap.size := by have := HBr.out.size; have := HB0.out; omega
      clear hput
      go_wp2_with fail
      refine HPUT.out.mono ?_
      rintro e w2 ⟨nb, g1, rfl, g2, g3, -⟩
      have hB3 : Below B0 w w2 := HBr.out.trans (g3.toBelow' hsr (fun x hx => HT.out.ge x (.inl hx)))
      have hc2 := Tfact' hB3 (a := ⟨b, _, none⟩) hb hc0
      have hrf := HT.out.ref1 g3
      have hs2 := g3.size
      have hrp := refPut_any w2 B0 R 0 kv vv l x (i : Int) hrf HT.out.up (by omega) (by omega)
      have HRP := hid hrp
      have G2 := hid g2
      have G3 := hid g3
      have HB3 := hid hB3
      clear hrp g2 g3 hB3 hrf HPUT
      go_wp2_with fail
      refine HRP.out.mono ?_
      rintro e w3 ⟨kv', vv', rfl, k1, k2, k3⟩
      have hpp : (Tr.put (ordI 0) x (i : Int) nb T).pairs = putL (ordI 0) x (i : Int) l := by rw [Tr.put_pairs (ordI_ord 0) _ _ _ (by rw [HT.out.pr]; exact HT.out.up), HT.out.pr]
      obtain ⟨s1, s2, s3⟩ := HT.out.step G2.out G3.out (fun y hy => (Tr.put_mem _ _ nb T y hy).elim (fun e => .inr (by omega)) .inl) hsr k1 k2 k3 hpp (putL_up (ordI_ord 0) _ _ HT.out.up)
      have hlen : (putL (ordI 0) x (i : Int) l).length ≤ l.length + 1 := by
        rw [← hpp, ← Tr.many_pairs]
        have := Tr.put_many (c := ordI 0) x (i : Int) nb T
        omega
      have HS1 := hid s1
      have hB4 : Below B0 w w3 := HBr.out.trans (s2.toBelow' hsr HT.out.ge)
      have HB4 := hid hB4
      clear s1 s2 s3 k1 k2 k3 hpp G2 G3 HB3 HRP hB4
      go_wp2_with fail
      go_roundg (ks.length - (i + 1))
      case measure => omega
      case rel => exact ⟨i + 1, _, _, _, _, by go_num, hlt, Nat.le_refl _, by omega, HS1, HB4⟩
    · obtain rfl : i = ks.length := by omega
      have hii : ¬ ((ks.length : Int) < (ks.length : Int)) := by omega
      go_wp2_with fail
      go_loopg [9] os.length (fun gx si wr => ∃ (i : Nat) (T : Tr Int Int) (kv vv : Value) (l : List (Int × Int)), si = .int .i64 i ∧ i ≤ os.length ∧ os.length - i ≤ gx ∧ l.length ≤ ks.length ∧ Hid (Both wr B0 M 76 #[] T R 0 kv vv l) ∧ Hid (Below B0 w wr))
      case atStart => exact ⟨0, T, _, _, l, rfl, Nat.zero_le _, Nat.le_refl _, hll, HT, HBr⟩
      case round =>
        clear HT HBr
        obtain ⟨i, T, kv, vv, l, rfl, hi, hg, hll, HT, HBr⟩ := hrel
        by_cases hlt : i < os.length
        · have hii : (i : Int) < (os.length : Int) := by omega
          have hwi : IntKind.i64.wrap ((i : Int) + 1) = (i : Int) + 1 := wrap_small _ (by omega) (by omega)
          obtain ⟨b, off, x, hx, rfl, hb, hc0⟩ := HR'.out.at' i hlt
          have hc := Tfact' HBr.out (a := ⟨b, _, none⟩) hb hc0
          have hml := HT.out.many
          have hput := TI.mapDelete_any 76 #[] (ordI 0) (fun _ => True) (fun _ => False) hord wr M T x HT.out.mp (by omega) trivial (fun _ _ => id) id
          have HPUT := hid hput
          have hsr : B0 ≤ wr.heap.size := by have := HBr.out.size; have := HB0.out; omega
          clear hput
          go_wp2_with fail
          refine HPUT.out.mono ?_
          rintro e w2 ⟨rfl, g2, g3, -⟩
          have hB3 : Below B0 w w2 := HBr.out.trans (g3.toBelow' hsr (fun x hx => HT.out.ge x (.inl hx)))
          have hc2 := Tfact' hB3 (a := ⟨b, _, none⟩) hb hc0
          have hrf := HT.out.ref1 g3
          have hs2 := g3.size
          have hrp := refDelete_any w2 B0 R 0 kv vv l x hrf HT.out.up (by omega) (by omega)
          have HRP := hid hrp
          have G2 := hid g2
          have G3 := hid g3
          have HB3 := hid hB3
          clear hrp g2 g3 hB3 hrf HPUT
          go_wp2_with fail
          refine HRP.out.mono ?_
          rintro e w3 ⟨kv', vv', rfl, k1, k2, k3⟩
          have hpp : (Tr.cut (ordI 0) x T).pairs = cutP (ordI 0) x l := by rw [Tr.cut_pairs (ordI_ord 0) _ HT.out.mp.bal (by rw [HT.out.pr]; exact HT.out.up), HT.out.pr]
          obtain ⟨s1, s2, s3⟩ := HT.out.step G2.out G3.out (fun y hy => .inl (Tr.cut_blocks _ HT.out.mp.bal y hy)) hsr k1 k2 k3 hpp (cutP_up _ HT.out.up)
          have hlen : (cutP (ordI 0) x l).length ≤ l.length := (cutP_sub x l).length_le
          have HS1 := hid s1
          have hB4 : Below B0 w w3 := HBr.out.trans (s2.toBelow' hsr HT.out.ge)
          have HB4 := hid hB4
          clear s1 s2 s3 k1 k2 k3 hpp G2 G3 HB3 HRP hB4
          go_wp2_with fail
          go_roundg (os.length - (i + 1))
          case measure => omega
          case rel => exact ⟨i + 1, _, _, _, _, by go_num, hlt, Nat.le_refl _, by omega, HS1, HB4⟩
        · obtain rfl : i = os.length := by omega
          have hii : ¬ ((os.length : Int) < (os.length : Int)) := by omega
          go_wp2_with fail
          refine bodyPost_ret (results_tmp2 rfl _ _ _) rfl ?_
          first | exact ⟨M, T, R, rfl, kv, vv, l, HT.out, HBr.out, hll⟩ | exact ⟨M, R, rfl, T, kv, vv, l, HT.out, HBr.out, hll⟩ | exact ⟨M, T, R, kv, vv, l, rfl, HT.out, HBr.out, hll⟩
end Go.Proofs.Ytfjeagffdijcoaa
namespace Go.Proofs.Ytfjeagffdijcoaa
open Go.RowKit

theorem filter_snoc {α : Type} (f : α → Bool) (l : List α) (i : Nat) (p : α) (h : l[i]? = some p) : (l.take (i + 1)).filter f = (l.take i).filter f ++ (if f p then [p] else []) := by
  have e : l.take (i + 1) = l.take i ++ [p] := by rw [List.take_add_one, h]; rfl
  rw [e, List.filter_append]
  cases hf : f p <;> simp [hf]

set_option maxRecDepth 100000 in
set_option maxHeartbeats 4000000 in
theorem refBetween_any (w : World) (B R : Nat) (which : Int) (kv vv : Value) (l : List (Int × Int)) (lo hi : Int) (h : IsRef w B R which kv vv l) (hm : l.length ≤ 17592186044000) :
    Calls Try.prog 30 #[.pointer (some ⟨R, 0, none⟩), .int .i64 lo, .int .i64 hi] w fun e w' =>
      ∃ v1 v2, e = .returned (.tuple #[v1, v2]) ∧ Two w' w.heap.size v1 v2 ((l.filter (inR (ordI which) lo hi)).map Prod.fst) ((l.filter (inR (ordI which) lo hi)).map Prod.snd) ∧ Below w.heap.size w w' := by
  obtain ⟨B0, hB0⟩ : ∃ B0, B0 = w.heap.size := ⟨_, rfl⟩
  obtain ⟨A, c, A', c', rfl, rfl, _, _, _, _, h6, h7⟩ := h.read
  have c0w := h.c0
  have c1w := h.c1
  have c2w := h.c2
  have hRl := h.lt
  have H6 := hid h6
  have H7 := hid h7
  rw [← hB0] at hRl
  have C0w := hid c0w
  have C1w := hid c1w
  have C2w := hid c2w
  have HB : Hid (Below B0 w w) := Below.refl _ _
  rw [← hB0]
  clear h6 h7 h
  have HB0 := hid hB0
  clear hB0
  go_enter Try.func30, Try.ntmps30
  go_wp2_with fail
  clear c0w c1w c2w
  go_loopg [8, 9, 10] l.length (fun gx sk sv sj wr => ∃ (j : Nat) (kl vl : List Int), sj = .int .i64 j ∧ j ≤ l.length ∧ l.length - j ≤ gx ∧ kl.length ≤ j ∧ vl.length ≤ j ∧ Hid (kl = ((l.take j).filter (inR (ordI which) lo hi)).map Prod.fst ∧ vl = ((l.take j).filter (inR (ordI which) lo hi)).map Prod.snd) ∧ Hid (Two wr B0 sk sv kl vl) ∧ Hid (Below B0 w wr))
  case atStart => exact ⟨0, [], [], rfl, Nat.zero_le _, Nat.le_refl _, by simp, by simp, hid ⟨by simp, by simp⟩, Two.nil _ _, HB⟩
  case round =>
    obtain ⟨j, kl, vl, rfl, hj, hg, hkl, hvl, HEQ, HT, HBr⟩ := hrel
    have hc0 := Tfact' HBr.out (a := ⟨R, 0, none⟩) hRl C0w.out
    have hc1 := Tfact' HBr.out (a := ⟨R, 1, none⟩) hRl C1w.out
    have hc2 := Tfact' HBr.out (a := ⟨R, 2, none⟩) hRl C2w.out
    have hBr := HBr.out
    have hSr := hBr.size
    have hSB := HB0.out
    obtain ⟨A1k, n1k, c1k, A1v, n1v, c1v, rfl, rfl⟩ := HT.out.slices
    by_cases hjl : j < l.length
    · have hj2 : (j : Int) < (l.length : Int) := by omega
      have hwj : IntKind.i64.wrap ((j : Int) + 1) = (j : Int) + 1 := wrap_small _ (by omega) (by omega)
      obtain ⟨bk, ofk, bv, ofv, x, y, hxy, rfl, rfl, hbk, hbv, hck, hcv⟩ := ref_at H6.out H7.out j hjl
      rw [← hSB] at hbk hbv
      have hck0 := hck
      have hcv0 := hcv
      replace hck := Tfact' hBr (a := ⟨bk, _, none⟩) hbk hck
      replace hcv := Tfact' hBr (a := ⟨bv, _, none⟩) hbv hcv
      obtain ⟨v1, hv1⟩ : ∃ v1, ordI which x lo = v1 := ⟨_, rfl⟩
      obtain ⟨v2, hv2⟩ : ∃ v2, ordI which x hi = v2 := ⟨_, rfl⟩
      have HO1 : Hid (∀ w', Calls Try.prog 56 #[.int .i64 which, .int .i64 x, .int .i64 lo] w' fun e w'' => e = .returned (.int .i64 v1) ∧ ∃ n, w'' = w'.drewN n) := fun w' => (order_any w' which x lo).mono (by rintro e w'' ⟨rfl, rfl⟩; exact ⟨by rw [hv1], 0, rfl⟩)
      have HO2 : Hid (∀ w', Calls Try.prog 56 #[.int .i64 which, .int .i64 x, .int .i64 hi] w' fun e w'' => e = .returned (.int .i64 v2) ∧ ∃ n, w'' = w'.drewN n) := fun w' => (order_any w' which x hi).mono (by rintro e w'' ⟨rfl, rfl⟩; exact ⟨by rw [hv2], 0, rfl⟩)
      have HST : Hid (inR (ordI which) lo hi (x, y) = (decide (0 ≤ v1) && decide (v2 ≤ 0))) := by show _ = _; unfold inR; simp only [hv1, hv2]
      have HSN := hid (filter_snoc (inR (ordI which) lo hi) l j (x, y) hxy.out)
      clear hv1 hv2
      go_wp2_with fail
      go_quiet (refine Calls.quiet_of (HO1.out _))
      have HTq : Hid (Two (wr.drewN nq) B0 (.slice A1k n1k c1k) (.slice A1v n1v c1v) kl vl) := ⟨HT.out.ks, HT.out.vs, HT.out.ne⟩
      have hBq : Below B0 w (wr.drewN nq) := below_drewN' hBr nq
      replace hc0 : (wr.drewN nq).cell? _ = _ := hc0
      replace hc1 : (wr.drewN nq).cell? _ = _ := hc1
      replace hc2 : (wr.drewN nq).cell? _ = _ := hc2
      replace hck : (wr.drewN nq).cell? _ = _ := hck
      replace hcv : (wr.drewN nq).cell? _ = _ := hcv
      clear HO1 HT HBr hBr hSr
      generalize wr.drewN nq = wy at *
      go_wp2_with fail
      go_quiet (refine Calls.quiet_of (HO2.out _))
      have HT : Hid (Two (wy.drewN nq) B0 (.slice A1k n1k c1k) (.slice A1v n1v c1v) kl vl) := ⟨HTq.out.ks, HTq.out.vs, HTq.out.ne⟩
      have hBr : Below B0 w (wy.drewN nq) := below_drewN' hBq nq
      replace hc0 : (wy.drewN nq).cell? _ = _ := hc0
      replace hc1 : (wy.drewN nq).cell? _ = _ := hc1
      replace hc2 : (wy.drewN nq).cell? _ = _ := hc2
      replace hck : (wy.drewN nq).cell? _ = _ := hck
      replace hcv : (wy.drewN nq).cell? _ = _ := hcv
      clear HO2 HTq hBq
      generalize wy.drewN nq = wz at *
      have hSr := hBr.size
      by_cases g1 : 0 ≤ v1
      · by_cases g2 : v2 ≤ 0
        · go_wp2_with (first
            | (at_builtin; refine wpList_append_one _ B0 rfl _ _ 31 3 _ 8 rfl Try.underlying31 infoInt rfl (by decide) i64_len i64_one (.slice A1k n1k c1k) kl x _ rfl rfl _ rfl (by simp) HT.out.ks (by simp only [maxLen]; omega) (by omega) (by first | omega | (simp; omega)) ?_; intro kv1a w1a hown1a hg1a hat1a; have hT1a := HT.out.step1 hown1a hg1a hat1a; have hB1a := hBr.grown hg1a (by have := hBr.size; omega) (fun k hk => own_ge HT.out.ks k hk); have hS1a := hB1a.size; have H1a := hid hT1a; clear hown1a hg1a hat1a hT1a; have hc11a := Tfact' hB1a (a := ⟨R, 1, none⟩) hRl C1w.out; have hc21a := Tfact' hB1a (a := ⟨R, 2, none⟩) hRl C2w.out; have hck1a := Tfact' hB1a (a := ⟨bk, _, none⟩) hbk hck0; have hcv1a := Tfact' hB1a (a := ⟨bv, _, none⟩) hbv hcv0)
            | (at_builtin; refine wpList_append_one _ B0 rfl _ _ 31 3 _ 8 rfl Try.underlying31 infoInt rfl (by decide) i64_len i64_one (.slice A1v n1v c1v) vl y _ rfl rfl _ rfl (by simp) H1a.out.vs (by simp only [maxLen]; omega) (by omega) (by first | omega | (simp; omega)) ?_; intro vv1b w1b hown1b hg1b hat1b; have hT1b := H1a.out.step2 hown1b hg1b hat1b; have hB1b := hB1a.grown hg1b (by have := hB1a.size; omega) (fun k hk => own_ge H1a.out.vs k hk); have hS1b := hB1b.size; have H1b := hid hT1b; clear hown1b hg1b hat1b hT1b H1a; have hc11b := Tfact' hB1b (a := ⟨R, 1, none⟩) hRl C1w.out; have hc21b := Tfact' hB1b (a := ⟨R, 2, none⟩) hRl C2w.out; have hck1b := Tfact' hB1b (a := ⟨bk, _, none⟩) hbk hck0; have hcv1b := Tfact' hB1b (a := ⟨bv, _, none⟩) hbv hcv0))
          have HR : Hid (kl ++ [x] = ((l.take (j + 1)).filter (inR (ordI which) lo hi)).map Prod.fst ∧ vl ++ [y] = ((l.take (j + 1)).filter (inR (ordI which) lo hi)).map Prod.snd) := by
            obtain ⟨e1, e2⟩ := HEQ.out
            show _ ∧ _
            rw [HSN.out, HST.out]
            simp [e1, e2, g1, g2]
          go_roundg (l.length - (j + 1))
          case measure => omega
          case rel => exact ⟨j + 1, _, _, by go_num, by omega, Nat.le_refl _, by simp; omega, by simp; omega, HR, H1b, hid hB1b⟩
        · have HR : Hid (kl = ((l.take (j + 1)).filter (inR (ordI which) lo hi)).map Prod.fst ∧ vl = ((l.take (j + 1)).filter (inR (ordI which) lo hi)).map Prod.snd) := by
            obtain ⟨e1, e2⟩ := HEQ.out
            show _ ∧ _
            rw [HSN.out, HST.out]
            simp [e1, e2, g2]
          go_wp2_with fail
          go_roundg (l.length - (j + 1))
          case measure => omega
          case rel => exact ⟨j + 1, _, _, by go_num, by omega, Nat.le_refl _, by omega, by omega, HR, HT, hid hBr⟩
      · have HR : Hid (kl = ((l.take (j + 1)).filter (inR (ordI which) lo hi)).map Prod.fst ∧ vl = ((l.take (j + 1)).filter (inR (ordI which) lo hi)).map Prod.snd) := by
          obtain ⟨e1, e2⟩ := HEQ.out
          show _ ∧ _
          rw [HSN.out, HST.out]
          simp [e1, e2, g1]
        go_wp2_with fail
        go_roundg (l.length - (j + 1))
        case measure => omega
        case rel => exact ⟨j + 1, _, _, by go_num, by omega, Nat.le_refl _, by omega, by omega, HR, HT, hid hBr⟩
    · have hji : ¬ (j : Int) < (l.length : Int) := by omega
      have HE : Hid ((l.take j).filter (inR (ordI which) lo hi) = l.filter (inR (ordI which) lo hi)) := by show _ = _; rw [List.take_of_length_le (by omega)]
      go_wp2_with fail
      refine bodyPost_ret (results_tmp2 rfl _ _ _) rfl ?_
      obtain ⟨g1, g2⟩ := HEQ.out
      rw [HE.out] at g1 g2
      subst g1
      subst g2
      exact ⟨_, _, rfl, by rw [← hSB]; exact HT.out, by rw [← hSB]; exact hBr⟩
end Go.Proofs.Ytfjeagffdijcoaa
