/- The walk of PlanFewest. -/
import Derived.Test.YtpkcccphoolapaaFew
import Derived.Test.YtpkcccphoolapaaTam
import Derived.Test.YtpkcccphoolapaaMvF
namespace Go.Proofs.Ytpkcccphoolapaa
open Go.RowKit

/-! ### rows of bools -/
def encB (b : Bool) : List Value := [.bool b]
abbrev OwnBools (w : World) (base : Nat) (v : Value) (n : Nat) (l : List Bool) : Prop := w.ownsRow base 4 1 v n (l.flatMap encB)
theorem infoBool : (Try.prog.info? 4).map (fun i => (i.zero, i.size, i.bytes)) = some (some (.bool false), 1, 1) := by kernel_rfl
theorem flatMap_encB (l : List Bool) : l.flatMap encB = l.map Value.bool := by
  induction l with
  | nil => rfl
  | cons x r ih => rw [List.flatMap_cons, ih]; rfl
theorem OwnBools.at1 {w : World} {base g cap n : Nat} {l : List Bool} (h : OwnBools w base (.slice (some ⟨g, 0, none⟩) n cap) n l) (i : Nat) (x : Bool) (hx : l[i]? = some x) : w.cell? ⟨g, i, none⟩ = some (.bool x) := by
  have hc := h.cells (g := g) rfl i (.bool x) (by rw [flatMap_encB, List.getElem?_map, hx]; rfl)
  rw [addr_add, Nat.zero_add] at hc
  exact hc
theorem OwnBools.set {w : World} {base g cap n : Nat} {l : List Bool} (h : OwnBools w base (.slice (some ⟨g, 0, none⟩) n cap) n l) (i : Nat) (y : Bool) :
    OwnBools (w.setCell ⟨g, i, none⟩ (.bool y)) base (.slice (some ⟨g, 0, none⟩) n cap) n (l.set i y) := by
  obtain ⟨h1, _⟩ := h.stored i (.bool y)
  rw [flatMap_encB] at h1
  unfold OwnBools
  rw [flatMap_encB, List.map_set]
  exact h1
theorem makeBools_run (H : Nat) (hH : H ≤ 1000000) : ∀ W : World, (Instr.makeSlice 58 (.int .i64 (H : Int)) (.int .i64 (H : Int))).run Try.prog W = .ok (.slice (some ⟨W.heap.size, 0, none⟩) H H) (W.alloc (.cells (madeCells #[.bool false] H) 4)) := by
  intro W
  obtain ⟨i0, hi, hzz⟩ := Option.map_eq_some_iff.1 infoBool
  simp only [Prod.mk.injEq] at hzz
  obtain ⟨hz0, hz1, hz2⟩ := hzz
  have h := run_make (P := Try.prog) W 58 4 i0 _ Try.underlying58 hi hz0 .i64 .i64 H H (by omega) (by omega) (by rw [hz2]; omega) (by omega)
  rw [hz1] at h
  simp only [Int.toNat_natCast, Nat.mul_one] at h
  exact h
theorem makeBools_own (W : World) (H : Nat) (hH : H ≤ 1000000) (base : Nat) (hb : base ≤ W.heap.size) : OwnBools (W.alloc (.cells (madeCells #[.bool false] H) 4)) base (.slice (some ⟨W.heap.size, 0, none⟩) H H) H (List.replicate H false) := by
  have h := World.ownsRow_lit (e := 4) (size := 1) W (madeCells #[.bool false] H) H hb (by simp only [maxLen]; omega) (by rw [size_madeCells]; omega)
  rw [toList_madeCells_one] at h
  unfold OwnBools
  rw [flatMap_encB, List.map_replicate]
  exact h
theorem boolRange_set {n : Nat} (d : Nat → Bool) (i : Nat) (y : Bool) : ((List.range n).map d).set i y = (List.range n).map fun h => if h = i then y else d h := by
  apply List.ext_getElem?
  intro j
  by_cases hj : j < n
  · rw [List.getElem?_set, List.getElem?_map, List.getElem?_map, List.getElem?_range hj, Option.map_some, Option.map_some]
    by_cases e : i = j
    · subst e; rw [if_pos rfl, if_pos rfl, if_pos (by simp; omega)]
    · rw [if_neg e, if_neg (fun h => e h.symm)]
  · rw [List.getElem?_eq_none (by simp; omega), List.getElem?_eq_none (by simp; omega)]
theorem boolRange_get {n : Nat} (d : Nat → Bool) {i : Nat} (hi : i < n) : ((List.range n).map d)[i]? = some (d i) := by
  rw [List.getElem?_map, List.getElem?_range hi]; rfl

set_option maxRecDepth 100000 in
set_option maxHeartbeats 8000000 in
theorem planFewest_walk (w : World) (hosts : Int) (A : Option Addr) (n c : Nat) (l : List Seg) (A' : Option Addr) (n' c' : Nat) (ks : List Int) (most : Int) (_ : (Lit.int .i64 hosts).wf = true)
    (hl : l.length = n) (_ : n ≤ c) (_ : c ≤ maxLen) (hok : ∀ s ∈ l, okSeg s) (hbytes : n * 24 ≤ 140737488351232) (hR : Segs w.heap.size w A l)
    (hl' : ks.length = n') (_ : n' ≤ c') (_ : c' ≤ maxLen) (hks : ∀ x ∈ ks, (Lit.int .u64 x).wf = true) (hbytes' : n' * 8 ≤ 140737488351232) (hR' : Keys w.heap.size w A' ks) (_ : (Lit.int .i64 most).wf = true) :
    Calls Try.prog 8 #[.int .i64 hosts, .slice A n c, .slice A' n' c', .int .i64 most] w fun e w' => e = .returned (.bool true) ∧ Below w.heap.size w w' := by
  subst hl
  subst hl'
  have hu64 : ∀ k : Int, (Lit.int .u64 k).wf = true → 0 ≤ k ∧ k ≤ maxK := fun k this => by
    simp [Lit.wf, IntKind.min, IntKind.max, IntKind.signed, IntKind.bits] at this
    rw [maxK_eq]; omega
  have hks2 : ∀ k ∈ ks, 0 ≤ k ∧ k ≤ maxK := fun k hk => hu64 k (hks k hk)
  have hta := tamed_any w hosts A l.length c l A' ks.length c' ks rfl hbytes hok hR rfl hbytes' hR'
  have HTA := hid hta
  have HOK := hid hok
  have HKS := hid hks2
  clear hta hok hR hks hR' hks2 hu64
  go_enter Try.func8, Try.ntmps8
  go_wp2_with fail
  refine HTA.out.mono ?_
  rintro e w1 ⟨v1, v2, ok, rfl, hok1, hb1⟩
  cases ok with
  | false =>
    clear hok1
    go_wp2_with fail
    go_ret
    exact ⟨rfl, hb1⟩
  | true =>
  obtain ⟨H, rfl, h1, h2, hf, hn4, hk4, hos, hok2⟩ := hok1 rfl
  by_cases hH10 : (10 : Int) < (H : Int)
  · have b2 : decide ((H : Int) > 10) = true := by simpa using hH10
    have b2' : decide ((10 : Int) < (H : Int)) = true := by simpa using hH10
    have b2'' : decide (10 < H) = true := by simp; omega
    clear hos hok2 hok1 hf
    go_wp2_with fail
    go_ret
    exact ⟨rfl, hb1⟩
  have b2 : decide ((H : Int) > 10) = false := by simpa using hH10
  have b2' : decide ((10 : Int) < (H : Int)) = false := by simpa using hH10
  have b2'' : decide (10 < H) = false := by simp; omega
  by_cases hm1 : most < 1
  · have b3 : decide (most < 1) = true := by simpa using hm1
    clear hos hok2 hok1 hf
    go_wp2_with fail
    go_ret
    exact ⟨rfl, hb1⟩
  by_cases hm2 : 32 < most
  · have b3 : decide (most < 1) = false := by simpa using hm1
    have b4 : decide (most > 32) = true := by simpa using hm2
    have b4' : decide (32 < most) = true := by simpa using hm2
    clear hos hok2 hok1 hf hm1
    go_wp2_with fail
    go_ret
    exact ⟨rfl, hb1⟩
  have b3 : decide (most < 1) = false := by simpa using hm1
  have b4 : decide (most > 32) = false := by simpa using hm2
  have b4' : decide (32 < most) = false := by simpa using hm2
  obtain ⟨ms, L0, L', hfw⟩ := few_ok (most := most) h1 h2 (by omega) (by omega) HOK.out hf hn4 hk4 HKS.out
  obtain ⟨q, hev⟩ := hfw.ev
  have hsl : (tameS H l).length = l.length := by simp [tameS]
  obtain ⟨tk1, tk2, tk3⟩ := tameK_ok ks
  have hso := (tameS_ok h1 h2 HOK.out).1
  obtain ⟨_, A1, c1, rfl, _, _, hR1⟩ := owns_reads encSeg_len hos (by decide)
  obtain ⟨_, A2, c2, rfl, _, _, hR2⟩ := owns_reads encKey_len hok2 (by decide)
  have hkb : ∀ k ∈ tameK ks, 0 ≤ k ∧ k ≤ maxK := fun k hk => HKS.out k (tk2 k hk)
  generalize tameS H l = S at *
  generalize tameK ks = K at *
  have hct := countedT_any w1 H A1 S.length c1 S A2 K.length c2 K h2 rfl (by omega) hR1 hfw.tl hfw.hs rfl (by omega) hR2 hkb
  rw [hfw.cnt] at hct
  have HCT := hid hct
  have HEV := hid hev
  have HFW := hid hfw
  have HB1 := hid hb1
  have HR1 := hid hR1
  have HR2 := hid hR2
  have HSO := hid hso
  have HTK := hid tk1
  have HKB := hid hkb
  have hS4 : S.length ≤ 4096 := by omega
  have hK4 : K.length ≤ 4096 := by omega
  have hH10' : H ≤ 10 := by omega
  clear hct hev hfw hb1 hR1 hR2 hos hok2 hok1 hf hso tk1 tk2 hkb hn4 hk4 tk3 hsl hH10
  go_wp2_with fail
  refine HCT.out.mono ?_
  rintro e w2 ⟨v5, rfl, hown5, hb5⟩
  obtain ⟨_, A5, c5, rfl, _, _, hR5⟩ := owns_reads i64_len (l := countsOf H L0 K) (n := H) hown5 (by decide)
  have hmv := moves_any w2 (H : Int) A1 S.length c1 S A2 K.length c2 K most rfl (by omega) HSO.out ((HR1.out.below hb5).mono hb5.size) rfl (by omega) HKB.out ((HR2.out.below hb5).mono hb5.size)
  rw [HEV.out.mo] at hmv
  have HMV := hid hmv
  have HB5 := hid hb5
  have HR5 := hid hR5
  clear hmv hb5 hR5 hown5
  go_wp2_with fail
  refine HMV.out.mono ?_
  rintro e w3 ⟨v3, rfl, hown3, hb3⟩
  obtain ⟨_, A3, c3, rfl, _, _, hR3⟩ := owns_reads encMove_len hown3 (by decide)
  have hms4 := HEV.out.len
  have hnum := num_any
  have hB13 := HB5.out.trans (hb3.mono HB5.out.size)
  have HBW := hid (HB1.out.trans (hB13.mono HB1.out.size))
  have HR23 := hid ((HR2.out.below hB13).mono hB13.size)
  have HR53 := hid ((HR5.out.below hb3).mono hb3.size)
  have HR3 := hid hR3
  have hmk := makeBools_run K.length (by omega)
  obtain ⟨gb, hgb⟩ : ∃ gb, gb = w3.heap.size := ⟨_, rfl⟩
  obtain ⟨X3, hX3⟩ : ∃ X3, X3 = w3.alloc (.cells (madeCells #[.bool false] K.length) 4) := ⟨_, rfl⟩
  have HO3 : Hid (OwnBools X3 w3.heap.size (.slice (some ⟨gb, 0, none⟩) K.length K.length) K.length ((List.range K.length).map fun _ => false)) := by
    have h := makeBools_own w3 K.length (by omega) w3.heap.size (Nat.le_refl _)
    have e : (List.range K.length).map (fun _ => false) = List.replicate K.length false := by rw [List.map_const', List.length_range]
    rw [hX3, hgb, e]; exact hid h
  have HX3B : Hid (Below w3.heap.size w3 X3) := by rw [hX3]; exact hid ((Below.refl _ w3).alloc (Nat.le_refl _) _)
  have HX3 := hid hX3
  have HGB := hid hgb
  have HNB0 : Hid (NotBack H K (wantL H L0 K) L0 (fun _ => false)) := hid (fun _ _ _ _ h => by cases h)
  clear hR3 hown3 hb3 hB13 hX3 hgb
  go_wp2_with (go_at_call 16; refine (hnum _ _).mono ?_; rintro e w' ⟨rfl, rfl⟩)
  rw [← HX3.out, ← HGB.out]
  clear hmk
  go_loopg [16, 17] ms.length (fun gx sn si wr => ∃ (i : Nat) (T : List Seg) (gf : Nat → Bool) (sg : Nat), si = .int .i64 i ∧ sn = .int .i64 sg ∧ i ≤ ms.length ∧ ms.length - i ≤ gx ∧ sg + overSum H (overL K (wantL H L0 K) T) = overSum H (overL K (wantL H L0 K) L0) ∧ Hid (playL L0 (ms.take i) = (0, T)) ∧ Hid (NotBack H K (wantL H L0 K) T gf) ∧ Hid (OwnBools wr w3.heap.size (.slice (some ⟨gb, 0, none⟩) K.length K.length) K.length ((List.range K.length).map gf)) ∧ Hid (Below w3.heap.size w3 wr))
  case atStart => exact ⟨0, L0, _, 0, rfl, rfl, Nat.zero_le _, Nat.le_refl _, by omega, hid (by rw [List.take_zero]; rfl), HNB0, HO3, HX3B⟩
  case round =>
    obtain ⟨i, T, gf, sg, rfl, rfl, hi, hgx, hsg, HT, HN, HO, HB⟩ := hrel
    by_cases hlt : i < ms.length
    · have hii : (i : Int) < (ms.length : Int) := by omega
      have hi0 : (0 : Int) ≤ (i : Int) := by omega
      have hwi : IntKind.i64.wrap ((i : Int) + 1) = (i : Int) + 1 := wrap_small _ (by omega) (by omega)
      obtain ⟨T0, T', m, s, g, t, hst, hs⟩ := HFW.out.st i hlt
      obtain rfl : T = T0 := by have := HT.out.symm.trans hst.pl; injection this
      have hov := overSum_step hs
      have hg1 := (best_some hs.gi).1
      have ht1 := (best_some hs.ti).1
      have c4 := hs.cut.src
      have c5 := hs.cut.dst
      have c6 := hs.cut.one
      have c7 := hs.cut.most
      have c8 := hs.cut.cnt
      have hbt := cnt_between K hs.cut.le
      have hosl := overSum_le (H := H) (ks := K) (l := L0) (want := wantL H L0 K) (fun h => (target_range (counts_good h1 h2 (by omega)) h).1)
      obtain ⟨b, off, m0, hm0, rfl, hb, d0, d1, d2, d3, d4⟩ := Moves.at5 HR3.out i hlt
      obtain rfl : m = m0 := by have := hst.get.symm.trans hm0.out; injection this
      have HST := hid hst
      have HS := hid hs
      clear hst hs
      replace d0 := hid d0
      replace d1 := hid d1
      replace d2 := hid d2
      replace d3 := hid d3
      replace d4 := hid d4
      go_wp2_with fail
      go_loopg [18, 19] K.length (fun gx sn sx wr => ∃ (x : Nat) (gf' : Nat → Bool), sx = .int .i64 x ∧ sn = .int .i64 (((K.take x).countP (fun k => decide (m.lo ≤ k) && decide (k ≤ m.hi)) : Nat) : Int) ∧ x ≤ K.length ∧ K.length - x ≤ gx ∧ Hid (∀ j, x ≤ j → gf' j = gf j) ∧ Hid (∀ j key, K[j]? = some key → gf' j = true → gf j = true ∨ (m.lo ≤ key ∧ key ≤ m.hi)) ∧ Hid (OwnBools wr w3.heap.size (.slice (some ⟨gb, 0, none⟩) K.length K.length) K.length ((List.range K.length).map gf')) ∧ Hid (Below w3.heap.size w3 wr))
      case atStart => exact ⟨0, gf, rfl, rfl, Nat.zero_le _, Nat.le_refl _, hid (fun _ _ => rfl), hid (fun _ _ _ h => .inl h), HO, HB⟩
      case round =>
        obtain ⟨x, gf', rfl, rfl, hx, hgx', HG1, HG2, HO', HB'⟩ := hrel
        by_cases hlx : x < K.length
        · have hxx : (x : Int) < (K.length : Int) := by omega
          have hx0 : (0 : Int) ≤ (x : Int) := by omega
          have hwx : IntKind.i64.wrap ((x : Int) + 1) = (x : Int) + 1 := wrap_small _ (by omega) (by omega)
          obtain ⟨bk, ok, key, hk, rfl, hbk, ck⟩ := Keys.at1 HR23.out x hlx
          replace ck := Tfact HB'.out (a := ⟨bk, _, none⟩) hbk ck
          have e2 := Tfact HB'.out (a := ⟨b, _, none⟩) hb d2.out
          have e3 := Tfact HB'.out (a := ⟨b, _, none⟩) hb d3.out
          have hct : (K.take (x + 1)).countP (fun k => decide (m.lo ≤ k) && decide (k ≤ m.hi)) = (K.take x).countP (fun k => decide (m.lo ≤ k) && decide (k ≤ m.hi)) + if m.lo ≤ key ∧ key ≤ m.hi then 1 else 0 := by
            rw [List.take_add_one, hk.out, Option.toList_some, List.countP_append, List.countP_cons, List.countP_nil]
            by_cases h : m.lo ≤ key ∧ key ≤ m.hi
            · rw [if_pos h]; simp [h.1, h.2]
            · rw [if_neg h]
              have : (decide (m.lo ≤ key) && decide (key ≤ m.hi)) = false := by simp; omega
              simp [this]
          have hcl : (K.take x).countP (fun k => decide (m.lo ≤ k) && decide (k ≤ m.hi)) ≤ 4096 := Nat.le_trans List.countP_le_length (by simp; omega)
          have HCT := hid hct
          clear hct
          by_cases hlo : m.lo ≤ key
          · have f1 : decide (key ≥ m.lo) = true := by simpa using hlo
            have f1' : decide (m.lo ≤ key) = true := by simpa using hlo
            by_cases hhi : key ≤ m.hi
            · have f2 : decide (key ≤ m.hi) = true := by simpa using hhi
              have hct := HCT.out
              rw [if_pos ⟨hlo, hhi⟩] at hct
              have HCT' := hid hct
              have hgf : gf' x = false := by
                rw [HG1.out x (Nat.le_refl _)]
                exact HN.out.in HST.out.ok HS.out hk.out hlo hhi
              have cgv := OwnBools.at1 HO'.out x (gf' x) (boolRange_get gf' hlx)
              rw [hgf] at cgv
              have fgv := HO'.out.frozenAt x
              have hst := OwnBools.set HO'.out x true
              rw [boolRange_set] at hst
              have HSET := hid hst
              have HG1' : Hid (∀ j, x + 1 ≤ j → (if j = x then true else gf' j) = gf j) := hid (fun j hj => by rw [if_neg (by omega)]; exact HG1.out j (by omega))
              have HG2' : Hid (∀ j k, K[j]? = some k → (if j = x then true else gf' j) = true → gf j = true ∨ (m.lo ≤ k ∧ k ≤ m.hi)) := hid (fun j k hj h => by
                by_cases e : j = x
                · subst e
                  rw [hk.out] at hj; injection hj with hj; subst hj
                  exact .inr ⟨hlo, hhi⟩
                · rw [if_neg e] at h; exact HG2.out j k hj h)
              have hwn : IntKind.i64.wrap ((((K.take x).countP (fun k => decide (m.lo ≤ k) && decide (k ≤ m.hi)) : Nat) : Int) + 1) = (((K.take (x + 1)).countP (fun k => decide (m.lo ≤ k) && decide (k ≤ m.hi)) : Nat) : Int) := by rw [hct, IntWalk.i64_in _ ⟨by omega, by omega⟩]; omega
              clear hct hst hgf hlo hhi HCT
              have hgbs : w3.heap.size ≤ gb := by rw [HGB.out]; exact Nat.le_refl _
              generalize hcx : (K.take x).countP (fun k => decide (m.lo ≤ k) && decide (k ≤ m.hi)) = cx at *
              generalize hcy : (K.take (x + 1)).countP (fun k => decide (m.lo ≤ k) && decide (k ≤ m.hi)) = cy at *
              have HCY := hid hcy
              clear hcx hcy
              go_wp2_with fail
              go_quiet (fail)
              go_wp2_with fail
              go_roundg (K.length - (x + 1))
              case measure => omega
              case rel => exact ⟨x + 1, _, by go_num, by rw [HCY.out], hlx, Nat.le_refl _, HG1', HG2', HSET, hid (below_drewN' (HB'.out.setCell (p := ⟨gb, x, none⟩) hgbs _) _)⟩
            · have f2 : decide (key ≤ m.hi) = false := by simpa using hhi
              have hct := HCT.out
              rw [if_neg (fun h => hhi h.2), Nat.add_zero] at hct
              have HCT' := hid hct
              clear hct hlo hhi HCT
              go_wp2_with fail
              go_quiet (fail)
              go_wp2_with fail
              go_roundg (K.length - (x + 1))
              case measure => omega
              case rel => exact ⟨x + 1, gf', by go_num, (by rw [HCT'.out]; rfl), hlx, Nat.le_refl _, hid (fun j hj => HG1.out j (by omega)), HG2, HO', hid (below_drewN' HB'.out _)⟩
          · have f1 : decide (key ≥ m.lo) = false := by simpa using hlo
            have f1' : decide (m.lo ≤ key) = false := by simpa using hlo
            have hct := HCT.out
            rw [if_neg (fun h => hlo h.1), Nat.add_zero] at hct
            have HCT' := hid hct
            clear hct hlo HCT
            go_wp2_with fail
            go_quiet (fail)
            go_wp2_with fail
            go_roundg (K.length - (x + 1))
            case measure => omega
            case rel => exact ⟨x + 1, gf', by go_num, (by rw [HCT'.out]; rfl), hlx, Nat.le_refl _, hid (fun j hj => HG1.out j (by omega)), HG2, HO', hid (below_drewN' HB'.out _)⟩
        · obtain rfl : x = K.length := by omega
          have hxx : ¬ (K.length : Int) < (K.length : Int) := by omega
          have hcn : ((((K.take K.length).countP (fun k => decide (m.lo ≤ k) && decide (k ≤ m.hi)) : Nat) : Int)) = m.pairs := by rw [List.take_length]; omega
          rw [hcn]
          have e0 := Tfact HB'.out (a := ⟨b, _, none⟩) hb d0.out
          have e1 := Tfact HB'.out (a := ⟨b, _, none⟩) hb d1.out
          have e4 := Tfact HB'.out (a := ⟨b, _, none⟩) hb d4.out
          have f1 : (m.pairs != m.pairs) = false := by simp
          have f2 : decide (m.pairs < 1) = false := by simp; omega
          have f3 : decide (m.pairs > most) = false := by simp; omega
          have f3' : decide (most < m.pairs) = false := by simp; omega
          have hws : IntKind.i64.wrap m.src = m.src := wrap_small _ (by omega) (by omega)
          have hwd : IntKind.i64.wrap m.dst = m.dst := wrap_small _ (by omega) (by omega)
          have f4 : decide (m.src ≥ (H : Int)) = false := by simp; omega
          have f4' : decide ((H : Int) ≤ m.src) = false := by simp; omega
          have f5 : decide (m.dst ≥ (H : Int)) = false := by simp; omega
          have f5' : decide ((H : Int) ≤ m.dst) = false := by simp; omega
          have hwsum : IntKind.i64.wrap ((sg : Int) + m.pairs) = (((sg + m.pairs.toNat : Nat)) : Int) := by rw [IntWalk.i64_in _ ⟨by omega, by omega⟩]; omega
          have hsg' : sg + m.pairs.toNat + overSum H (overL K (wantL H L0 K) T') = overSum H (overL K (wantL H L0 K) L0) := by omega
          have HNB := hid (HN.out.step h2 HST.out.ok HS.out HKB.out HG2.out)
          have HPL := hid HST.out.pl'
          clear hcn hbt c4 c5 c6 c7 c8 hov
          go_wp2_with fail
          go_roundg (ms.length - (i + 1))
          case measure => omega
          case rel => exact ⟨i + 1, T', gf', sg + m.pairs.toNat, by go_num, by first | rfl | go_num, hlt, Nat.le_refl _, hsg', HPL, HNB, HO', HB'⟩
    · obtain rfl : i = ms.length := by omega
      have hii : ¬ (ms.length : Int) < (ms.length : Int) := by omega
      obtain rfl : T = L' := by
        have e1 := HT.out
        rw [List.take_length, HFW.out.pl] at e1
        injection e1 with _ e1; exact e1.symm
      rw [overSum_zero (fun k hk => by rw [HFW.out.done k hk]; exact Int.le_refl _), Nat.add_zero] at hsg
      have hcl : (countsOf H L0 K).length = H := countsOf_len ..
      have hsm : (countsOf H L0 K).sum = (K.length : Int) := counts_sum HFW.out.tab HKB.out
      have hrng := counts_le (H := H) (l := L0) (ks := K) hK4
      have hfew := over_few (l := countsOf H L0 K) (by omega) (by omega) hrng
      rw [hcl, hsm] at hfew
      have hsgv : (sg : Int) = fewL ((K.length : Int) / (H : Int)) (countsOf H L0 K) ((K.length : Int) % (H : Int)).toNat := by
        rw [← hfew, hsg]
        congr 1
        unfold overSum
        congr 1
        refine List.map_congr_left fun h hh => ?_
        have hhH : h < H := List.mem_range.1 hh
        show (overL K (wantL H L0 K) L0 h).toNat = ((countsOf H L0 K)[h]?.getD 0 - targetL (countsOf H L0 K) h).toNat
        rw [countsOf_get hhH]
        rfl
      have hq0 : 0 ≤ (K.length : Int) / (H : Int) := Int.ediv_nonneg (by omega) (by omega)
      have hq1 : (K.length : Int) / (H : Int) ≤ 4096 := by
        have := Int.ediv_le_self (H : Int) (show (0 : Int) ≤ (K.length : Int) by omega)
        omega
      have hr0 := Int.emod_nonneg (K.length : Int) (show (H : Int) ≠ 0 by omega)
      have hr1 := Int.emod_lt_of_pos (K.length : Int) (show (0 : Int) < (H : Int) by omega)
      have hfe := fun q : Nat => fewest_any (wr.drewN q) wr.heap.size A5 H c5 (countsOf H L0 K) ((K.length : Int) / (H : Int)) hcl (by omega) (((HR53.out.below HB.out).mono HB.out.size).drewN q) hrng hq0 (by omega) H 0 ((K.length : Int) % (H : Int)).toNat (by omega) (by omega)
      rw [List.drop_zero, ← hsgv] at hfe
      have HFE : Hid (∀ (q : Nat) (x y z : Int), x = 0 → y = (K.length : Int) / (H : Int) → z = (K.length : Int) % (H : Int) → Calls Try.prog 30 #[.slice A5 H c5, .int .i64 x, .int .i64 y, .int .i64 z] (wr.drewN q) fun e w' => e = .returned (.int .i64 (sg : Int)) ∧ w' = wr.drewN q) := hid (by
        rintro q x y z rfl rfl rfl
        have := hfe q
        rw [show ((((K.length : Int) % (H : Int)).toNat : Nat) : Int) = (K.length : Int) % (H : Int) by omega] at this
        exact this)
      have hHne : ((H : Int) == 0) = false := by rw [beq_eq_false_iff_ne]; omega
      have hHne' : (H : Int) ≠ 0 := by omega
      have hHn : H ≠ 0 := by omega
      have hHn' : (H == 0) = false := by rw [beq_eq_false_iff_ne]; omega
      have HBF := hid (HBW.out.trans (HB.out.mono HBW.out.size))
      clear hfe hsgv hfew hrng hsm hcl hr0 hr1 hsg
      have hss : ((sg : Int) == (sg : Int)) = true := by simp
      go_wp2_with fail
      go_still_tail 9, (by kernel_rfl)
      change wpList _ _ _ _ _ (World.drew wr)
      go_wp2_with fail
      refine (HFE.out 1 _ _ _ (Eq.refl _) (Eq.refl _) (Eq.refl _)).mono ?_
      clear HFE
      rintro e w5 ⟨rfl, rfl⟩
      go_wp2_with fail
      go_ret
      exact ⟨rfl, below_drewN' HBF.out 1⟩
end Go.Proofs.Ytpkcccphoolapaa
