/- Layer 7: the walk of StoreMoves. -/
import Derived.Test.YtfjeagffdijcoaaMvX
import Derived.Test.YtfjeagffdijcoaaOpen
namespace Go.Proofs.Ytfjeagffdijcoaa
open Go.RowKit Go.Shelf

structure MvArg where
  lo : Int
  hi : Int
  back : Bool
def encMv (m : MvArg) : List Value := [.int .u64 m.lo, .int .u64 m.hi, .bool m.back]
def okMv (m : MvArg) : Prop := (0 ≤ m.lo ∧ m.lo ≤ 18446744073709551615) ∧ 0 ≤ m.hi ∧ m.hi ≤ 18446744073709551615
theorem infoIntM : (Try.prog.info? 3).map (fun i => (i.zero, i.size, i.bytes)) = some (some (.int .i64 0), 1, 8) := by kernel_rfl
theorem i64_lenM (x : Int) : (i64 x).length = 1 := rfl
theorem i64_oneM (x : Int) : ∀ u ∈ i64 x, u.oneCell' = true := by intro u hu; simp [i64] at hu; subst hu; rfl

theorem MvSt.append {w wr w' : World} {Sa Sb : Nat} {most : Int} {Pa Pb : Nat → Prop} {La Lb : List (Int × List Int)} {lv v1 : Value} {last : List Nat} {i : Nat} (h : MvSt w wr Sa Sb most Pa Pb La Lb lv last)
    (hown : w'.ownsRow w.heap.size 3 1 v1 ((last.map fun (j : Nat) => (j : Int)) ++ [(i : Int)]).length (((last.map fun (j : Nat) => (j : Int)) ++ [(i : Int)]).flatMap i64)) (hg : wr.grownBy w' lv.ownBlock) (hb : v1.ownBlock = lv.ownBlock ∨ ∃ b, v1.ownBlock = some b ∧ wr.heap.size ≤ b) :
    ∃ lA lc, v1 = .slice lA (last ++ [i]).length lc ∧ MvSt w w' Sa Sb most Pa Pb La Lb (.slice lA (last ++ [i]).length lc) (last ++ [i]) := by
  obtain ⟨_, lA, lc, rfl, _, _, _⟩ := owns_reads i64_lenM hown (by decide)
  have e : ((last.map fun (j : Nat) => (j : Int)) ++ [(i : Int)]).length = (last ++ [i]).length := by simp
  rw [e] at hown hb ⊢
  refine ⟨lA, lc, rfl, h.list ?_ hg hb⟩
  have e2 : ((last ++ [i]).map fun (j : Nat) => (j : Int)) = (last.map fun (j : Nat) => (j : Int)) ++ [(i : Int)] := by simp
  rw [e2]; exact hown
theorem MvSt.rowI {w wr : World} {Sa Sb : Nat} {most : Int} {Pa Pb : Nat → Prop} {La Lb : List (Int × List Int)} {lv : Value} {last : List Nat} (h : MvSt w wr Sa Sb most Pa Pb La Lb lv last) :
    wr.ownsRow w.heap.size 3 1 lv (last.map fun (j : Nat) => (j : Int)).length ((last.map fun (j : Nat) => (j : Int)).flatMap i64) := by rw [List.length_map]; exact h.row
theorem MvSt.at' {w wr : World} {Sa Sb : Nat} {most : Int} {Pa Pb : Nat → Prop} {La Lb : List (Int × List Int)} {lA : Option Addr} {lc m : Nat} {last : List Nat} (h : MvSt w wr Sa Sb most Pa Pb La Lb (.slice lA m lc) last) {k : Nat} (hk : k < last.length) :
    ∃ g, lA = some ⟨g, 0, none⟩ ∧ wr.cell? ⟨g, k, none⟩ = some (.int .i64 (last[k] : Nat)) ∧ wr.frozen? ⟨g, k, none⟩ = false := by
  rcases h.row.2 with ⟨_, h0⟩ | ⟨g, cap, cur, e, _⟩
  · omega
  · have e1 : lA = some ⟨g, 0, none⟩ ∧ m = last.length ∧ lc = cap := by
      injection e with e1 e2 e3; exact ⟨e1, e2, e3⟩
    obtain ⟨rfl, rfl, rfl⟩ := e1
    refine ⟨g, rfl, ?_, h.row.frozenAt k⟩
    have hx : ((last.map fun (j : Nat) => (j : Int)).flatMap i64)[k]? = some (.int .i64 (last[k] : Nat)) := by
      have := flatMap_get i64_lenM (last.map fun (j : Nat) => (j : Int)) k (last[k] : Nat) (by simp [List.getElem?_eq_getElem hk]) 0 _ rfl
      simpa using this
    have := h.row.cells (g := g) rfl k _ hx
    rw [addr_add] at this
    simpa using this
theorem MvSt.put {w wr : World} {Sa Sb : Nat} {most : Int} {Pa Pb : Nat → Prop} {La Lb : List (Int × List Int)} {g lc m : Nat} {last : List Nat} (h : MvSt w wr Sa Sb most Pa Pb La Lb (.slice (some ⟨g, 0, none⟩) m lc) last) (k : Nat) (i : Nat) (hm : m = last.length) :
    MvSt w (wr.setCell ⟨g, k, none⟩ (.int .i64 i)) Sa Sb most Pa Pb La Lb (.slice (some ⟨g, 0, none⟩) m lc) (last.set k i) := by
  subst hm
  obtain ⟨h1, h2⟩ := h.row.stored k (.int .i64 (i : Nat))
  refine h.list ?_ h2 (.inl rfl)
  rw [List.length_set]
  have e : ((last.set k i).map fun (j : Nat) => (j : Int)).flatMap i64 = ((last.map fun (j : Nat) => (j : Int)).flatMap i64).set k (.int .i64 (i : Nat)) := by
    have e0 : ∀ l : List Int, l.flatMap i64 = l.map (Value.int .i64) := fun l => by
      induction l with
      | nil => rfl
      | cons x l ih => rw [List.flatMap_cons, ih]; rfl
    rw [e0, e0, List.map_set, List.map_set]
  rw [e]
  exact h1

theorem take_turn {α : Type} (f : α → α) (l : List α) (k : Nat) (hk : k < l.length) : ((l.take k).map f ++ l.drop k)[k]'(by simp; omega) = l[k] := by
  rw [List.getElem_append_right (by simp; omega)]
  simp only [List.getElem_drop, List.length_map, List.length_take]
  congr 1
  omega
theorem take_turn_set {α : Type} (f : α → α) (l : List α) (k : Nat) (hk : k < l.length) : ((l.take k).map f ++ l.drop k).set k (f l[k]) = (l.take (k + 1)).map f ++ l.drop (k + 1) := by
  have e : l.take (k + 1) = l.take k ++ [l[k]] := by rw [List.take_add_one, List.getElem?_eq_getElem hk]; rfl
  rw [e, List.map_append, List.set_append_right _ _ (by simp; omega)]
  have : k - ((l.take k).map f).length = 0 := by simp; omega
  rw [this]
  have e2 := List.drop_eq_getElem_cons hk
  rw [e2, List.append_assoc]
  rfl
theorem take_turn_len {α : Type} (f : α → α) (l : List α) (k : Nat) : ((l.take k).map f ++ l.drop k).length = l.length := by simp; omega

/-- the three calls of a move -/
theorem mv_go {w wr : World} {Sf St : Nat} {n : Nat} {Pf Pt : Nat → Prop} {Lf Lt : List (Int × List Int)} {lv : Value} {last : List Nat} {keys : List Int} (lo hi : Int) (h : MvSt w wr Sf St n Pf Pt Lf Lt lv last) (h2 : MvTwo keys last Lf Lt) (hn : last.length ≤ n) :
    (∀ q, Calls Try.prog 68 #[.pointer (some ⟨Sf, 0, none⟩), .int .u64 lo, .int .u64 hi] (wr.drewN q) fun e w' => ∃ A c, e = .returned (.tuple #[.slice A (Lf.filter (inR TI.cmpI lo hi)).length c, .int .i64 (if lo ≤ hi then 0 else 74)]) ∧
      Hid (PairsAt w' wr.heap.size (.slice A (Lf.filter (inR TI.cmpI lo hi)).length c) (Lf.filter (inR TI.cmpI lo hi))) ∧ Hid (MvSt w w' Sf St n Pf Pt (Lf.filter fun p => !inR TI.cmpI lo hi p) Lt lv last)) ∧
    (∀ w1 A c, PairsAt w1 wr.heap.size (.slice A (Lf.filter (inR TI.cmpI lo hi)).length c) (Lf.filter (inR TI.cmpI lo hi)) → MvSt w w1 Sf St n Pf Pt (Lf.filter fun p => !inR TI.cmpI lo hi p) Lt lv last →
      Calls Try.prog 69 #[.pointer (some ⟨St, 0, none⟩), .slice A (Lf.filter (inR TI.cmpI lo hi)).length c] w1 fun e w' => e = .returned (.int .i64 0) ∧ ∃ Pt', Hid (MvSt w w' Sf St n Pf Pt' (Lf.filter fun p => !inR TI.cmpI lo hi p) (putAll (Lf.filter (inR TI.cmpI lo hi)) Lt) lv last)) ∧
    (∀ w2 Pt', MvSt w w2 Sf St n Pf Pt' (Lf.filter fun p => !inR TI.cmpI lo hi p) (putAll (Lf.filter (inR TI.cmpI lo hi)) Lt) lv last → ∀ q, Calls Try.prog 62 #[.pointer (some ⟨Sf, 0, none⟩), .int .u64 lo, .int .u64 hi] (w2.drewN q) fun e w' => e = .returned (.int .i64 0) ∧ ∃ q', w' = (w2.drewN q).drewN q') ∧
    MvTwo keys last (Lf.filter fun p => !inR TI.cmpI lo hi p) (putAll (Lf.filter (inR TI.cmpI lo hi)) Lt) := by
  have hres : ∀ res, LayOut n Lt (Lf.filter (inR TI.cmpI lo hi)) res → _ := fun res hr => h2.go lo hi (n : Nat) (by omega) hr
  refine ⟨fun q => ?_, fun w1 A c hp hm => ?_, fun w2 Pt' hm q => ?_, ?_⟩
  · refine (shCut_all (wr.drewN q) Sf n Pf Lf lo hi (h.a.drewN q)).mono ?_
    rintro e w' ⟨v, rfl, hp, hs, hw⟩
    obtain ⟨A, c, rfl, _⟩ := hp.slice
    exact ⟨A, c, rfl, hid hp, hid ((h.drewN q).call hs hw (fun x hx => .inl hx))⟩
  · have hlt : ∀ x, Pt x → x < wr.heap.size := h.b.lt
    have hfew := h.a.few
    have hl := List.length_filter_le (inR TI.cmpI lo hi) Lf
    refine (shLay_any w1 St n Pt Lt (Lf.filter (inR TI.cmpI lo hi)) wr.heap.size _ hm.b hp hlt (by omega) (fun p hp => (h.a.small p (List.mem_filter.1 hp).1).2)).mono ?_
    rintro e w' ⟨res, rfl, hr, hs, hw⟩
    obtain ⟨rfl, _, _⟩ := hres res hr
    rw [if_pos rfl] at hs
    exact ⟨rfl, _, hid (hm.swap.call hs hw (fun x hx => hx.imp id fun h => h.1)).swap⟩
  · have := shCount_any (w2.drewN q) Sf n Pf _ lo hi (hm.a.drewN q)
    have e : ((Lf.filter fun p => !inR TI.cmpI lo hi p).filter (inR TI.cmpI lo hi)).length = 0 := by
      rw [List.filter_filter, List.length_eq_zero_iff, List.filter_eq_nil_iff]
      intro p _; simp
    rw [e] at this
    exact this
  · obtain ⟨_, h3, _⟩ := h2.go lo hi (n : Nat) (by omega) (res := 0) (.inr (.inr (.inr (.inr ⟨ris_up (List.Pairwise.filter _ h2.ua), fun p hp => by have := h2.small p (List.mem_filter.1 hp).1; omega, fun p hp ht => by
        obtain ⟨v, hv⟩ := Option.isSome_iff_exists.1 ht
        exact h2.apart p.1 p.2 v (List.mem_filter.1 hp).1 ((getL_iff TI.cmpI_ord cmpI_tight h2.ub _ _).1 hv), by have := h2.len; have := List.length_filter_le (inR TI.cmpI lo hi) Lf; omega, rfl⟩))))
    exact h3

set_option maxRecDepth 100000 in
set_option maxHeartbeats 16000000 in
theorem storeMoves_walk (w : World) (A : Option Addr) (n c : Nat) (keys : List Int) (A' : Option Addr) (n' c' : Nat) (ms : List MvArg)
    (hl : keys.length = n) (_ : n ≤ c) (_ : c ≤ maxLen) (hok : ∀ x ∈ keys, (Lit.int .u64 x).wf = true) (hn : n * 8 ≤ 140737488351232) (hR : Reads w.heap.size w u6s 1 A keys)
    (hl' : ms.length = n') (_ : n' ≤ c') (_ : c' ≤ maxLen) (hok' : ∀ x ∈ ms, okMv x) (hn' : n' * 24 ≤ 140737488351232) (hR' : Reads w.heap.size w encMv 3 A' ms) :
    Calls Try.prog 14 #[.slice A n c, .slice A' n' c'] w fun e w' => e = .returned (.bool true) ∧ Below w.heap.size w w' := by
  have hn0 : (0 : Int) ≤ (n : Int) := by omega
  have hm1 : 0 ≤ (n : Int) % 30000 := by omega
  have hm2 : (n : Int) % 30000 ≤ 32768 := by omega
  have HR := hid hR
  have HR' := hid hR'
  have HL := hid hl
  have HL' := hid hl'
  have HOK := hid hok
  have HOK' := hid hok'
  clear hR hR' hl hl' hok hok'
  by_cases hbig : 30000 ≤ n
  · have b0 : decide ((n : Int) ≥ 30000) = true := by simp; omega
    have b1 : decide (30000 ≤ (n : Int)) = true := by simp; omega
    have b2 : decide (30000 ≤ n) = true := by simpa using hbig
    have hA := fun W => newShelf_any W _ hm1 hm2
    have HA := hid hA
    clear hA
    go_enter Try.func14, Try.ntmps14
    go_wp2_with fail
    refine (HA.out _).mono ?_
    rintro e w1 ⟨S1, rfl, _, hb1⟩
    go_wp2_with fail
    refine (HA.out _).mono ?_
    rintro e w2 ⟨S2, rfl, _, hb2⟩
    go_wp2_with fail
    go_ret
    exact ⟨rfl, hb1.trans (hb2.mono hb1.size)⟩
  · have b0 : decide ((n : Int) ≥ 30000) = false := by simp; omega
    have b1 : decide (30000 ≤ (n : Int)) = false := by simp; omega
    have b2 : decide (30000 ≤ n) = false := by simpa using hbig
    have hA := fun W => newShelf_any W (n : Int) hn0 (by omega)
    have hmod : (n : Int) % 30000 = (n : Int) := by omega
    have hnb : n < 30000 := by omega
    have HA := hid hA
    clear hA hbig hm1 hm2
    go_enter Try.func14, Try.ntmps14
    go_wp2_with fail
    refine (HA.out _).mono ?_
    rintro e w1 ⟨S1, rfl, hs1, hb1⟩
    have HS1 := hid hs1
    have HB1 := hid hb1
    clear hs1 hb1
    go_wp2_with fail
    refine (HA.out _).mono ?_
    rintro e w2 ⟨S2, rfl, hs2, hb2⟩
    have hst : MvSt w w2 S1 S2 n (fun x => w.heap.size ≤ x ∧ x < w1.heap.size) (fun x => w1.heap.size ≤ x ∧ x < w2.heap.size) [] [] (.slice none 0 0) [] :=
      ⟨HS1.out.below hb2, hs2, fun x h1 h2 => by omega, fun x h => h.1, fun x h => by have := HB1.out.size; omega, fun g e => (by cases e), World.ownsRow_nil _ _ _ _, HB1.out.trans (hb2.mono HB1.out.size)⟩
    have HST := hid hst
    clear hst hs2 hb2 HS1 HB1 HA hmod
    go_wp2_with fail
    go_loopg [9, 10] n (fun gx sl si wr => ∃ (i : Nat) (last : List Nat) (lA : Option Addr) (lc : Nat) (La : List (Int × List Int)) (Pa Pb : Nat → Prop), si = .int .i64 i ∧ i ≤ n ∧ n - i ≤ gx ∧ sl = .slice lA last.length lc ∧ Hid (MvSt w wr S1 S2 n Pa Pb La [] (.slice lA last.length lc) last) ∧ Hid (MvInv keys i last La))
    case atStart => exact ⟨0, [], none, 0, [], _, _, rfl, Nat.zero_le _, Nat.le_refl _, rfl, HST, hid (MvInv.start keys)⟩
    case round =>
      clear HST
      obtain ⟨i, last, lA, lc, La, Pa, Pb, rfl, hi, hg, rfl, HS, HI⟩ := hrel
      by_cases hlt : i < n
      · have hii : (i : Int) < (n : Int) := by omega
        have hi0 : (0 : Int) ≤ (i : Int) := by omega
        have hwi : IntKind.i64.wrap ((i : Int) + 1) = (i : Int) + 1 := wrap_small _ (by omega) (by omega)
        have hRr : U64s wr.heap.size wr A keys := (HR.out.below HS.out.bel).mono HS.out.bel.size
        obtain ⟨b, off, rfl, hb, hc⟩ := hRr.at' i (by have := HL.out; omega)
        have hval := valueOf_any wr.drew (some ⟨b, off, none⟩) n c keys i HL.out hlt (by omega) hRr
        have hW : Below wr.heap.size wr (wr.drew.alloc (.cells #[.int .u8 ((i : Int) % 256), .int .u8 ((i : Int) / 256 % 256), .int .u8 (keys.getD i 0 % 256)] 5)) := (below_drewN' (Below.refl _ wr) 1).alloc (Nat.le_refl _) _
        have hkx : 0 ≤ keys.getD i 0 ∧ keys.getD i 0 ≤ 18446744073709551615 := by
          have hi' : i < keys.length := by have := HL.out; omega
          rw [List.getD_eq_getElem?_getD, List.getElem?_eq_getElem hi']
          exact wf_u64 (HOK.out _ (List.getElem_mem hi'))
        have hset := shSet_ok (wr.drew.alloc (.cells #[.int .u8 ((i : Int) % 256), .int .u8 ((i : Int) / 256 % 256), .int .u8 (keys.getD i 0 % 256)] 5)) S1 n Pa La (some ⟨wr.heap.size, 0, none⟩) 3 3 (keys.getD i 0) (valL keys i) (HS.out.a.below hW) rfl (by omega)
          (.inr (by have := HI.out.len; have := HI.out.few; omega)) (fun e => by cases e) (val_reads wr.drew keys i _ (by simp)) (valL_byte keys i) hkx
        have hafter := fun w3 h1 h2 => (HS.out.below hW).call (w' := w3) (La' := putL TI.cmpI (keys.getD i 0) (valL keys i) La) (Pa' := Grown Pa (wr.drew.alloc (.cells #[.int .u8 ((i : Int) % 256), .int .u8 ((i : Int) / 256 % 256), .int .u8 (keys.getD i 0 % 256)] 5)) w3) h1 h2 (fun x hx => hx.imp id fun h => h.1)
        have hidx : ∀ j, j ∈ last → j < i := HI.out.lt
        have hnew := fun h => HI.out.isNew HS.out.a.up h
        have hagain := fun h => HI.out.again HS.out.a.up h
        have HV := hid hval
        have HSET := hid hset
        have HAF := hid hafter
        have HNEW := hid hnew
        have HAGAIN := hid hagain
        have HLT := hid hidx
        have HC := hid hc
        have hln : last.length ≤ i := HI.out.few
        have hkb := hid (show ∀ w3, Wrote Pa (wr.drew.alloc (.cells #[.int .u8 ((i : Int) % 256), .int .u8 ((i : Int) / 256 % 256), .int .u8 (keys.getD i 0 % 256)] 5)) w3 → w3.cell? ⟨b, off + i, none⟩ = some (.int .u64 (keys.getD i 0)) from fun w3 hw => hw.cell (p := ⟨b, off + i, none⟩) (fun hp => by have := HS.out.wa b hp; have := HR.out; rcases HR.out with h0 | ⟨b', off', e1, e2, _⟩
                                                                                                                                                                                                                                                                                                              · have := HL.out; rw [h0] at this; simp at this; omega
                                                                                                                                                                                                                                                                                                              · cases e1; omega) ((hW.cell (p := ⟨b, off + i, none⟩) hb).trans hc))
        clear hval hset hafter hnew hagain hidx hRr hkx
        generalize hkx : keys.getD i 0 = kx at *
        obtain ⟨had, hhad⟩ : ∃ had, (getL TI.cmpI kx La).isSome = had := ⟨_, rfl⟩
        rw [hhad] at HSET HNEW HAGAIN
        clear hhad
        go_wp2_with fail
        go_region_held3 (fun w' => w'.cell? ⟨b, off + i, none⟩ = some (.int .u64 kx)) (first | assumption | go_keep)
          (first
          | (go_at_call 67; refine HV.out.mono ?_; rintro e w3 ⟨rfl, rfl⟩)
          | (go_at_call 38; refine HSET.out.mono ?_; rintro e w3 ⟨rfl, h1, h2⟩; have HM := hid (HAF.out w3 h1 h2); have hc3 := hkb.out w3 h2; clear h1 h2))
        all_goals
          cases had with
          | false =>
            have HO := hid HM.out.rowI
            go_wp2_with (at_builtin; refine wpList_append_one (enc := i64) w3 w.heap.size rfl _ _ 31 3 _ 8 rfl Try.underlying31 infoIntM rfl (by decide) i64_lenM i64_oneM (.slice lA last.length lc) (last.map fun (j : Nat) => (j : Int)) (i : Int) _ rfl rfl _ rfl rfl HO.out (by simp only [List.length_map, maxLen]; omega) (by rw [List.length_map]; omega) HM.out.bel.size ?_; intro v1 w4 hown hg hat; obtain ⟨lA', lc', rfl, hM4⟩ := HM.out.append hown hg hat; have HM4 := hid hM4; clear hown hg hat hM4)
            go_roundg (n - (i + 1))
            case measure => omega
            case rel => exact ⟨i + 1, last ++ [i], lA', lc', _, _, _, by go_num, hlt, Nat.le_refl _, by simp, HM4, hid (HNEW.out trivial)⟩
          | true =>
            go_wp2_with fail
            go_loopg [13] last.length (fun gy sk wy => ∃ k : Nat, sk = .int .i64 k ∧ k ≤ last.length ∧ last.length - k ≤ gy ∧ ∃ Px, Hid (MvSt w wy S1 S2 n Px Pb (putL TI.cmpI kx (valL keys i) La) [] (.slice lA last.length lc) ((last.take k).map (turnTo keys i) ++ last.drop k)))
            case atStart => exact ⟨0, rfl, Nat.zero_le _, Nat.le_refl _, _, by simpa using HM⟩
            case round =>
              clear HM
              obtain ⟨k, rfl, hk, hgy, Px, HM⟩ := hrel
              by_cases hkl : k < last.length
              · have hkk : (k : Int) < (last.length : Int) := by omega
                have hk0 : (0 : Int) ≤ (k : Int) := by omega
                have hwk : IntKind.i64.wrap ((k : Int) + 1) = (k : Int) + 1 := wrap_small _ (by omega) (by omega)
                obtain ⟨g, rfl, hcg, hfg⟩ := HM.out.at' (k := k) (by rw [take_turn_len]; exact hkl)
                rw [take_turn _ _ _ hkl] at hcg
                have hjl : last[k] < i := HLT.out _ (List.getElem_mem hkl)
                obtain ⟨j, hj⟩ : ∃ j, last[k] = j := ⟨_, rfl⟩
                rw [hj] at hcg hjl
                have hj0 : (0 : Int) ≤ (j : Int) := by omega
                have hjn : (j : Int) < (n : Int) := by omega
                have hRy : U64s wr.heap.size wr (some ⟨b, off, none⟩) keys := (HR.out.below HM.out.bel).mono HM.out.bel.size
                obtain ⟨b', off', e', hb', hcj⟩ := hRy.at' j (by have := HL.out; omega)
                obtain ⟨b'', off'', e'', hb'', hci⟩ := hRy.at' i (by have := HL.out; omega)
                obtain ⟨rfl, rfl⟩ : b = b' ∧ off = off' := by injection e' with e; injection e with e1 e2; exact ⟨e1, e2⟩
                obtain ⟨rfl, rfl⟩ : b = b'' ∧ off = off'' := by injection e'' with e; injection e with e1 e2; exact ⟨e1, e2⟩
                rw [hkx] at hci
                have hset := take_turn_set (turnTo keys i) last k hkl
                rw [hj] at hset
                have hnq := fun nq => (HM.out.drewN nq).put k i (by rw [take_turn_len])
                by_cases heq : keys.getD j 0 = kx
                · have b3 : (keys.getD j 0 == kx) = true := by simpa using heq
                  have ht : turnTo keys i j = i := by unfold turnTo; rw [hkx, if_pos heq]
                  rw [ht] at hset
                  simp only [hset] at hnq
                  have HNQ := hid hnq
                  have HM2 := HM
                  clear hnq hset ht heq hj HM
                  generalize keys.getD j 0 = kj at *
                  go_wp2_with fail
                  go_quiet (fail)
                  have hcg2 : (wr.drewN nq).cell? ⟨g, k, none⟩ = some (.int .i64 (j : Int)) := hcg
                  have hfg2 : (wr.drewN nq).frozen? ⟨g, k, none⟩ = false := hfg
                  have HN2 := hid (HNQ.out nq)
                  generalize wr.drewN nq = wq at *
                  go_wp2_with fail
                  go_roundg (last.length - (k + 1))
                  case measure => omega
                  case rel => exact ⟨k + 1, by go_num, hkl, Nat.le_refl _, _, HN2⟩
                · have b3 : (keys.getD j 0 == kx) = false := by simpa using heq
                  have ht : turnTo keys i j = j := by unfold turnTo; rw [hkx, if_neg heq]
                  have hsame : (last.take k).map (turnTo keys i) ++ last.drop k = (last.take (k + 1)).map (turnTo keys i) ++ last.drop (k + 1) := by
                    rw [← hset, ht]
                    have hl2 : k < ((last.take k).map (turnTo keys i) ++ last.drop k).length := by rw [take_turn_len]; exact hkl
                    have := take_turn (turnTo keys i) last k hkl
                    rw [hj] at this
                    rw [← this, List.set_getElem_self]
                  have hm2 := fun nq => HM.out.drewN nq
                  rw [hsame] at hm2
                  have HNQ := hid hm2
                  clear hnq hset ht heq hj HM hsame hm2
                  generalize keys.getD j 0 = kj at *
                  go_wp2_with fail
                  go_quiet (fail)
                  go_wp2_with fail
                  go_roundg (last.length - (k + 1))
                  case measure => omega
                  case rel => exact ⟨k + 1, by go_num, hkl, Nat.le_refl _, _, hid (HNQ.out _)⟩
              · have hend : (last.take k).map (turnTo keys i) ++ last.drop k = last.map (turnTo keys i) := by
                  rw [List.take_of_length_le (by omega), List.drop_eq_nil_of_le (by omega), List.append_nil]
                have hm := HM.out
                rw [hend] at hm
                have hls : last.length = (last.map (turnTo keys i)).length := by simp
                have HM2 : Hid (MvSt w wr S1 S2 n Px Pb (putL TI.cmpI kx (valL keys i) La) [] (.slice lA (last.map (turnTo keys i)).length lc) (last.map (turnTo keys i))) := by rw [← hls]; exact hid hm
                have HLS := hid hls
                have hkk : ¬ (k : Int) < (last.length : Int) := by omega
                clear hm hend HM hls
                go_wp2_with fail
                go_roundg (n - (i + 1))
                case measure => omega
                case rel => exact ⟨i + 1, last.map (turnTo keys i), lA, lc, _, _, _, by go_num, hlt, Nat.le_refl _, by rw [← HLS.out], HM2, hid (HAGAIN.out trivial)⟩
      · obtain rfl : n = i := by omega
        have htwo := HI.out.two HS.out.a.up
        have hfew := HI.out.few
        have hjn := HI.out.lt
        have HJN := hid hjn
        have HTW := hid htwo
        have hii : ¬ (n : Int) < (n : Int) := by omega
        clear htwo HI hg hi hlt hjn
        go_wp2_with fail
        go_loopg [14] n' (fun gx si wr => ∃ (k : Nat) (La Lb : List (Int × List Int)) (Pa Pb : Nat → Prop), si = .int .i64 k ∧ k ≤ n' ∧ n' - k ≤ gx ∧ Hid (MvSt w wr S1 S2 n Pa Pb La Lb (.slice lA last.length lc) last) ∧ Hid (MvTwo keys last La Lb))
        case atStart => exact ⟨0, La, [], Pa, Pb, rfl, Nat.zero_le _, Nat.le_refl _, HS, HTW⟩
        case round =>
          clear HS HTW La Pa Pb
          obtain ⟨k, La, Lb, Pa, Pb, rfl, hk, hg, HS, HTW⟩ := hrel
          by_cases hlt : k < n'
          · have hkk : (k : Int) < (n' : Int) := by omega
            have hk0 : (0 : Int) ≤ (k : Int) := by omega
            have hwk : IntKind.i64.wrap ((k : Int) + 1) = (k : Int) + 1 := wrap_small _ (by omega) (by omega)
            obtain ⟨b, off, m, hm, rfl, hb, hc⟩ := HR'.out.at k (by have := HL'.out; omega)
            obtain ⟨lo, hi, back⟩ := m
            have e0 := hc 0 _ rfl
            have e1 := hc 1 _ rfl
            have e2 := hc 2 _ rfl
            simp only [Nat.add_zero] at e0
            have c0 := (HS.out.bel.cell (p := ⟨b, off + k * 3, none⟩) hb).trans e0
            have c1 := (HS.out.bel.cell (p := ⟨b, off + k * 3 + 1, none⟩) hb).trans e1
            have c2 := (HS.out.bel.cell (p := ⟨b, off + k * 3 + 2, none⟩) hb).trans e2
            have E0 := hid e0
            have E1 := hid e1
            clear hm hc e0 e1 e2
            cases back with
            | false =>
              obtain ⟨hcut, hlay, hcnt, htw⟩ := mv_go lo hi HS.out HTW.out hfew
              have HCUT := hid hcut
              have HLAY := hid hlay
              have HCNT := hid hcnt
              have HTW2 := hid htw
              clear hcut hlay hcnt htw HTW HS
              by_cases hle : lo ≤ hi
              · rw [if_pos hle] at HCUT
                have b3 : decide (lo ≤ hi) = true := by simpa using hle
                clear hle
                go_wp2_with fail
                go_region_held3 (fun w' => w'.cell? ⟨b, off + k * 3, none⟩ = some (.int .u64 lo) ∧ w'.cell? ⟨b, off + k * 3 + 1, none⟩ = some (.int .u64 hi)) (first | (refine ⟨?_, ?_⟩ <;> assumption) | go_keep)
                  ((go_at_call 68; refine (HCUT.out 1).mono ?_; rintro e w3 ⟨Ap, cp, rfl, HP, HM⟩; have d0 := (HM.out.bel.cell (p := ⟨b, off + k * 3, none⟩) hb).trans E0.out; have d1 := (HM.out.bel.cell (p := ⟨b, off + k * 3 + 1, none⟩) hb).trans E1.out))
                all_goals
                  go_wp2_with fail
                  refine (HLAY.out w3 Ap cp HP.out HM.out).mono ?_
                  rintro e w4 ⟨rfl, Pt', HM4⟩
                  have f0 := (HM4.out.bel.cell (p := ⟨b, off + k * 3, none⟩) hb).trans E0.out
                  have f1 := (HM4.out.bel.cell (p := ⟨b, off + k * 3 + 1, none⟩) hb).trans E1.out
                  go_wp2_with fail
                  go_quiet (fail)
                  have f2 : (w4.drewN nq).cell? ⟨b, off + k * 3, none⟩ = some (.int .u64 lo) := f0
                  have f3 : (w4.drewN nq).cell? ⟨b, off + k * 3 + 1, none⟩ = some (.int .u64 hi) := f1
                  have HM5 := hid (HM4.out.drewN nq)
                  have HC5 := hid (HCNT.out (w4.drewN nq) Pt' HM5.out)
                  clear f0 f1 HM4
                  generalize w4.drewN nq = w5 at *
                  go_wp2_with fail
                  go_quiet (refine Calls.quiet_of (HC5.out _))
                  go_wp2_with fail
                  go_roundg (n' - (k + 1))
                  case measure => omega
                  case rel => exact ⟨k + 1, _, _, Pa, Pt', by go_num, hlt, Nat.le_refl _, hid (HM5.out.drewN _), HTW2⟩
              · rw [if_neg hle] at HCUT
                have b3 : decide (lo ≤ hi) = false := by simpa using hle
                clear hle
                go_wp2_with fail
                go_region_held3 (fun w' => w'.cell? ⟨b, off + k * 3, none⟩ = some (.int .u64 lo) ∧ w'.cell? ⟨b, off + k * 3 + 1, none⟩ = some (.int .u64 hi)) (first | (refine ⟨?_, ?_⟩ <;> assumption) | go_keep)
                  ((go_at_call 68; refine (HCUT.out 1).mono ?_; rintro e w3 ⟨Ap, cp, rfl, HP, HM⟩; have d0 := (HM.out.bel.cell (p := ⟨b, off + k * 3, none⟩) hb).trans E0.out; have d1 := (HM.out.bel.cell (p := ⟨b, off + k * 3 + 1, none⟩) hb).trans E1.out))
                all_goals
                  go_wp2_with fail
                  refine (HLAY.out w3 Ap cp HP.out HM.out).mono ?_
                  rintro e w4 ⟨rfl, Pt', HM4⟩
                  have f0 := (HM4.out.bel.cell (p := ⟨b, off + k * 3, none⟩) hb).trans E0.out
                  have f1 := (HM4.out.bel.cell (p := ⟨b, off + k * 3 + 1, none⟩) hb).trans E1.out
                  go_wp2_with fail
                  go_quiet (fail)
                  have f2 : (w4.drewN nq).cell? ⟨b, off + k * 3, none⟩ = some (.int .u64 lo) := f0
                  have f3 : (w4.drewN nq).cell? ⟨b, off + k * 3 + 1, none⟩ = some (.int .u64 hi) := f1
                  have HM5 := hid (HM4.out.drewN nq)
                  have HC5 := hid (HCNT.out (w4.drewN nq) Pt' HM5.out)
                  clear f0 f1 HM4
                  generalize w4.drewN nq = w5 at *
                  go_wp2_with fail
                  go_quiet (refine Calls.quiet_of (HC5.out _))
                  go_wp2_with fail
                  go_roundg (n' - (k + 1))
                  case measure => omega
                  case rel => exact ⟨k + 1, _, _, Pa, Pt', by go_num, hlt, Nat.le_refl _, hid (HM5.out.drewN _), HTW2⟩
            | true =>
              obtain ⟨hcut, hlay, hcnt, htw⟩ := mv_go lo hi HS.out.swap HTW.out.swap hfew
              have HCUT := hid hcut
              have HLAY := hid hlay
              have HCNT := hid hcnt
              have HTW2 := hid htw
              clear hcut hlay hcnt htw HTW HS
              by_cases hle : lo ≤ hi
              · rw [if_pos hle] at HCUT
                have b3 : decide (lo ≤ hi) = true := by simpa using hle
                clear hle
                go_wp2_with fail
                go_region_held3 (fun w' => w'.cell? ⟨b, off + k * 3, none⟩ = some (.int .u64 lo) ∧ w'.cell? ⟨b, off + k * 3 + 1, none⟩ = some (.int .u64 hi)) (first | (refine ⟨?_, ?_⟩ <;> assumption) | go_keep)
                  ((go_at_call 68; refine (HCUT.out 1).mono ?_; rintro e w3 ⟨Ap, cp, rfl, HP, HM⟩; have d0 := (HM.out.bel.cell (p := ⟨b, off + k * 3, none⟩) hb).trans E0.out; have d1 := (HM.out.bel.cell (p := ⟨b, off + k * 3 + 1, none⟩) hb).trans E1.out))
                all_goals
                  go_wp2_with fail
                  refine (HLAY.out w3 Ap cp HP.out HM.out).mono ?_
                  rintro e w4 ⟨rfl, Pt', HM4⟩
                  have f0 := (HM4.out.bel.cell (p := ⟨b, off + k * 3, none⟩) hb).trans E0.out
                  have f1 := (HM4.out.bel.cell (p := ⟨b, off + k * 3 + 1, none⟩) hb).trans E1.out
                  go_wp2_with fail
                  go_quiet (fail)
                  have f2 : (w4.drewN nq).cell? ⟨b, off + k * 3, none⟩ = some (.int .u64 lo) := f0
                  have f3 : (w4.drewN nq).cell? ⟨b, off + k * 3 + 1, none⟩ = some (.int .u64 hi) := f1
                  have HM5 := hid (HM4.out.drewN nq)
                  have HC5 := hid (HCNT.out (w4.drewN nq) Pt' HM5.out)
                  clear f0 f1 HM4
                  generalize w4.drewN nq = w5 at *
                  go_wp2_with fail
                  go_quiet (refine Calls.quiet_of (HC5.out _))
                  go_wp2_with fail
                  go_roundg (n' - (k + 1))
                  case measure => omega
                  case rel => exact ⟨k + 1, _, _, Pt', Pb, by go_num, hlt, Nat.le_refl _, hid (HM5.out.drewN _).swap, hid HTW2.out.swap⟩
              · rw [if_neg hle] at HCUT
                have b3 : decide (lo ≤ hi) = false := by simpa using hle
                clear hle
                go_wp2_with fail
                go_region_held3 (fun w' => w'.cell? ⟨b, off + k * 3, none⟩ = some (.int .u64 lo) ∧ w'.cell? ⟨b, off + k * 3 + 1, none⟩ = some (.int .u64 hi)) (first | (refine ⟨?_, ?_⟩ <;> assumption) | go_keep)
                  ((go_at_call 68; refine (HCUT.out 1).mono ?_; rintro e w3 ⟨Ap, cp, rfl, HP, HM⟩; have d0 := (HM.out.bel.cell (p := ⟨b, off + k * 3, none⟩) hb).trans E0.out; have d1 := (HM.out.bel.cell (p := ⟨b, off + k * 3 + 1, none⟩) hb).trans E1.out))
                all_goals
                  go_wp2_with fail
                  refine (HLAY.out w3 Ap cp HP.out HM.out).mono ?_
                  rintro e w4 ⟨rfl, Pt', HM4⟩
                  have f0 := (HM4.out.bel.cell (p := ⟨b, off + k * 3, none⟩) hb).trans E0.out
                  have f1 := (HM4.out.bel.cell (p := ⟨b, off + k * 3 + 1, none⟩) hb).trans E1.out
                  go_wp2_with fail
                  go_quiet (fail)
                  have f2 : (w4.drewN nq).cell? ⟨b, off + k * 3, none⟩ = some (.int .u64 lo) := f0
                  have f3 : (w4.drewN nq).cell? ⟨b, off + k * 3 + 1, none⟩ = some (.int .u64 hi) := f1
                  have HM5 := hid (HM4.out.drewN nq)
                  have HC5 := hid (HCNT.out (w4.drewN nq) Pt' HM5.out)
                  clear f0 f1 HM4
                  generalize w4.drewN nq = w5 at *
                  go_wp2_with fail
                  go_quiet (refine Calls.quiet_of (HC5.out _))
                  go_wp2_with fail
                  go_roundg (n' - (k + 1))
                  case measure => omega
                  case rel => exact ⟨k + 1, _, _, Pt', Pb, by go_num, hlt, Nat.le_refl _, hid (HM5.out.drewN _).swap, hid HTW2.out.swap⟩
          · obtain rfl : n' = k := by omega
            have hkk : ¬ (n' : Int) < (n' : Int) := by omega
            clear hk hg hlt
            go_wp2_with fail
            go_loopg [20] last.length (fun gx si wr => ∃ k : Nat, si = .int .i64 k ∧ k ≤ last.length ∧ last.length - k ≤ gx ∧ Hid (MvSt w wr S1 S2 n Pa Pb La Lb (.slice lA last.length lc) last))
            case atStart => exact ⟨0, rfl, Nat.zero_le _, Nat.le_refl _, HS⟩
            case round =>
              clear HS
              obtain ⟨k, rfl, hk, hg, HS⟩ := hrel
              by_cases hlt : k < last.length
              · have hkk : (k : Int) < (last.length : Int) := by omega
                have hk0 : (0 : Int) ≤ (k : Int) := by omega
                have hwk : IntKind.i64.wrap ((k : Int) + 1) = (k : Int) + 1 := wrap_small _ (by omega) (by omega)
                obtain ⟨g, rfl, hcg, _⟩ := HS.out.at' hlt
                have hjl : last[k] < n := HJN.out _ (List.getElem_mem hlt)
                have hone := HTW.out.one (List.getElem_mem hlt)
                obtain ⟨j, hj⟩ : ∃ j, last[k] = j := ⟨_, rfl⟩
                rw [hj] at hcg hjl hone
                have hj0 : (0 : Int) ≤ (j : Int) := by omega
                have hjn : (j : Int) < (n : Int) := by omega
                have hRw := HR.out
                obtain ⟨b, off, rfl, hb, hcj0⟩ := U64s.at' hRw j (by have := HL.out; omega)
                have hcj := (HS.out.bel.cell (p := ⟨b, off + j, none⟩) hb).trans hcj0
                have HCJ0 := hid hcj0
                have hg1 := shGet_any wr S1 n Pa La (keys.getD j 0) HS.out.a
                have hg2 := fun w3 (hm : MvSt w w3 S1 S2 n Pa Pb La Lb (.slice (some ⟨g, 0, none⟩) last.length lc) last) => shGet_any w3 S2 n Pb Lb (keys.getD j 0) hm.b
                have hvo := fun w3 (hm : MvSt w w3 S1 S2 n Pa Pb La Lb (.slice (some ⟨g, 0, none⟩) last.length lc) last) => valueOf_any w3 (some ⟨b, off, none⟩) n c keys j HL.out hjl (by omega) ((HR.out.below hm.bel).mono hm.bel.size)
                have hcn := fun (w3 : World) => conv_bytes (w3.alloc (.cells #[.int .u8 ((j : Int) % 256), .int .u8 ((j : Int) / 256 % 256), .int .u8 (keys.getD j 0 % 256)] 5)) (some ⟨w3.heap.size, 0, none⟩) 3 (valL keys j) (fun e => by cases e) (val_reads w3 keys j _ (by simp)) (valL_byte keys j)
                have HG2 := hid hg2
                have HVO := hid hvo
                have HCN : Hid (∀ w3 : World, (convert 65 9 (.slice (some ⟨w3.heap.size, 0, none⟩) 3 3)).run Try.prog (w3.alloc (.cells #[.int .u8 ((j : Int) % 256), .int .u8 ((j : Int) / 256 % 256), .int .u8 (keys.getD j 0 % 256)] 5)) = .ok (.string (toStr (valL keys j))) (w3.alloc (.cells #[.int .u8 ((j : Int) % 256), .int .u8 ((j : Int) / 256 % 256), .int .u8 (keys.getD j 0 % 256)] 5))) := hid hcn
                rcases hone with ⟨e1, e2⟩ | ⟨e1, e2⟩
                · rw [e1] at hg1
                  simp only [Option.isSome_some, Option.getD_some] at hg1
                  have HG1 := hid hg1
                  rw [e2] at HG2
                  simp only [Option.isSome_none, Option.getD_none] at HG2
                  clear hg1 hg2 hvo hcn e1 e2 hRw hcj0 hj
                  generalize hkj : keys.getD j 0 = kj at *
                  go_wp2_with fail
                  refine HG1.out.mono ?_
                  rintro e w3 ⟨v1, rfl, hv1, hb1⟩
                  have hm3 := HS.out.below hb1
                  obtain ⟨_, A1, c1, rfl, _, _, _⟩ := owns_reads u8s_len hv1 (by decide)
                  have c3g := (hb1.cell (p := ⟨g, k, none⟩) (World.block_lt_of_cell? _ _ hcg)).trans hcg
                  have c3k := (hm3.bel.cell (p := ⟨b, off + j, none⟩) hb).trans HCJ0.out
                  have HV1 := hid hv1
                  have HM3 := hid hm3
                  clear hv1 hm3 hcg hcj HG1 HS
                  go_wp2_with fail
                  refine (HG2.out w3 HM3.out).mono ?_
                  rintro e w4 ⟨v2, rfl, hv2, hb2⟩
                  have hm4 := HM3.out.below hb2
                  obtain ⟨_, A2, c2, rfl, _, _, _⟩ := owns_reads u8s_len hv2 (by decide)
                  have c4g := (hb2.cell (p := ⟨g, k, none⟩) (World.block_lt_of_cell? _ _ c3g)).trans c3g
                  have c4k := (hm4.bel.cell (p := ⟨b, off + j, none⟩) hb).trans HCJ0.out
                  have hv1' := ownsRow_wrote HV1.out (Wrote.below hb2 : Wrote (fun _ => False) w3 w4) (fun _ _ => id)
                  have hcv : ∀ w5, Below w4.heap.size w4 w5 → (convert 65 9 (.slice A1 (valL keys j).length c1)).run Try.prog w5 = .ok (.string (toStr (valL keys j))) w5 ∧ (convert 65 9 (.slice A2 ([] : List Int).length c2)).run Try.prog w5 = .ok (.string (toStr ([] : List Int))) w5 := fun w5 hb5 => by
                    have r1 := ownsRow_wrote hv1' (Wrote.below hb5 : Wrote (fun _ => False) w4 w5) (fun _ _ => id)
                    have r2 := ownsRow_wrote hv2 (Wrote.below hb5 : Wrote (fun _ => False) w4 w5) (fun _ _ => id)
                    obtain ⟨A1', c1', e1, n1, u1⟩ := ownsRow_ev (v := (A1, (valL keys j).length, c1)) r1
                    obtain ⟨A2', c2', e2, n2, u2⟩ := ownsRow_ev (v := (A2, ([] : List Int).length, c2)) r2
                    obtain ⟨rfl, rfl⟩ : A1 = A1' ∧ c1 = c1' := by injection e1 with e3 e4; injection e4 with _ e5; exact ⟨e3, e5⟩
                    obtain ⟨rfl, rfl⟩ : A2 = A2' ∧ c2 = c2' := by injection e2 with e3 e4; injection e4 with _ e5; exact ⟨e3, e5⟩
                    exact ⟨conv_bytes w5 A1 c1 (valL keys j) n1 u1 (valL_byte keys j), conv_bytes w5 A2 c2 ([] : List Int) n2 u2 (by simp)⟩
                  have hstr : toStr (valL keys j) ++ toStr ([] : List Int) = toStr (valL keys j) := by rw [toStr_append]; simp
                  simp only [List.length_nil] at hcv
                  obtain ⟨q1, q2⟩ := hcv w4.drew (below_drewN' (Below.refl _ _) 1)
                  obtain ⟨q3, q4⟩ := hcv (w4.alloc (.cells #[.int .u8 ((j : Int) % 256), .int .u8 ((j : Int) / 256 % 256), .int .u8 (kj % 256)] 5)).drew (below_drewN' ((Below.refl _ w4).alloc (Nat.le_refl _) _) 1)
                  have q5 : (convert 65 9 (.slice (some ⟨w4.heap.size, 0, none⟩) 3 3)).run Try.prog (w4.alloc (.cells #[.int .u8 ((j : Int) % 256), .int .u8 ((j : Int) / 256 % 256), .int .u8 (kj % 256)] 5)).drew = .ok (.string (toStr (valL keys j))) (w4.alloc (.cells #[.int .u8 ((j : Int) % 256), .int .u8 ((j : Int) / 256 % 256), .int .u8 (kj % 256)] 5)).drew := HCN.out w4.drew
                  have d4g : w4.drew.cell? ⟨g, k, none⟩ = some (.int .i64 (j : Int)) := c4g
                  have d5g : (w4.alloc (.cells #[.int .u8 ((j : Int) % 256), .int .u8 ((j : Int) / 256 % 256), .int .u8 (kj % 256)] 5)).drew.cell? ⟨g, k, none⟩ = some (.int .i64 (j : Int)) := (World.cell?_alloc_lt w4 _ ⟨g, k, none⟩ (World.block_lt_of_cell? _ _ c4g)).trans c4g
                  have HM4 := hid hm4
                  clear hv2 hv1' hm4 hcv c3g c3k HV1 HM3 HG2 hb1 HCN c4g
                  have hs0 : (toStr (valL keys j)).size = 3 := toStr_size _
                  have hsE : (toStr ([] : List Int)).size = 0 := toStr_size _
                  generalize hz0 : toStr (valL keys j) = z0 at *
                  generalize hzE : toStr ([] : List Int) = zE at *
                  have hne : ((z0 ++ zE).toList == z0.toList) = true := by rw [hstr]; simp
                  clear hz0 hzE hstr
                  go_wp2_with fail
                  refine wp_region_noPanic ?_
                  refine wp_region_held_drew (S := (fun w' => w'.cell? ⟨g, k, none⟩ = some (.int .i64 (j : Int)) ∧ (convert 65 9 (.slice A1 (valL keys j).length c1)).run Try.prog w' = .ok (.string z0) w' ∧ (convert 65 9 (.slice A2 0 c2)).run Try.prog w' = .ok (.string zE) w')) (by kernel_rfl) ?_ (fun hHeld => ?_)
                  · exact ⟨d4g, q1, q2⟩
                  refine wpAnyH_take (i := 0) (oi := ({ dst := some 197, op := Go.Op.move (Go.Operand.tmp 22), type := 4, pos := "outright.go:177", after := #[], guard := none } : Oper)) (v := ?_) rfl (by kernel_rfl) (by kernel_rfl) (by kernel_rfl) (fun _ _ _ h => h) (Or.inl ⟨by rfl, ?_⟩) (by assumption) ?_
                  rotate_left 1
                  · (intro w hSw; (try dsimp only at hSw); go_simp) <;> (with_reducible rfl)
                  (try simp only [Act.put, List.setIfInBounds_toArray, List.set_cons_zero, List.set_cons_succ])
                  refine wpAnyH_take (i := 1) (oi := ({ dst := some 198, op := Go.Op.move (Go.Operand.tmp 24), type := 4, pos := "outright.go:177", after := #[], guard := none } : Oper)) (v := ?_) rfl (by kernel_rfl) (by kernel_rfl) (by kernel_rfl) (fun _ _ _ h => h) (Or.inl ⟨by rfl, ?_⟩) (by assumption) ?_
                  rotate_left 1
                  · (intro w hSw; (try dsimp only at hSw); go_simp) <;> (with_reducible rfl)
                  (try simp only [Act.put, List.setIfInBounds_toArray, List.set_cons_zero, List.set_cons_succ])
                  refine wpAnyH_take (i := 2) (oi := ({ dst := some 199, op := Go.Op.binOp Go.BinOp.eql 4 (Go.Operand.tmp 197) (Go.Operand.tmp 198) 4, type := 4, pos := "outright.go:177", after := #[{ on := 0, ground := Go.Ground.data }, { on := 1, ground := Go.Ground.data }], guard := none } : Oper)) (v := ?_) rfl (by kernel_rfl) (by kernel_rfl) (by kernel_rfl) (fun _ _ _ h => h) (Or.inl ⟨by rfl, ?_⟩) (by assumption) ?_
                  rotate_left 1
                  · (intro w hSw; (try dsimp only at hSw); go_simp) <;> (with_reducible rfl)
                  (try simp only [Act.put, List.setIfInBounds_toArray, List.set_cons_zero, List.set_cons_succ])
                  refine wpAnyH_take (i := 3) (oi := ({ dst := some 200, op := Go.Op.move (Go.Operand.tmp 199), type := 4, pos := "outright.go:177", after := #[{ on := 2, ground := Go.Ground.data }], guard := none } : Oper)) (v := ?_) rfl (by kernel_rfl) (by kernel_rfl) (by kernel_rfl) (fun _ _ _ h => h) (Or.inl ⟨by rfl, ?_⟩) (by assumption) ?_
                  rotate_left 1
                  · (intro w hSw; (try dsimp only at hSw); go_simp) <;> (with_reducible rfl)
                  (try simp only [Act.put, List.setIfInBounds_toArray, List.set_cons_zero, List.set_cons_succ])
                  refine wpAnyH_take (i := 4) (oi := ({ dst := some 201, op := Go.Op.move (Go.Operand.tmp 21), type := 65, pos := "outright.go:177", after := #[{ on := 3, ground := Go.Ground.guard }], guard := some (3, false) } : Oper)) (v := ?_) rfl (by kernel_rfl) (by kernel_rfl) (by kernel_rfl) (fun _ _ _ h => h) (Or.inl ⟨by rfl, ?_⟩) (by assumption) ?_
                  rotate_left 1
                  · (intro w hSw; (try dsimp only at hSw); go_simp) <;> (with_reducible rfl)
                  (try simp only [Act.put, List.setIfInBounds_toArray, List.set_cons_zero, List.set_cons_succ])
                  refine wpAnyH_take (i := 5) (oi := ({ dst := some 202, op := Go.Op.convert 65 9 (Go.Operand.tmp 201), type := 9, pos := "outright.go:177", after := #[{ on := 4, ground := Go.Ground.data }, { on := 3, ground := Go.Ground.guard }], guard := some (3, false) } : Oper)) (v := ?_) rfl (by kernel_rfl) (by kernel_rfl) (by kernel_rfl) (fun _ _ _ h => h) (Or.inl ⟨by rfl, ?_⟩) (by assumption) ?_
                  rotate_left 1
                  · (intro w hSw; (try dsimp only at hSw); go_simp) <;> (with_reducible rfl)
                  (try simp only [Act.put, List.setIfInBounds_toArray, List.set_cons_zero, List.set_cons_succ])
                  refine wpAnyH_take (i := 6) (oi := ({ dst := some 203, op := Go.Op.move (Go.Operand.tmp 23), type := 65, pos := "outright.go:177", after := #[{ on := 3, ground := Go.Ground.guard }], guard := some (3, false) } : Oper)) (v := ?_) rfl (by kernel_rfl) (by kernel_rfl) (by kernel_rfl) (fun _ _ _ h => h) (Or.inl ⟨by rfl, ?_⟩) (by assumption) ?_
                  rotate_left 1
                  · (intro w hSw; (try dsimp only at hSw); go_simp) <;> (with_reducible rfl)
                  (try simp only [Act.put, List.setIfInBounds_toArray, List.set_cons_zero, List.set_cons_succ])
                  refine wpAnyH_take (i := 7) (oi := ({ dst := some 204, op := Go.Op.convert 65 9 (Go.Operand.tmp 203), type := 9, pos := "outright.go:177", after := #[{ on := 6, ground := Go.Ground.data }, { on := 3, ground := Go.Ground.guard }], guard := some (3, false) } : Oper)) (v := ?_) rfl (by kernel_rfl) (by kernel_rfl) (by kernel_rfl) (fun _ _ _ h => h) (Or.inl ⟨by rfl, ?_⟩) (by assumption) ?_
                  rotate_left 1
                  · (intro w hSw; (try dsimp only at hSw); go_simp) <;> (with_reducible rfl)
                  (try simp only [Act.put, List.setIfInBounds_toArray, List.set_cons_zero, List.set_cons_succ])
                  refine wpAnyH_take (i := 8) (oi := ({ dst := some 205, op := Go.Op.binOp Go.BinOp.add 9 (Go.Operand.tmp 202) (Go.Operand.tmp 204) 9, type := 9, pos := "outright.go:177", after := #[{ on := 5, ground := Go.Ground.data }, { on := 7, ground := Go.Ground.data }, { on := 3, ground := Go.Ground.guard }], guard := some (3, false) } : Oper)) (v := ?_) rfl (by kernel_rfl) (by kernel_rfl) (by kernel_rfl) (fun _ _ _ h => h) (Or.inl ⟨by rfl, ?_⟩) (by assumption) ?_
                  rotate_left 1
                  · (intro w hSw; (try dsimp only at hSw); go_simp) <;> (with_reducible rfl)
                  (try simp only [Act.put, List.setIfInBounds_toArray, List.set_cons_zero, List.set_cons_succ])
                  refine wpAnyH_take (i := 9) (oi := ({ dst := some 206, op := Go.Op.move (Go.Operand.tmp 0), type := 106, pos := "outright.go:177", after := #[{ on := 3, ground := Go.Ground.guard }], guard := some (3, false) } : Oper)) (v := ?_) rfl (by kernel_rfl) (by kernel_rfl) (by kernel_rfl) (fun _ _ _ h => h) (Or.inl ⟨by rfl, ?_⟩) (by assumption) ?_
                  rotate_left 1
                  · (intro w hSw; (try dsimp only at hSw); go_simp) <;> (with_reducible rfl)
                  (try simp only [Act.put, List.setIfInBounds_toArray, List.set_cons_zero, List.set_cons_succ])
                  refine wpAnyH_take (i := 10) (oi := ({ dst := some 207, op := Go.Op.move (Go.Operand.tmp 9), type := 31, pos := "outright.go:177", after := #[{ on := 3, ground := Go.Ground.guard }], guard := some (3, false) } : Oper)) (v := ?_) rfl (by kernel_rfl) (by kernel_rfl) (by kernel_rfl) (fun _ _ _ h => h) (Or.inl ⟨by rfl, ?_⟩) (by assumption) ?_
                  rotate_left 1
                  · (intro w hSw; (try dsimp only at hSw); go_simp) <;> (with_reducible rfl)
                  (try simp only [Act.put, List.setIfInBounds_toArray, List.set_cons_zero, List.set_cons_succ])
                  refine wpAnyH_take (i := 11) (oi := ({ dst := some 208, op := Go.Op.move (Go.Operand.tmp 20), type := 3, pos := "outright.go:177", after := #[{ on := 3, ground := Go.Ground.guard }], guard := some (3, false) } : Oper)) (v := ?_) rfl (by kernel_rfl) (by kernel_rfl) (by kernel_rfl) (fun _ _ _ h => h) (Or.inl ⟨by rfl, ?_⟩) (by assumption) ?_
                  rotate_left 1
                  · (intro w hSw; (try dsimp only at hSw); go_simp) <;> (with_reducible rfl)
                  (try simp only [Act.put, List.setIfInBounds_toArray, List.set_cons_zero, List.set_cons_succ])
                  refine wpAnyH_take (i := 12) (oi := ({ dst := some 209, op := Go.Op.indexAddr 31 (Go.Operand.tmp 207) (Go.Operand.tmp 208), type := 0, pos := "outright.go:177", after := #[{ on := 10, ground := Go.Ground.data }, { on := 11, ground := Go.Ground.data }, { on := 3, ground := Go.Ground.guard }], guard := some (3, false) } : Oper)) (v := ?_) rfl (by kernel_rfl) (by kernel_rfl) (by kernel_rfl) (fun _ _ _ h => h) (Or.inl ⟨by rfl, ?_⟩) (by assumption) ?_
                  rotate_left 1
                  · (intro w hSw; (try dsimp only at hSw); go_simp) <;> (with_reducible rfl)
                  (try simp only [Act.put, List.setIfInBounds_toArray, List.set_cons_zero, List.set_cons_succ])
                  refine wpAnyH_take (i := 13) (oi := ({ dst := some 210, op := Go.Op.load 3 (Go.Operand.tmp 209), type := 3, pos := "outright.go:177", after := #[{ on := 12, ground := Go.Ground.data }, { on := 3, ground := Go.Ground.guard }], guard := some (3, false) } : Oper)) (v := ?_) rfl (by kernel_rfl) (by kernel_rfl) (by kernel_rfl) (fun _ _ _ h => h) (Or.inl ⟨by rfl, ?_⟩) (by assumption) ?_
                  rotate_left 1
                  · (intro w hSw; (try dsimp only at hSw); go_simp) <;> (with_reducible rfl)
                  (try simp only [Act.put, List.setIfInBounds_toArray, List.set_cons_zero, List.set_cons_succ])
                  refine wpAnyH_ready (rs := [14]) (by kernel_rfl) (by simp) ?_
                  refine AllReadyH.cons (o := ({ dst := some 211, op := Go.Op.call { callee := Go.Callee.value (Go.Operand.func 67), args := #[Go.Operand.tmp 206, Go.Operand.tmp 210], argTypes := #[106, 3] }, type := 65, pos := "outright.go:177", after := #[{ on := 9, ground := Go.Ground.data }, { on := 13, ground := Go.Ground.data }, { on := 3, ground := Go.Ground.chain }, { on := 3, ground := Go.Ground.guard }], guard := some (3, false) } : Oper)) rfl (fun K hK => ?_) AllReadyH.nil
                  go_simp
                  refine (HVO.out w4.drew (HM4.out.drewN 1)).mono ?_
                  rintro e w5 ⟨rfl, rfl⟩
                  go_simp
                  refine hK.out _ _ ?_ (fun hHeld => ?_)
                  · exact ⟨d5g, q3, q4⟩
                  clear hK K
                  (try simp only [Act.put, List.setIfInBounds_toArray, List.set_cons_zero, List.set_cons_succ])
                  refine wpAnyH_ready (rs := [15]) (by kernel_rfl) (by simp) ?_
                  refine AllReadyH.cons (o := ({ dst := some 212, op := Go.Op.convert 65 9 (Go.Operand.tmp 211), type := 9, pos := "outright.go:177", after := #[{ on := 14, ground := Go.Ground.data }, { on := 3, ground := Go.Ground.guard }], guard := some (3, false) } : Oper)) rfl (fun K hK => ?_) AllReadyH.nil
                  go_simp
                  refine hK.out _ _ ?_ (fun hHeld => ?_)
                  · assumption
                  clear hK K
                  (try simp only [Act.put, List.setIfInBounds_toArray, List.set_cons_zero, List.set_cons_succ])
                  refine wpAnyH_ready (rs := [16]) (by kernel_rfl) (by simp) ?_
                  refine AllReadyH.cons (o := ({ dst := some 213, op := Go.Op.binOp Go.BinOp.neq 9 (Go.Operand.tmp 205) (Go.Operand.tmp 212) 9, type := 4, pos := "outright.go:177", after := #[{ on := 8, ground := Go.Ground.data }, { on := 15, ground := Go.Ground.data }, { on := 3, ground := Go.Ground.guard }], guard := some (3, false) } : Oper)) rfl (fun K hK => ?_) AllReadyH.nil
                  go_simp
                  refine hK.out _ _ ?_ (fun hHeld => ?_)
                  · assumption
                  clear hK K
                  (try simp only [Act.put, List.setIfInBounds_toArray, List.set_cons_zero, List.set_cons_succ])
                  refine wpAnyH_ready (rs := [17]) (by kernel_rfl) (by simp) ?_
                  refine AllReadyH.cons (o := ({ dst := some 214, op := Go.Op.pick (Go.Operand.tmp 200) (Go.Operand.const (Go.Value.bool true)) (Go.Operand.tmp 213), type := 4, pos := "outright.go:177", after := #[{ on := 3, ground := Go.Ground.data }, { on := 16, ground := Go.Ground.data }], guard := none } : Oper)) rfl (fun K hK => ?_) AllReadyH.nil
                  go_simp
                  refine hK.out _ _ ?_ (fun hHeld => ?_)
                  · assumption
                  clear hK K
                  (try simp only [Act.put, List.setIfInBounds_toArray, List.set_cons_zero, List.set_cons_succ])
                  refine wpAnyH_done (by kernel_rfl) ?_ _
                  refine NoPanic.normal ?_
                  go_wp2_with fail
                  go_roundg (last.length - (k + 1))
                  case measure => omega
                  case rel => exact ⟨k + 1, by go_num, hlt, Nat.le_refl _, hid (HM4.out.below (below_drewN' ((Below.refl _ w4).alloc (Nat.le_refl _) _) 1))⟩
                · rw [e1] at hg1
                  simp only [Option.isSome_none, Option.getD_none] at hg1
                  have HG1 := hid hg1
                  rw [e2] at HG2
                  simp only [Option.isSome_some, Option.getD_some] at HG2
                  clear hg1 hg2 hvo hcn e1 e2 hRw hcj0 hj
                  generalize hkj : keys.getD j 0 = kj at *
                  go_wp2_with fail
                  refine HG1.out.mono ?_
                  rintro e w3 ⟨v1, rfl, hv1, hb1⟩
                  have hm3 := HS.out.below hb1
                  obtain ⟨_, A1, c1, rfl, _, _, _⟩ := owns_reads u8s_len hv1 (by decide)
                  have c3g := (hb1.cell (p := ⟨g, k, none⟩) (World.block_lt_of_cell? _ _ hcg)).trans hcg
                  have c3k := (hm3.bel.cell (p := ⟨b, off + j, none⟩) hb).trans HCJ0.out
                  have HV1 := hid hv1
                  have HM3 := hid hm3
                  clear hv1 hm3 hcg hcj HG1 HS
                  go_wp2_with fail
                  refine (HG2.out w3 HM3.out).mono ?_
                  rintro e w4 ⟨v2, rfl, hv2, hb2⟩
                  have hm4 := HM3.out.below hb2
                  obtain ⟨_, A2, c2, rfl, _, _, _⟩ := owns_reads u8s_len hv2 (by decide)
                  have c4g := (hb2.cell (p := ⟨g, k, none⟩) (World.block_lt_of_cell? _ _ c3g)).trans c3g
                  have c4k := (hm4.bel.cell (p := ⟨b, off + j, none⟩) hb).trans HCJ0.out
                  have hv1' := ownsRow_wrote HV1.out (Wrote.below hb2 : Wrote (fun _ => False) w3 w4) (fun _ _ => id)
                  have hcv : ∀ w5, Below w4.heap.size w4 w5 → (convert 65 9 (.slice A1 ([] : List Int).length c1)).run Try.prog w5 = .ok (.string (toStr ([] : List Int))) w5 ∧ (convert 65 9 (.slice A2 (valL keys j).length c2)).run Try.prog w5 = .ok (.string (toStr (valL keys j))) w5 := fun w5 hb5 => by
                    have r1 := ownsRow_wrote hv1' (Wrote.below hb5 : Wrote (fun _ => False) w4 w5) (fun _ _ => id)
                    have r2 := ownsRow_wrote hv2 (Wrote.below hb5 : Wrote (fun _ => False) w4 w5) (fun _ _ => id)
                    obtain ⟨A1', c1', e1, n1, u1⟩ := ownsRow_ev (v := (A1, ([] : List Int).length, c1)) r1
                    obtain ⟨A2', c2', e2, n2, u2⟩ := ownsRow_ev (v := (A2, (valL keys j).length, c2)) r2
                    obtain ⟨rfl, rfl⟩ : A1 = A1' ∧ c1 = c1' := by injection e1 with e3 e4; injection e4 with _ e5; exact ⟨e3, e5⟩
                    obtain ⟨rfl, rfl⟩ : A2 = A2' ∧ c2 = c2' := by injection e2 with e3 e4; injection e4 with _ e5; exact ⟨e3, e5⟩
                    exact ⟨conv_bytes w5 A1 c1 ([] : List Int) n1 u1 (by simp), conv_bytes w5 A2 c2 (valL keys j) n2 u2 (valL_byte keys j)⟩
                  have hstr : toStr ([] : List Int) ++ toStr (valL keys j) = toStr (valL keys j) := by rw [toStr_append]; simp
                  simp only [List.length_nil] at hcv
                  obtain ⟨q1, q2⟩ := hcv w4.drew (below_drewN' (Below.refl _ _) 1)
                  obtain ⟨q3, q4⟩ := hcv (w4.alloc (.cells #[.int .u8 ((j : Int) % 256), .int .u8 ((j : Int) / 256 % 256), .int .u8 (kj % 256)] 5)).drew (below_drewN' ((Below.refl _ w4).alloc (Nat.le_refl _) _) 1)
                  have q5 : (convert 65 9 (.slice (some ⟨w4.heap.size, 0, none⟩) 3 3)).run Try.prog (w4.alloc (.cells #[.int .u8 ((j : Int) % 256), .int .u8 ((j : Int) / 256 % 256), .int .u8 (kj % 256)] 5)).drew = .ok (.string (toStr (valL keys j))) (w4.alloc (.cells #[.int .u8 ((j : Int) % 256), .int .u8 ((j : Int) / 256 % 256), .int .u8 (kj % 256)] 5)).drew := HCN.out w4.drew
                  have d4g : w4.drew.cell? ⟨g, k, none⟩ = some (.int .i64 (j : Int)) := c4g
                  have d5g : (w4.alloc (.cells #[.int .u8 ((j : Int) % 256), .int .u8 ((j : Int) / 256 % 256), .int .u8 (kj % 256)] 5)).drew.cell? ⟨g, k, none⟩ = some (.int .i64 (j : Int)) := (World.cell?_alloc_lt w4 _ ⟨g, k, none⟩ (World.block_lt_of_cell? _ _ c4g)).trans c4g
                  have HM4 := hid hm4
                  clear hv2 hv1' hm4 hcv c3g c3k HV1 HM3 HG2 hb1 HCN c4g
                  have hs0 : (toStr (valL keys j)).size = 3 := toStr_size _
                  have hsE : (toStr ([] : List Int)).size = 0 := toStr_size _
                  generalize hz0 : toStr (valL keys j) = z0 at *
                  generalize hzE : toStr ([] : List Int) = zE at *
                  have hne : ((zE ++ z0).toList == z0.toList) = true := by rw [hstr]; simp
                  clear hz0 hzE hstr
                  go_wp2_with fail
                  refine wp_region_noPanic ?_
                  refine wp_region_held_drew (S := (fun w' => w'.cell? ⟨g, k, none⟩ = some (.int .i64 (j : Int)) ∧ (convert 65 9 (.slice A1 0 c1)).run Try.prog w' = .ok (.string zE) w' ∧ (convert 65 9 (.slice A2 (valL keys j).length c2)).run Try.prog w' = .ok (.string z0) w')) (by kernel_rfl) ?_ (fun hHeld => ?_)
                  · exact ⟨d4g, q1, q2⟩
                  refine wpAnyH_take (i := 0) (oi := ({ dst := some 197, op := Go.Op.move (Go.Operand.tmp 22), type := 4, pos := "outright.go:177", after := #[], guard := none } : Oper)) (v := ?_) rfl (by kernel_rfl) (by kernel_rfl) (by kernel_rfl) (fun _ _ _ h => h) (Or.inl ⟨by rfl, ?_⟩) (by assumption) ?_
                  rotate_left 1
                  · (intro w hSw; (try dsimp only at hSw); go_simp) <;> (with_reducible rfl)
                  (try simp only [Act.put, List.setIfInBounds_toArray, List.set_cons_zero, List.set_cons_succ])
                  refine wpAnyH_take (i := 1) (oi := ({ dst := some 198, op := Go.Op.move (Go.Operand.tmp 24), type := 4, pos := "outright.go:177", after := #[], guard := none } : Oper)) (v := ?_) rfl (by kernel_rfl) (by kernel_rfl) (by kernel_rfl) (fun _ _ _ h => h) (Or.inl ⟨by rfl, ?_⟩) (by assumption) ?_
                  rotate_left 1
                  · (intro w hSw; (try dsimp only at hSw); go_simp) <;> (with_reducible rfl)
                  (try simp only [Act.put, List.setIfInBounds_toArray, List.set_cons_zero, List.set_cons_succ])
                  refine wpAnyH_take (i := 2) (oi := ({ dst := some 199, op := Go.Op.binOp Go.BinOp.eql 4 (Go.Operand.tmp 197) (Go.Operand.tmp 198) 4, type := 4, pos := "outright.go:177", after := #[{ on := 0, ground := Go.Ground.data }, { on := 1, ground := Go.Ground.data }], guard := none } : Oper)) (v := ?_) rfl (by kernel_rfl) (by kernel_rfl) (by kernel_rfl) (fun _ _ _ h => h) (Or.inl ⟨by rfl, ?_⟩) (by assumption) ?_
                  rotate_left 1
                  · (intro w hSw; (try dsimp only at hSw); go_simp) <;> (with_reducible rfl)
                  (try simp only [Act.put, List.setIfInBounds_toArray, List.set_cons_zero, List.set_cons_succ])
                  refine wpAnyH_take (i := 3) (oi := ({ dst := some 200, op := Go.Op.move (Go.Operand.tmp 199), type := 4, pos := "outright.go:177", after := #[{ on := 2, ground := Go.Ground.data }], guard := none } : Oper)) (v := ?_) rfl (by kernel_rfl) (by kernel_rfl) (by kernel_rfl) (fun _ _ _ h => h) (Or.inl ⟨by rfl, ?_⟩) (by assumption) ?_
                  rotate_left 1
                  · (intro w hSw; (try dsimp only at hSw); go_simp) <;> (with_reducible rfl)
                  (try simp only [Act.put, List.setIfInBounds_toArray, List.set_cons_zero, List.set_cons_succ])
                  refine wpAnyH_take (i := 4) (oi := ({ dst := some 201, op := Go.Op.move (Go.Operand.tmp 21), type := 65, pos := "outright.go:177", after := #[{ on := 3, ground := Go.Ground.guard }], guard := some (3, false) } : Oper)) (v := ?_) rfl (by kernel_rfl) (by kernel_rfl) (by kernel_rfl) (fun _ _ _ h => h) (Or.inl ⟨by rfl, ?_⟩) (by assumption) ?_
                  rotate_left 1
                  · (intro w hSw; (try dsimp only at hSw); go_simp) <;> (with_reducible rfl)
                  (try simp only [Act.put, List.setIfInBounds_toArray, List.set_cons_zero, List.set_cons_succ])
                  refine wpAnyH_take (i := 5) (oi := ({ dst := some 202, op := Go.Op.convert 65 9 (Go.Operand.tmp 201), type := 9, pos := "outright.go:177", after := #[{ on := 4, ground := Go.Ground.data }, { on := 3, ground := Go.Ground.guard }], guard := some (3, false) } : Oper)) (v := ?_) rfl (by kernel_rfl) (by kernel_rfl) (by kernel_rfl) (fun _ _ _ h => h) (Or.inl ⟨by rfl, ?_⟩) (by assumption) ?_
                  rotate_left 1
                  · (intro w hSw; (try dsimp only at hSw); go_simp) <;> (with_reducible rfl)
                  (try simp only [Act.put, List.setIfInBounds_toArray, List.set_cons_zero, List.set_cons_succ])
                  refine wpAnyH_take (i := 6) (oi := ({ dst := some 203, op := Go.Op.move (Go.Operand.tmp 23), type := 65, pos := "outright.go:177", after := #[{ on := 3, ground := Go.Ground.guard }], guard := some (3, false) } : Oper)) (v := ?_) rfl (by kernel_rfl) (by kernel_rfl) (by kernel_rfl) (fun _ _ _ h => h) (Or.inl ⟨by rfl, ?_⟩) (by assumption) ?_
                  rotate_left 1
                  · (intro w hSw; (try dsimp only at hSw); go_simp) <;> (with_reducible rfl)
                  (try simp only [Act.put, List.setIfInBounds_toArray, List.set_cons_zero, List.set_cons_succ])
                  refine wpAnyH_take (i := 7) (oi := ({ dst := some 204, op := Go.Op.convert 65 9 (Go.Operand.tmp 203), type := 9, pos := "outright.go:177", after := #[{ on := 6, ground := Go.Ground.data }, { on := 3, ground := Go.Ground.guard }], guard := some (3, false) } : Oper)) (v := ?_) rfl (by kernel_rfl) (by kernel_rfl) (by kernel_rfl) (fun _ _ _ h => h) (Or.inl ⟨by rfl, ?_⟩) (by assumption) ?_
                  rotate_left 1
                  · (intro w hSw; (try dsimp only at hSw); go_simp) <;> (with_reducible rfl)
                  (try simp only [Act.put, List.setIfInBounds_toArray, List.set_cons_zero, List.set_cons_succ])
                  refine wpAnyH_take (i := 8) (oi := ({ dst := some 205, op := Go.Op.binOp Go.BinOp.add 9 (Go.Operand.tmp 202) (Go.Operand.tmp 204) 9, type := 9, pos := "outright.go:177", after := #[{ on := 5, ground := Go.Ground.data }, { on := 7, ground := Go.Ground.data }, { on := 3, ground := Go.Ground.guard }], guard := some (3, false) } : Oper)) (v := ?_) rfl (by kernel_rfl) (by kernel_rfl) (by kernel_rfl) (fun _ _ _ h => h) (Or.inl ⟨by rfl, ?_⟩) (by assumption) ?_
                  rotate_left 1
                  · (intro w hSw; (try dsimp only at hSw); go_simp) <;> (with_reducible rfl)
                  (try simp only [Act.put, List.setIfInBounds_toArray, List.set_cons_zero, List.set_cons_succ])
                  refine wpAnyH_take (i := 9) (oi := ({ dst := some 206, op := Go.Op.move (Go.Operand.tmp 0), type := 106, pos := "outright.go:177", after := #[{ on := 3, ground := Go.Ground.guard }], guard := some (3, false) } : Oper)) (v := ?_) rfl (by kernel_rfl) (by kernel_rfl) (by kernel_rfl) (fun _ _ _ h => h) (Or.inl ⟨by rfl, ?_⟩) (by assumption) ?_
                  rotate_left 1
                  · (intro w hSw; (try dsimp only at hSw); go_simp) <;> (with_reducible rfl)
                  (try simp only [Act.put, List.setIfInBounds_toArray, List.set_cons_zero, List.set_cons_succ])
                  refine wpAnyH_take (i := 10) (oi := ({ dst := some 207, op := Go.Op.move (Go.Operand.tmp 9), type := 31, pos := "outright.go:177", after := #[{ on := 3, ground := Go.Ground.guard }], guard := some (3, false) } : Oper)) (v := ?_) rfl (by kernel_rfl) (by kernel_rfl) (by kernel_rfl) (fun _ _ _ h => h) (Or.inl ⟨by rfl, ?_⟩) (by assumption) ?_
                  rotate_left 1
                  · (intro w hSw; (try dsimp only at hSw); go_simp) <;> (with_reducible rfl)
                  (try simp only [Act.put, List.setIfInBounds_toArray, List.set_cons_zero, List.set_cons_succ])
                  refine wpAnyH_take (i := 11) (oi := ({ dst := some 208, op := Go.Op.move (Go.Operand.tmp 20), type := 3, pos := "outright.go:177", after := #[{ on := 3, ground := Go.Ground.guard }], guard := some (3, false) } : Oper)) (v := ?_) rfl (by kernel_rfl) (by kernel_rfl) (by kernel_rfl) (fun _ _ _ h => h) (Or.inl ⟨by rfl, ?_⟩) (by assumption) ?_
                  rotate_left 1
                  · (intro w hSw; (try dsimp only at hSw); go_simp) <;> (with_reducible rfl)
                  (try simp only [Act.put, List.setIfInBounds_toArray, List.set_cons_zero, List.set_cons_succ])
                  refine wpAnyH_take (i := 12) (oi := ({ dst := some 209, op := Go.Op.indexAddr 31 (Go.Operand.tmp 207) (Go.Operand.tmp 208), type := 0, pos := "outright.go:177", after := #[{ on := 10, ground := Go.Ground.data }, { on := 11, ground := Go.Ground.data }, { on := 3, ground := Go.Ground.guard }], guard := some (3, false) } : Oper)) (v := ?_) rfl (by kernel_rfl) (by kernel_rfl) (by kernel_rfl) (fun _ _ _ h => h) (Or.inl ⟨by rfl, ?_⟩) (by assumption) ?_
                  rotate_left 1
                  · (intro w hSw; (try dsimp only at hSw); go_simp) <;> (with_reducible rfl)
                  (try simp only [Act.put, List.setIfInBounds_toArray, List.set_cons_zero, List.set_cons_succ])
                  refine wpAnyH_take (i := 13) (oi := ({ dst := some 210, op := Go.Op.load 3 (Go.Operand.tmp 209), type := 3, pos := "outright.go:177", after := #[{ on := 12, ground := Go.Ground.data }, { on := 3, ground := Go.Ground.guard }], guard := some (3, false) } : Oper)) (v := ?_) rfl (by kernel_rfl) (by kernel_rfl) (by kernel_rfl) (fun _ _ _ h => h) (Or.inl ⟨by rfl, ?_⟩) (by assumption) ?_
                  rotate_left 1
                  · (intro w hSw; (try dsimp only at hSw); go_simp) <;> (with_reducible rfl)
                  (try simp only [Act.put, List.setIfInBounds_toArray, List.set_cons_zero, List.set_cons_succ])
                  refine wpAnyH_ready (rs := [14]) (by kernel_rfl) (by simp) ?_
                  refine AllReadyH.cons (o := ({ dst := some 211, op := Go.Op.call { callee := Go.Callee.value (Go.Operand.func 67), args := #[Go.Operand.tmp 206, Go.Operand.tmp 210], argTypes := #[106, 3] }, type := 65, pos := "outright.go:177", after := #[{ on := 9, ground := Go.Ground.data }, { on := 13, ground := Go.Ground.data }, { on := 3, ground := Go.Ground.chain }, { on := 3, ground := Go.Ground.guard }], guard := some (3, false) } : Oper)) rfl (fun K hK => ?_) AllReadyH.nil
                  go_simp
                  refine (HVO.out w4.drew (HM4.out.drewN 1)).mono ?_
                  rintro e w5 ⟨rfl, rfl⟩
                  go_simp
                  refine hK.out _ _ ?_ (fun hHeld => ?_)
                  · exact ⟨d5g, q3, q4⟩
                  clear hK K
                  (try simp only [Act.put, List.setIfInBounds_toArray, List.set_cons_zero, List.set_cons_succ])
                  refine wpAnyH_ready (rs := [15]) (by kernel_rfl) (by simp) ?_
                  refine AllReadyH.cons (o := ({ dst := some 212, op := Go.Op.convert 65 9 (Go.Operand.tmp 211), type := 9, pos := "outright.go:177", after := #[{ on := 14, ground := Go.Ground.data }, { on := 3, ground := Go.Ground.guard }], guard := some (3, false) } : Oper)) rfl (fun K hK => ?_) AllReadyH.nil
                  go_simp
                  refine hK.out _ _ ?_ (fun hHeld => ?_)
                  · assumption
                  clear hK K
                  (try simp only [Act.put, List.setIfInBounds_toArray, List.set_cons_zero, List.set_cons_succ])
                  refine wpAnyH_ready (rs := [16]) (by kernel_rfl) (by simp) ?_
                  refine AllReadyH.cons (o := ({ dst := some 213, op := Go.Op.binOp Go.BinOp.neq 9 (Go.Operand.tmp 205) (Go.Operand.tmp 212) 9, type := 4, pos := "outright.go:177", after := #[{ on := 8, ground := Go.Ground.data }, { on := 15, ground := Go.Ground.data }, { on := 3, ground := Go.Ground.guard }], guard := some (3, false) } : Oper)) rfl (fun K hK => ?_) AllReadyH.nil
                  go_simp
                  refine hK.out _ _ ?_ (fun hHeld => ?_)
                  · assumption
                  clear hK K
                  (try simp only [Act.put, List.setIfInBounds_toArray, List.set_cons_zero, List.set_cons_succ])
                  refine wpAnyH_ready (rs := [17]) (by kernel_rfl) (by simp) ?_
                  refine AllReadyH.cons (o := ({ dst := some 214, op := Go.Op.pick (Go.Operand.tmp 200) (Go.Operand.const (Go.Value.bool true)) (Go.Operand.tmp 213), type := 4, pos := "outright.go:177", after := #[{ on := 3, ground := Go.Ground.data }, { on := 16, ground := Go.Ground.data }], guard := none } : Oper)) rfl (fun K hK => ?_) AllReadyH.nil
                  go_simp
                  refine hK.out _ _ ?_ (fun hHeld => ?_)
                  · assumption
                  clear hK K
                  (try simp only [Act.put, List.setIfInBounds_toArray, List.set_cons_zero, List.set_cons_succ])
                  refine wpAnyH_done (by kernel_rfl) ?_ _
                  refine NoPanic.normal ?_
                  go_wp2_with fail
                  go_roundg (last.length - (k + 1))
                  case measure => omega
                  case rel => exact ⟨k + 1, by go_num, hlt, Nat.le_refl _, hid (HM4.out.below (below_drewN' ((Below.refl _ w4).alloc (Nat.le_refl _) _) 1))⟩
              · obtain rfl : last.length = k := by omega
                have hkk : ¬ (last.length : Int) < (last.length : Int) := by omega
                have hla := shLen_any wr S1 n Pa La HS.out.a
                have hlb := shLen_any wr S2 n Pb Lb HS.out.b
                have hba := shBytes_any wr S1 n Pa La HS.out.a
                have hbb := shBytes_any wr S2 n Pb Lb HS.out.b
                have hta := total_three HTW.out.small
                have htb := total_three HTW.out.swap.small
                have hlen := HTW.out.len
                generalize total La = ta at *
                generalize total Lb = tb at *
                have hLa : La.length ≤ 30000 := by omega
                have hLb : Lb.length ≤ 30000 := by omega
                have w1 : IntKind.i64.wrap ((La.length : Int) + (Lb.length : Int)) = (last.length : Int) := by rw [wrap_mid _ (by omega) (by omega)]; omega
                have w2 : IntKind.i64.wrap ((ta : Int) + (tb : Int)) = 3 * (last.length : Int) := by rw [wrap_mid _ (by omega) (by omega)]; omega
                have w3 : IntKind.i64.wrap (3 * (last.length : Int)) = 3 * (last.length : Int) := by rw [wrap_mid _ (by omega) (by omega)]
                have HLA := hid hla
                have HLB := hid hlb
                have HBA := hid hba
                have HBB := hid hbb
                have W1 := hid w1
                have W2 := hid w2
                have W3 := hid w3
                clear hla hlb hba hbb hta htb hlen hk hg hlt hLa hLb w1 w2 w3
                go_wp2_with fail
                refine HLA.out.mono ?_
                rintro e w5 ⟨rfl, hw5⟩
                subst hw5
                go_wp2_with fail
                refine HLB.out.mono ?_
                rintro e w5 ⟨rfl, hw5⟩
                subst hw5
                have w1 := W1.out
                go_wp2_with fail
                refine HBA.out.mono ?_
                rintro e w5 ⟨rfl, hw5⟩
                subst hw5
                go_wp2_with fail
                refine HBB.out.mono ?_
                rintro e w5 ⟨rfl, hw5⟩
                subst hw5
                have w2 := W2.out
                have w3 := W3.out
                go_wp2_with fail
                go_ret
                exact ⟨by simp, HS.out.bel⟩
end Go.Proofs.Ytfjeagffdijcoaa
