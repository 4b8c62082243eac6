/- Layer 7: the walk of StoreNoWalk. -/
import Derived.Test.YtfjeagffdijcoaaBetw
import Derived.LoopN
namespace Go.Proofs.Ytfjeagffdijcoaa
open Go.RowKit Go.Shelf TI
attribute [local go_sem] Oper.semAt_some

/-- where the statement's things lie between two ranges -/
structure NoSt (w V : World) (N M : Nat) (v key : Int) (T : Tr Int Int) (Ds : List Nat) : Prop where
  told : Boxed V N 3 (.int .i64 v)
  res : Boxed V (w.heap.size + 1) 4 (.bool false)
  ky : Boxed V w.heap.size 3 (.int .i64 key)
  mp : IsMap V M 76 #[] T
  bel : Below w.heap.size w V
  ds : ∀ d ∈ Ds, V.heap[d]? = some (.deferred (some []))
  nN : w.heap.size + 1 < N
  nM : w.heap.size + 1 < M ∧ M ≠ N
  nT : ∀ x ∈ T.blocks, w.heap.size + 1 < x ∧ x ≠ N
  nD : ∀ d ∈ Ds, N < d
  nd : Ds.Nodup
namespace NoSt
variable {w V V' : World} {N M : Nat} {v u key : Int} {T : Tr Int Int} {Ds : List Nat}
theorem below (h : NoSt w V N M v key T Ds) (hb : Below V.heap.size V V') : NoSt w V' N M v key T Ds :=
  ⟨(hb.block _ h.told.lt).trans h.told, (hb.block _ h.res.lt).trans h.res, (hb.block _ h.ky.lt).trans h.ky, h.mp.below hb, h.bel.trans (hb.mono h.bel.size), fun d hd => (hb.block _ (Array.getElem?_eq_some_iff.1 (h.ds d hd)).1).trans (h.ds d hd), h.nN, h.nM, h.nT, h.nD, h.nd⟩
theorem set (h : NoSt w V N M v key T Ds) (u : Int) : NoSt w (V.setCell ⟨N, 0, none⟩ (.int .i64 u)) N M u key T Ds :=
  ⟨h.told.set _, h.res.other (by have := h.nN; omega) _, h.ky.other (by have := h.nN; omega) _,
    h.mp.wrote (S := fun x => x = N) ((Wrote.refl (fun x => x = N) V).setCell (p := ⟨N, 0, none⟩) (Or.inl rfl) _) h.nM.2 (fun x hx => (h.nT x hx).2),
    h.bel.setCell (p := ⟨N, 0, none⟩) (by show w.heap.size ≤ N; have := h.nN; omega) _, fun d hd => (Below.heap_setCell _ _ _ _ (by show d ≠ N; have := h.nD d hd; omega)).trans (h.ds d hd), h.nN, h.nM, h.nT, h.nD, h.nd⟩
theorem keeps {P : Nat → Prop} (h : NoSt w V N M v key T Ds) (hk : KeepsT P V V') (hP : ∀ k, k < V.heap.size → k ≠ N → k ≠ w.heap.size + 1 → P k) (ht : Boxed V' N 3 (.int .i64 u)) (hr : Boxed V' (w.heap.size + 1) 4 (.bool false)) (hb : Below w.heap.size w V') : NoSt w V' N M u key T Ds :=
  ⟨ht, hr, (hk _ (hP _ h.ky.lt (by have := h.nN; omega) (by omega))).trans h.ky,
    IsMap_keeps h.mp hk (hP _ h.mp.lt h.nM.2 (by have := h.nM.1; omega)) (fun x hx => hP x (h.mp.held.lt x hx) (h.nT x hx).2 (by have := (h.nT x hx).1; omega)), hb,
    fun d hd => (hk d (hP d (Array.getElem?_eq_some_iff.1 (h.ds d hd)).1 (by have := h.nD d hd; omega) (by have := h.nD d hd; have := h.nN; omega))).trans (h.ds d hd), h.nN, h.nM, h.nT, h.nD, h.nd⟩
theorem more (h : NoSt w V N M v key T Ds) {D : Nat} (hD : V.heap[D]? = some (.deferred (some []))) (hN : N < D) (hn : ∀ d ∈ Ds, d < D) : NoSt w V N M v key T (D :: Ds) :=
  ⟨h.told, h.res, h.ky, h.mp, h.bel, fun d hd => by
    rcases List.mem_cons.1 hd with rfl | hd
    · exact hD
    · exact h.ds d hd, h.nN, h.nM, h.nT, fun d hd => by
    rcases List.mem_cons.1 hd with rfl | hd
    · exact hN
    · exact h.nD d hd, List.nodup_cons.2 ⟨fun hd => by have := hn D hd; omega, h.nd⟩⟩
theorem drewN (h : NoSt w V N M v key T Ds) (q : Nat) : NoSt w (V.drewN q) N M v key T Ds := h.below (below_drewN' (Below.refl _ V) q)
end NoSt

theorem leaves_collected {F : Fence} {n : Nat} {P : Program} {fn : Func} {tmps : Array Value} {q : Tmp} {ty t : TypeId} (w0 : World) (g : Nat) (hres : fn.results = #[.cell q ty]) (hq : tmps.getD q undef = .pointer (some ⟨g, 0, none⟩)) (hu : P.underlying ty = some .bool) :
    ∀ (Ds : List Nat) (w : World), Ds.Nodup → (∀ d ∈ Ds, w.heap[d]? = some (.deferred (some []))) → (∀ d ∈ Ds, w0.heap.size ≤ d) → Boxed w g t (.bool true) → Below w0.heap.size w0 w →
      LeavesInM F n P fn tmps (fun e w' => e = .returned (.bool true) ∧ Below w0.heap.size w0 w') (Ds.map fun d => { target := .collected d, args := #[] }) .returning w
  | [], w, _, _, _, hb, hbel => ⟨_, results_cell1 hres tmps w g (.bool true) hq hu hb.cell, rfl, hbel⟩
  | d :: Ds, w, hn, hd, h0, hb, hbel => by
    obtain ⟨hn1, hn2⟩ := List.nodup_cons.1 hn
    have hd0 := hd d (by simp)
    have hgd : g ≠ d := fun e => by
      rw [← e, show w.heap[g]? = _ from hb] at hd0
      cases hd0
    refine ⟨by simp, .inl ⟨d, _, rfl, run_takeDeferred hd0, leaves_collected w0 g hres hq hu Ds (w.putObj d (.deferred none)) hn2 (fun x hx => ?_) (fun x hx => h0 x (by simp [hx])) (hb.kept (grownBy_putObj' w d _) (fun e => hgd (by injection e))) ?_⟩⟩
    · exact (World.putObj_heap_other (fun e : x = d => hn1 (e ▸ hx))).trans (hd x (by simp [hx]))
    · exact hbel.trans (belowK_b (w := w0) (Nat.le_refl _) w d _ _ (h0 d (by simp)) hd0 rfl rfl)

theorem nine (key lo hi : Int) : ([(key, (5 : Int))] : List (Int × Int)).filter (inR cmpI lo hi) = if lo ≤ key ∧ key ≤ hi then [(key, 5)] else [] := by
  have : inR cmpI lo hi (key, (5 : Int)) = decide (lo ≤ key ∧ key ≤ hi) := by
    unfold inR cmpI
    rw [← Bool.decide_and]
    congr 1
    apply propext
    constructor
    · rintro ⟨h1, h2⟩; simp only at h1 h2; constructor <;> (repeat' split at h1) <;> (repeat' split at h2) <;> omega
    · rintro ⟨h1, h2⟩; simp only; constructor <;> (repeat' split) <;> omega
  rw [List.filter_cons, this]
  by_cases h : lo ≤ key ∧ key ≤ hi <;> simp [h]

set_option maxRecDepth 100000 in
set_option maxHeartbeats 8000000 in
theorem storeNoWalk_walk (w : World) (key lo hi : Int) (_ : (Lit.int .i64 key).wf = true) (_ : (Lit.int .i64 lo).wf = true) (_ : (Lit.int .i64 hi).wf = true) :
    Calls Try.prog 3 #[.int .i64 key, .int .i64 lo, .int .i64 hi] w fun e w' => e = .returned (.bool true) ∧ Below w.heap.size w w' := by
  have hfn := fun w f a c => run_eql_func_nil (P := Try.prog) w 27 f a c Try.underlying27
  obtain ⟨wA, hwA⟩ : ∃ wA, wA = (w.alloc (.cells #[.int .i64 key] 3)).alloc (.cells #[.bool false] 4) := ⟨_, rfl⟩
  have hbA : Below w.heap.size w wA := by rw [hwA]; exact ((Below.refl _ w).alloc (Nat.le_refl _) _).alloc (by simp) _
  have hszA : wA.heap.size = w.heap.size + 1 + 1 := by rw [hwA]; simp
  have hs1 : Boxed wA w.heap.size 3 (.int .i64 key) := by rw [hwA]; exact (Boxed.new w _ _).alloc _
  have hr1 : Boxed wA (w.heap.size + 1) 4 (.bool false) := by rw [hwA]; have := Boxed.new (w.alloc (.cells #[.int .i64 key] 3)) 4 (.bool false); rwa [World.size_alloc] at this
  have HWA := hid hwA
  have HBA := hid hbA
  have HSZ := hid hszA
  have HS1 := hid hs1
  have HR1 := hid hr1
  clear hwA hbA hszA hs1 hr1
  refine (callsIn_wide (n := 4)).1 ?_
  refine callsIn_of_wp_marks Try.func3 rfl trivial ?_ rfl
  simp only [Try.ntmps3, List.size_toArray, List.length_cons, List.length_nil, Nat.reduceAdd, Nat.reduceSub, Array.replicate_succ, Array.replicate_zero, List.push_toArray, List.append_toArray, List.nil_append, List.cons_append]
  refine wpIn_wide.2 ?_
  go_wp2_with fail
  rw [← HWA.out]
  refine (newOrdered_any wA).mono ?_
  rintro e w1 ⟨rfl, hM, hb1⟩
  obtain ⟨M, hMe⟩ : ∃ M, M = wA.heap.size := ⟨_, rfl⟩
  rw [← hMe] at hM ⊢
  have HME := hid hMe
  have HM := hid hM
  have HB1 := hid hb1
  have hk1 : w1.cell? ⟨w.heap.size, 0, none⟩ = some (.int .i64 key) := (Tfact' hb1 (a := ⟨w.heap.size, 0, none⟩) (by show w.heap.size < _; have := HSZ.out; omega) HS1.out.cell)
  have hput := mapPut_any 76 #[] cmpI (fun _ => True) (fun _ => False) cmp_fn w1 M .nil key 5 hM (by simp [Tr.many]) trivial (fun _ _ => id) id
  have HPUT := hid hput
  clear hM hb1 hMe hput
  go_wp2_with fail
  refine HPUT.out.mono ?_
  rintro e w2 ⟨nb, g1, rfl, g2, g3, -⟩
  obtain ⟨T, hT⟩ : ∃ T, T = Tr.put cmpI key (5 : Int) nb .nil := ⟨_, rfl⟩
  rw [← hT] at g2
  have hTb : T.blocks = [nb] := by rw [hT]; rfl
  have hTp : T.pairs = [(key, 5)] := by rw [hT]; rfl
  have hsA := HSZ.out
  have hsM := HME.out
  have hs1 := HB1.out.size
  have hs2 := g3.size
  have hB2 : Below wA.heap.size wA w2 := HB1.out.trans (g3.toBelow' hs1 (fun x hx => by
    rcases hx with rfl | hx
    · omega
    · cases hx))
  obtain ⟨N, hN⟩ : ∃ N, N = w2.heap.size := ⟨_, rfl⟩
  obtain ⟨V0, hV0⟩ : ∃ V0, V0 = w2.alloc (.cells #[.int .i64 0] 3) := ⟨_, rfl⟩
  have hb3 : Below w2.heap.size w2 V0 := by rw [hV0]; exact (Below.refl _ w2).alloc (Nat.le_refl _) _
  have hMl := g2.lt
  have hnl := g2.held.lt
  have st : NoSt w V0 N M 0 key T [] := by
    refine ⟨by rw [hV0, hN]; exact Boxed.new w2 _ _, (hb3.block _ (by omega)).trans ((hB2.block _ (by omega)).trans HR1.out), (hb3.block _ (by omega)).trans ((hB2.block _ (by omega)).trans HS1.out), g2.below hb3, HBA.out.trans ((hB2.mono (by omega)).trans (hb3.mono (by omega))), fun _ h => (by cases h), by omega, ⟨by omega, by omega⟩, fun x hx => ?_, fun _ h => (by cases h), List.nodup_nil⟩
    have := hnl x hx
    rw [hTb] at hx
    obtain rfl : x = nb := by simpa using hx
    omega
  have hup : Up cmpI T.pairs := by rw [hTp]; exact List.pairwise_singleton _ _
  have HUP := hid hup
  have HTP := hid hTp
  have ST := hid st
  have HNe := hid hN
  have HV0 := hid hV0
  clear g1 g2 g3 hT hTb hTp hB2 hb3 hMl hnl st hup hsA hsM hs1 hs2 hN hV0 hk1 HM HB1 HPUT HS1 HR1 HBA HSZ HME
  go_wp2_with fail
  rw [← HV0.out, ← HNe.out]
  clear HV0 HNe
  refine wp_loop_rounds 5 ?_
  have stV0 := ST.out
  rw [rounds_succ]
  go_wp2_with fail
  refine (TI.all_any V0 none).mono ?_
  rintro e U0 ⟨rfl, hU0⟩
  have hbU0 : Below V0.heap.size V0 U0 := by rw [hU0]; exact (Below.refl _ V0).alloc (Nat.le_refl _) _
  have cmU0 : U0.cell? ⟨V0.heap.size, 0, none⟩ = some (.pointer none) := by rw [hU0]; exact (Boxed.new V0 _ _).cell
  have stU0 := stV0.below hbU0
  clear hU0
  have hc1 := stU0.told.cell
  have hf1 := stU0.told.frozen
  have hc2 := stU0.ky.cell
  have hlt1 := stU0.told.lt
  have hnb := hbU0.size
  have hnp := stV0.told.lt
  go_wp2_with fail
  obtain ⟨X0, hX0⟩ : ∃ X0, X0 = U0.setCell ⟨N, 0, none⟩ (.int .i64 0) := ⟨_, rfl⟩
  rw [← hX0]
  have stX0 : NoSt w X0 N M 0 key T [] := by rw [hX0]; exact stU0.set 0
  have cmX0 : X0.cell? ⟨V0.heap.size, 0, none⟩ = some (.pointer none) := by rw [hX0]; exact (World.cell?_setCell_other _ _ _ _ (by intro e; injection e with e; omega)).trans cmU0
  clear hX0 hc1 hf1 hc2 hlt1
  obtain ⟨P, hP⟩ : ∃ P : Nat → Prop, P = fun x => x < X0.heap.size ∧ x ≠ N ∧ x ≠ w.heap.size + 1 := ⟨_, rfl⟩
  have hPlt : ∀ k, P k → k < X0.heap.size := fun k hk => by rw [hP] at hk; exact hk.1
  have hPn1 : ¬ P N := fun hk => by rw [hP] at hk; exact hk.2.1 rfl
  have hPi : ∀ k, k < X0.heap.size → k ≠ N → k ≠ w.heap.size + 1 → P k := fun k h1 h2 h3 => by rw [hP]; exact ⟨h1, h2, h3⟩
  clear hP
  have hnN := stX0.nN
  have hXl := stX0.told.lt
  have hs60 : w.heap.size ≤ X0.heap.size := by omega
  have hseq := TI.all_nil_stops 3 (V0.heap.size) 0 P X0 cmX0
  have hOB1 : OwnFrom X0.heap.size (fun (pre : List (Int × Int)) W => Boxed W N 3 (.int .i64 pre.length)) := Own.from (boxed_own _ _ (fun (pre : List (Int × Int)) => .int .i64 pre.length)) _
  have hOB2 : OwnFrom X0.heap.size (fun (_ : List (Int × Int)) W => Boxed W (w.heap.size + 1) 4 (.bool false)) := Own.from (boxed_own _ _ (fun _ => .bool false)) _
  have hOB3 : OwnFrom X0.heap.size (fun (_ : List (Int × Int)) W => KeepsT P X0 W) := ownFrom_keepsT (fun k hk => ⟨hPlt k hk, hPlt k hk⟩)
  have hOB4 : OwnFrom X0.heap.size (fun (_ : List (Int × Int)) W => Below w.heap.size w W) := ownFrom_below (Nat.le_refl _) hs60
  have hOI := OwnFrom.and hOB1 (OwnFrom.and hOB2 (OwnFrom.and hOB3 hOB4))
  have hOX := fun cd : Code => ownFrom_pure X0.heap.size (fun (pre : List (Int × Int)) => (∃ x ∈ pre, x ≠ (key, 5)) ∧ cd = .ret)
  refine (wpIn_wide (n := 4)).1 ?_
  refine' wpIn_rangeFunc_ownG rfl (by omega) (gf := 78) (lb := #[.pointer (some ⟨V0.heap.size, 0, none⟩)]) rfl trivial (enters_of Try.func78 (by kernel_rfl) rfl)
    hseq keepsT_t (keepsT_b hPlt) (Below.refl _ _) (fun _ => rfl)
    (fun (pre : List (Int × Int)) W => Boxed W N 3 (.int .i64 pre.length) ∧ Boxed W (w.heap.size + 1) 4 (.bool false) ∧ KeepsT P X0 W ∧ Below w.heap.size w W)
    (fun cd (pre : List (Int × Int)) W => (∃ x ∈ pre, x ≠ (key, 5)) ∧ cd = .ret)
    hOI hOX ⟨stX0.told, stX0.res, keepsT_refl _ _, stX0.bel⟩ _ ?assign ?body ?done ?stop
  case assign =>
    intro l1 x W K hK
    gi_wp2
    exact hK
  case body =>
    intro l1 pre x W _ hlt
    exact absurd hlt (Nat.not_lt_zero _)
  case stop =>
    rintro D cd pre W hD hSp ⟨⟨x, hx, hne⟩, _⟩ hKD
    exfalso
    have := hSp.subset hx
    cases this
  case done =>
    rintro D0 ys V1 hD hys ⟨hbi, hbr, hkt, hbw⟩ hKD
    have stV1 := (stX0.keeps (u := 0) hkt hPi (by have h := hbi; rw [hys] at h; exact h) hbr hbw).more hKD (by omega) (fun d hd => by have := (Array.getElem?_eq_some_iff.1 (stX0.ds d hd)).1; omega)
    have hc1 := stV1.told.cell
    clear hbi hbr hkt hbw hKD hys hseq hOB1 hOB2 hOB3 hOB4 hOI hOX hPlt hPn1 hPi hnN hXl hs60 hnb hnp
    have hfz := stV1.res.frozen
    have hcz := stV1.res.cell
    go_wp2_with fail
    clear hc1 hfz hcz
    rw [rounds_succ]
    go_wp2_with fail
    refine (TI.all_any V1 none).mono ?_
    rintro e U1 ⟨rfl, hU1⟩
    have hbU1 : Below V1.heap.size V1 U1 := by rw [hU1]; exact (Below.refl _ V1).alloc (Nat.le_refl _) _
    have cmU1 : U1.cell? ⟨V1.heap.size, 0, none⟩ = some (.pointer none) := by rw [hU1]; exact (Boxed.new V1 _ _).cell
    have stU1 := stV1.below hbU1
    clear hU1
    go_wp2_with fail
    refine (TI.between_any U1 none lo hi).mono ?_
    rintro e U1b ⟨rfl, hU1b⟩
    have hbU1b : Below U1.heap.size U1 U1b := by rw [hU1b]; exact (((Below.refl _ U1).alloc (Nat.le_refl _) _).alloc (by simp) _).alloc (by simp; omega) _
    have cmU1b : U1b.cell? ⟨U1.heap.size, 0, none⟩ = some (.pointer none) := by rw [hU1b]; exact (((Boxed.new U1 _ _).alloc _).alloc _).cell
    have clU1b : U1b.cell? ⟨U1.heap.size + 1, 0, none⟩ = some (.int .i64 lo) := by
      rw [hU1b]
      have := ((Boxed.new (U1.alloc (.cells #[.pointer none] 22)) 3 (.int .i64 lo)).alloc (.cells #[.int .i64 hi] 3)).cell
      rwa [World.size_alloc] at this
    have chU1b : U1b.cell? ⟨U1.heap.size + 1 + 1, 0, none⟩ = some (.int .i64 hi) := by
      rw [hU1b]
      have := (Boxed.new ((U1.alloc (.cells #[.pointer none] 22)).alloc (.cells #[.int .i64 lo] 3)) 3 (.int .i64 hi)).cell
      rwa [World.size_alloc, World.size_alloc] at this
    have stU1b := stU1.below hbU1b
    clear hU1b
    have hc1 := stU1b.told.cell
    have hf1 := stU1b.told.frozen
    have hc2 := stU1b.ky.cell
    have hlt1 := stU1b.told.lt
    have hnb := hbU1b.size
    have hnp := stU1.told.lt
    go_wp2_with fail
    obtain ⟨X1, hX1⟩ : ∃ X1, X1 = U1b.setCell ⟨N, 0, none⟩ (.int .i64 0) := ⟨_, rfl⟩
    rw [← hX1]
    have stX1 : NoSt w X1 N M 0 key T [D0] := by rw [hX1]; exact stU1b.set 0
    have cmX1 : X1.cell? ⟨U1.heap.size, 0, none⟩ = some (.pointer none) := by rw [hX1]; exact (World.cell?_setCell_other _ _ _ _ (by intro e; injection e with e; omega)).trans cmU1b
    have clX1 : X1.cell? ⟨U1.heap.size + 1, 0, none⟩ = some (.int .i64 lo) := by rw [hX1]; exact (World.cell?_setCell_other _ _ _ _ (by intro e; injection e with e; omega)).trans clU1b
    have chX1 : X1.cell? ⟨U1.heap.size + 1 + 1, 0, none⟩ = some (.int .i64 hi) := by rw [hX1]; exact (World.cell?_setCell_other _ _ _ _ (by intro e; injection e with e; omega)).trans chU1b
    clear hX1 hc1 hf1 hc2 hlt1
    obtain ⟨P, hP⟩ : ∃ P : Nat → Prop, P = fun x => x < X1.heap.size ∧ x ≠ N ∧ x ≠ w.heap.size + 1 := ⟨_, rfl⟩
    have hPlt : ∀ k, P k → k < X1.heap.size := fun k hk => by rw [hP] at hk; exact hk.1
    have hPn1 : ¬ P N := fun hk => by rw [hP] at hk; exact hk.2.1 rfl
    have hPi : ∀ k, k < X1.heap.size → k ≠ N → k ≠ w.heap.size + 1 → P k := fun k h1 h2 h3 => by rw [hP]; exact ⟨h1, h2, h3⟩
    clear hP
    have hnN := stX1.nN
    have hXl := stX1.told.lt
    have hs60 : w.heap.size ≤ X1.heap.size := by omega
    have hseq := TI.between_nil_stops 3 (U1.heap.size) (U1.heap.size + 1) (U1.heap.size + 1 + 1) 0 P X1 cmX1
    have hOB1 : OwnFrom X1.heap.size (fun (pre : List (Int × Int)) W => Boxed W N 3 (.int .i64 pre.length)) := Own.from (boxed_own _ _ (fun (pre : List (Int × Int)) => .int .i64 pre.length)) _
    have hOB2 : OwnFrom X1.heap.size (fun (_ : List (Int × Int)) W => Boxed W (w.heap.size + 1) 4 (.bool false)) := Own.from (boxed_own _ _ (fun _ => .bool false)) _
    have hOB3 : OwnFrom X1.heap.size (fun (_ : List (Int × Int)) W => KeepsT P X1 W) := ownFrom_keepsT (fun k hk => ⟨hPlt k hk, hPlt k hk⟩)
    have hOB4 : OwnFrom X1.heap.size (fun (_ : List (Int × Int)) W => Below w.heap.size w W) := ownFrom_below (Nat.le_refl _) hs60
    have hOI := OwnFrom.and hOB1 (OwnFrom.and hOB2 (OwnFrom.and hOB3 hOB4))
    have hOX := fun cd : Code => ownFrom_pure X1.heap.size (fun (pre : List (Int × Int)) => (∃ x ∈ pre, x ≠ (key, 5)) ∧ cd = .ret)
    refine (wpIn_wide (n := 4)).1 ?_
    refine' wpIn_rangeFunc_ownG rfl (by omega) (gf := 80) (lb := #[.pointer (some ⟨U1.heap.size, 0, none⟩), .pointer (some ⟨U1.heap.size + 1, 0, none⟩), .pointer (some ⟨U1.heap.size + 1 + 1, 0, none⟩)]) rfl trivial (enters_of Try.func80 (by kernel_rfl) rfl)
      hseq keepsT_t (keepsT_b hPlt) (Below.refl _ _) (fun _ => rfl)
      (fun (pre : List (Int × Int)) W => Boxed W N 3 (.int .i64 pre.length) ∧ Boxed W (w.heap.size + 1) 4 (.bool false) ∧ KeepsT P X1 W ∧ Below w.heap.size w W)
      (fun cd (pre : List (Int × Int)) W => (∃ x ∈ pre, x ≠ (key, 5)) ∧ cd = .ret)
      hOI hOX ⟨stX1.told, stX1.res, keepsT_refl _ _, stX1.bel⟩ _ ?assign ?body ?done ?stop
    case assign =>
      intro l1 x W K hK
      gi_wp2
      exact hK
    case body =>
      intro l1 pre x W _ hlt
      exact absurd hlt (Nat.not_lt_zero _)
    case stop =>
      rintro D cd pre W hD hSp ⟨⟨x, hx, hne⟩, _⟩ hKD
      exfalso
      have := hSp.subset hx
      cases this
    case done =>
      rintro D1 ys V2 hD hys ⟨hbi, hbr, hkt, hbw⟩ hKD
      have stV2 := (stX1.keeps (u := 0) hkt hPi (by have h := hbi; rw [hys] at h; exact h) hbr hbw).more hKD (by omega) (fun d hd => by have := (Array.getElem?_eq_some_iff.1 (stX1.ds d hd)).1; omega)
      have hc1 := stV2.told.cell
      clear hbi hbr hkt hbw hKD hys hseq hOB1 hOB2 hOB3 hOB4 hOI hOX hPlt hPn1 hPi hnN hXl hs60 hnb hnp
      have hfz := stV2.res.frozen
      have hcz := stV2.res.cell
      go_wp2_with fail
      clear hc1 hfz hcz
      rw [rounds_succ]
      by_cases hin : lo ≤ key ∧ key ≤ hi
      case pos =>
        have hi1 := hin.1
        have hi2 := hin.2
        go_wp2_with fail
        refine (TI.all_any V2 none).mono ?_
        rintro e U2 ⟨rfl, hU2⟩
        have hbU2 : Below V2.heap.size V2 U2 := by rw [hU2]; exact (Below.refl _ V2).alloc (Nat.le_refl _) _
        have cmU2 : U2.cell? ⟨V2.heap.size, 0, none⟩ = some (.pointer none) := by rw [hU2]; exact (Boxed.new V2 _ _).cell
        have stU2 := stV2.below hbU2
        clear hU2
        go_wp2_with fail
        refine (TI.between_any U2 (some ⟨M, 0, none⟩) lo hi).mono ?_
        rintro e U2b ⟨rfl, hU2b⟩
        have hbU2b : Below U2.heap.size U2 U2b := by rw [hU2b]; exact (((Below.refl _ U2).alloc (Nat.le_refl _) _).alloc (by simp) _).alloc (by simp; omega) _
        have cmU2b : U2b.cell? ⟨U2.heap.size, 0, none⟩ = some (.pointer (some ⟨M, 0, none⟩)) := by rw [hU2b]; exact (((Boxed.new U2 _ _).alloc _).alloc _).cell
        have clU2b : U2b.cell? ⟨U2.heap.size + 1, 0, none⟩ = some (.int .i64 lo) := by
          rw [hU2b]
          have := ((Boxed.new (U2.alloc (.cells #[.pointer (some ⟨M, 0, none⟩)] 22)) 3 (.int .i64 lo)).alloc (.cells #[.int .i64 hi] 3)).cell
          rwa [World.size_alloc] at this
        have chU2b : U2b.cell? ⟨U2.heap.size + 1 + 1, 0, none⟩ = some (.int .i64 hi) := by
          rw [hU2b]
          have := (Boxed.new ((U2.alloc (.cells #[.pointer (some ⟨M, 0, none⟩)] 22)).alloc (.cells #[.int .i64 lo] 3)) 3 (.int .i64 hi)).cell
          rwa [World.size_alloc, World.size_alloc] at this
        have stU2b := stU2.below hbU2b
        clear hU2b
        have hc1 := stU2b.told.cell
        have hf1 := stU2b.told.frozen
        have hc2 := stU2b.ky.cell
        have hlt1 := stU2b.told.lt
        have hnb := hbU2b.size
        have hnp := stU2.told.lt
        go_wp2_with fail
        obtain ⟨X2, hX2⟩ : ∃ X2, X2 = U2b.setCell ⟨N, 0, none⟩ (.int .i64 0) := ⟨_, rfl⟩
        rw [← hX2]
        have stX2 : NoSt w X2 N M 0 key T [D1, D0] := by rw [hX2]; exact stU2b.set 0
        have cmX2 : X2.cell? ⟨U2.heap.size, 0, none⟩ = some (.pointer (some ⟨M, 0, none⟩)) := by rw [hX2]; exact (World.cell?_setCell_other _ _ _ _ (by intro e; injection e with e; omega)).trans cmU2b
        have clX2 : X2.cell? ⟨U2.heap.size + 1, 0, none⟩ = some (.int .i64 lo) := by rw [hX2]; exact (World.cell?_setCell_other _ _ _ _ (by intro e; injection e with e; omega)).trans clU2b
        have chX2 : X2.cell? ⟨U2.heap.size + 1 + 1, 0, none⟩ = some (.int .i64 hi) := by rw [hX2]; exact (World.cell?_setCell_other _ _ _ _ (by intro e; injection e with e; omega)).trans chU2b
        clear hX2 hc1 hf1 hc2 hlt1
        obtain ⟨P, hP⟩ : ∃ P : Nat → Prop, P = fun x => x < X2.heap.size ∧ x ≠ N ∧ x ≠ w.heap.size + 1 := ⟨_, rfl⟩
        have hPlt : ∀ k, P k → k < X2.heap.size := fun k hk => by rw [hP] at hk; exact hk.1
        have hPn1 : ¬ P N := fun hk => by rw [hP] at hk; exact hk.2.1 rfl
        have hPi : ∀ k, k < X2.heap.size → k ≠ N → k ≠ w.heap.size + 1 → P k := fun k h1 h2 h3 => by rw [hP]; exact ⟨h1, h2, h3⟩
        clear hP
        have hnN := stX2.nN
        have hXl := stX2.told.lt
        have hs60 : w.heap.size ≤ X2.heap.size := by omega
        have hseq := TI.between_stops cmpI cmpI_ord 76 #[] (fun _ => True) cmp_fn.eg (fun w a b _ => compare_same w a b) (fun _ => trivial) 3 (U2.heap.size) (U2.heap.size + 1) (U2.heap.size + 1 + 1) M lo hi T P X2 cmX2 clX2 chX2 stX2.mp HUP.out (fun x hx => hPi x (stX2.mp.held.lt x hx) (stX2.nT x hx).2 (by have := (stX2.nT x hx).1; omega))
        rw [HTP.out, nine, if_pos hin] at hseq
        have hOB1 : OwnFrom X2.heap.size (fun (pre : List (Int × Int)) W => Boxed W N 3 (.int .i64 pre.length)) := Own.from (boxed_own _ _ (fun (pre : List (Int × Int)) => .int .i64 pre.length)) _
        have hOB2 : OwnFrom X2.heap.size (fun (_ : List (Int × Int)) W => Boxed W (w.heap.size + 1) 4 (.bool false)) := Own.from (boxed_own _ _ (fun _ => .bool false)) _
        have hOB3 : OwnFrom X2.heap.size (fun (_ : List (Int × Int)) W => KeepsT P X2 W) := ownFrom_keepsT (fun k hk => ⟨hPlt k hk, hPlt k hk⟩)
        have hOB4 : OwnFrom X2.heap.size (fun (_ : List (Int × Int)) W => Below w.heap.size w W) := ownFrom_below (Nat.le_refl _) hs60
        have hOI := OwnFrom.and hOB1 (OwnFrom.and hOB2 (OwnFrom.and hOB3 hOB4))
        have hOX := fun cd : Code => ownFrom_pure X2.heap.size (fun (pre : List (Int × Int)) => (∃ x ∈ pre, x ≠ (key, 5)) ∧ cd = .ret)
        refine (wpIn_wide (n := 4)).1 ?_
        refine' wpIn_rangeFunc_ownG rfl (by omega) (gf := 80) (lb := #[.pointer (some ⟨U2.heap.size, 0, none⟩), .pointer (some ⟨U2.heap.size + 1, 0, none⟩), .pointer (some ⟨U2.heap.size + 1 + 1, 0, none⟩)]) rfl trivial (enters_of Try.func80 (by kernel_rfl) rfl)
          hseq keepsT_t (keepsT_b hPlt) (Below.refl _ _) (fun _ => rfl)
          (fun (pre : List (Int × Int)) W => Boxed W N 3 (.int .i64 pre.length) ∧ Boxed W (w.heap.size + 1) 4 (.bool false) ∧ KeepsT P X2 W ∧ Below w.heap.size w W)
          (fun cd (pre : List (Int × Int)) W => (∃ x ∈ pre, x ≠ (key, 5)) ∧ cd = .ret)
          hOI hOX ⟨stX2.told, stX2.res, keepsT_refl _ _, stX2.bel⟩ _ ?assign ?body ?done ?stop
        case assign =>
          intro l1 x W K hK
          gi_wp2
          exact hK
        case body =>
          rintro l1 pre ⟨x1, x2⟩ W ⟨hbi, hbr, hkt, hbw⟩ hlt
          have hlt2 : pre.length < 1 := hlt
          have hci := hbi.cell
          have hfi := hbi.frozen
          have hcr := hbr.cell
          have hfr := hbr.frozen
          have hck : W.cell? ⟨w.heap.size, 0, none⟩ = some (.int .i64 key) := (keepsT_cell hkt (p := ⟨w.heap.size, 0, none⟩) (hPi w.heap.size (by omega) (by omega) (by omega))).trans stX2.ky.cell
          have hwi : IntKind.i64.wrap ((pre.length : Int) + 1) = (pre.length : Int) + 1 := wrap_small _ (by omega) (by omega)
          have HBI := hid hbi
          have HBR := hid hbr
          have HKT := hid hkt
          have HBW := hid hbw
          have HLN : Hid (((pre ++ [(x1, x2)]).length : Int) = (pre.length : Int) + 1) := by show _ = _; simp
          clear hbi hbr hkt hbw hseq hOB1 hOB2 hOB3 hOB4 hOI hOX
          by_cases h1 : x1 = key
          · by_cases h2 : x2 = 5
            · have e1 : (x1 != key) = false := by simp [h1]
              have e2 : (x2 != 5) = false := by simp [h2]
              clear h1 h2
              gi_wp2_with fail
              refine ⟨(KeepsOthers.setCell _ _ _).from _, keepsT_set (keepsT_refl _ _) (p := ⟨N, 0, none⟩) hPn1 _, ?_, HBR.out.other (by omega) _, keepsT_set HKT.out (p := ⟨N, 0, none⟩) hPn1 _, HBW.out.setCell (p := ⟨N, 0, none⟩) (by show w.heap.size ≤ N; omega) _⟩
              rw [HLN.out]; exact HBI.out.set _
            · have e1 : (x1 != key) = false := by simp [h1]
              have e2 : (x2 != 5) = true := by simp [h2]
              have HN : Hid (∃ x ∈ pre ++ [(x1, x2)], x ≠ (key, 5)) := ⟨(x1, x2), by simp, fun e => h2 (by injection e)⟩
              clear h1 h2
              gi_wp2_with fail
              exact ⟨(KeepsOthers.setCell _ _ _).from _, HN.out, rfl⟩
          · have e1 : (x1 != key) = true := by simp [h1]
            have HN : Hid (∃ x ∈ pre ++ [(x1, x2)], x ≠ (key, 5)) := ⟨(x1, x2), by simp, fun e => h1 (by injection e)⟩
            clear h1
            gi_wp2_with fail
            exact ⟨(KeepsOthers.setCell _ _ _).from _, HN.out, rfl⟩
        case stop =>
          rintro D cd pre W hD hSp ⟨⟨x, hx, hne⟩, _⟩ hKD
          exfalso
          have := hSp.subset hx
          exact hne (by simpa using this)
        case done =>
          rintro D2 ys V3 hD hys ⟨hbi, hbr, hkt, hbw⟩ hKD
          have stV3 := (stX2.keeps (u := 1) hkt hPi (by have h := hbi; rw [hys] at h; exact h) hbr hbw).more hKD (by omega) (fun d hd => by have := (Array.getElem?_eq_some_iff.1 (stX2.ds d hd)).1; omega)
          have hc1 := stV3.told.cell
          clear hbi hbr hkt hbw hKD hys hseq hOB1 hOB2 hOB3 hOB4 hOI hOX hPlt hPn1 hPi hnN hXl hs60 hnb hnp
          have hfz := stV3.res.frozen
          have hcz := stV3.res.cell
          go_wp2_with fail
          clear hc1 hfz hcz
          clear hin
          rw [rounds_succ]
          go_wp2_with fail
          refine (TI.all_any V3 none).mono ?_
          rintro e U3 ⟨rfl, hU3⟩
          have hbU3 : Below V3.heap.size V3 U3 := by rw [hU3]; exact (Below.refl _ V3).alloc (Nat.le_refl _) _
          have cmU3 : U3.cell? ⟨V3.heap.size, 0, none⟩ = some (.pointer none) := by rw [hU3]; exact (Boxed.new V3 _ _).cell
          have stU3 := stV3.below hbU3
          clear hU3
          go_wp2_with fail
          refine (TI.all_any U3 (some ⟨M, 0, none⟩)).mono ?_
          rintro e U3b ⟨rfl, hU3b⟩
          have hbU3b : Below U3.heap.size U3 U3b := by rw [hU3b]; exact (Below.refl _ U3).alloc (Nat.le_refl _) _
          have cmU3b : U3b.cell? ⟨U3.heap.size, 0, none⟩ = some (.pointer (some ⟨M, 0, none⟩)) := by rw [hU3b]; exact (Boxed.new U3 _ _).cell
          have stU3b := stU3.below hbU3b
          clear hU3b
          have hc1 := stU3b.told.cell
          have hf1 := stU3b.told.frozen
          have hc2 := stU3b.ky.cell
          have hlt1 := stU3b.told.lt
          have hnb := hbU3b.size
          have hnp := stU3.told.lt
          go_wp2_with fail
          obtain ⟨X3, hX3⟩ : ∃ X3, X3 = U3b.setCell ⟨N, 0, none⟩ (.int .i64 0) := ⟨_, rfl⟩
          rw [← hX3]
          have stX3 : NoSt w X3 N M 0 key T [D2, D1, D0] := by rw [hX3]; exact stU3b.set 0
          have cmX3 : X3.cell? ⟨U3.heap.size, 0, none⟩ = some (.pointer (some ⟨M, 0, none⟩)) := by rw [hX3]; exact (World.cell?_setCell_other _ _ _ _ (by intro e; injection e with e; omega)).trans cmU3b
          clear hX3 hc1 hf1 hc2 hlt1
          obtain ⟨P, hP⟩ : ∃ P : Nat → Prop, P = fun x => x < X3.heap.size ∧ x ≠ N ∧ x ≠ w.heap.size + 1 := ⟨_, rfl⟩
          have hPlt : ∀ k, P k → k < X3.heap.size := fun k hk => by rw [hP] at hk; exact hk.1
          have hPn1 : ¬ P N := fun hk => by rw [hP] at hk; exact hk.2.1 rfl
          have hPi : ∀ k, k < X3.heap.size → k ≠ N → k ≠ w.heap.size + 1 → P k := fun k h1 h2 h3 => by rw [hP]; exact ⟨h1, h2, h3⟩
          clear hP
          have hnN := stX3.nN
          have hXl := stX3.told.lt
          have hs60 : w.heap.size ≤ X3.heap.size := by omega
          have hseq := TI.all_stops 3 (U3.heap.size) M 76 #[] T P X3 cmX3 stX3.mp (fun x hx => hPi x (stX3.mp.held.lt x hx) (stX3.nT x hx).2 (by have := (stX3.nT x hx).1; omega))
          rw [HTP.out] at hseq
          have hOB1 : OwnFrom X3.heap.size (fun (pre : List (Int × Int)) W => Boxed W N 3 (.int .i64 pre.length)) := Own.from (boxed_own _ _ (fun (pre : List (Int × Int)) => .int .i64 pre.length)) _
          have hOB2 : OwnFrom X3.heap.size (fun (_ : List (Int × Int)) W => Boxed W (w.heap.size + 1) 4 (.bool false)) := Own.from (boxed_own _ _ (fun _ => .bool false)) _
          have hOB3 : OwnFrom X3.heap.size (fun (_ : List (Int × Int)) W => KeepsT P X3 W) := ownFrom_keepsT (fun k hk => ⟨hPlt k hk, hPlt k hk⟩)
          have hOB4 : OwnFrom X3.heap.size (fun (_ : List (Int × Int)) W => Below w.heap.size w W) := ownFrom_below (Nat.le_refl _) hs60
          have hOI := OwnFrom.and hOB1 (OwnFrom.and hOB2 (OwnFrom.and hOB3 hOB4))
          have hOX := fun cd : Code => ownFrom_pure X3.heap.size (fun (pre : List (Int × Int)) => (∃ x ∈ pre, x ≠ (key, 5)) ∧ cd = .ret)
          refine (wpIn_wide (n := 4)).1 ?_
          refine' wpIn_rangeFunc_ownG rfl (by omega) (gf := 78) (lb := #[.pointer (some ⟨U3.heap.size, 0, none⟩)]) rfl trivial (enters_of Try.func78 (by kernel_rfl) rfl)
            hseq keepsT_t (keepsT_b hPlt) (Below.refl _ _) (fun _ => rfl)
            (fun (pre : List (Int × Int)) W => Boxed W N 3 (.int .i64 pre.length) ∧ Boxed W (w.heap.size + 1) 4 (.bool false) ∧ KeepsT P X3 W ∧ Below w.heap.size w W)
            (fun cd (pre : List (Int × Int)) W => (∃ x ∈ pre, x ≠ (key, 5)) ∧ cd = .ret)
            hOI hOX ⟨stX3.told, stX3.res, keepsT_refl _ _, stX3.bel⟩ _ ?assign ?body ?done ?stop
          case assign =>
            intro l1 x W K hK
            gi_wp2
            exact hK
          case body =>
            rintro l1 pre ⟨x1, x2⟩ W ⟨hbi, hbr, hkt, hbw⟩ hlt
            have hlt2 : pre.length < 1 := hlt
            have hci := hbi.cell
            have hfi := hbi.frozen
            have hcr := hbr.cell
            have hfr := hbr.frozen
            have hck : W.cell? ⟨w.heap.size, 0, none⟩ = some (.int .i64 key) := (keepsT_cell hkt (p := ⟨w.heap.size, 0, none⟩) (hPi w.heap.size (by omega) (by omega) (by omega))).trans stX3.ky.cell
            have hwi : IntKind.i64.wrap ((pre.length : Int) + 1) = (pre.length : Int) + 1 := wrap_small _ (by omega) (by omega)
            have HBI := hid hbi
            have HBR := hid hbr
            have HKT := hid hkt
            have HBW := hid hbw
            have HLN : Hid (((pre ++ [(x1, x2)]).length : Int) = (pre.length : Int) + 1) := by show _ = _; simp
            clear hbi hbr hkt hbw hseq hOB1 hOB2 hOB3 hOB4 hOI hOX
            by_cases h1 : x1 = key
            · by_cases h2 : x2 = 5
              · have e1 : (x1 != key) = false := by simp [h1]
                have e2 : (x2 != 5) = false := by simp [h2]
                clear h1 h2
                gi_wp2_with fail
                refine ⟨(KeepsOthers.setCell _ _ _).from _, keepsT_set (keepsT_refl _ _) (p := ⟨N, 0, none⟩) hPn1 _, ?_, HBR.out.other (by omega) _, keepsT_set HKT.out (p := ⟨N, 0, none⟩) hPn1 _, HBW.out.setCell (p := ⟨N, 0, none⟩) (by show w.heap.size ≤ N; omega) _⟩
                rw [HLN.out]; exact HBI.out.set _
              · have e1 : (x1 != key) = false := by simp [h1]
                have e2 : (x2 != 5) = true := by simp [h2]
                have HN : Hid (∃ x ∈ pre ++ [(x1, x2)], x ≠ (key, 5)) := ⟨(x1, x2), by simp, fun e => h2 (by injection e)⟩
                clear h1 h2
                gi_wp2_with fail
                exact ⟨(KeepsOthers.setCell _ _ _).from _, HN.out, rfl⟩
            · have e1 : (x1 != key) = true := by simp [h1]
              have HN : Hid (∃ x ∈ pre ++ [(x1, x2)], x ≠ (key, 5)) := ⟨(x1, x2), by simp, fun e => h1 (by injection e)⟩
              clear h1
              gi_wp2_with fail
              exact ⟨(KeepsOthers.setCell _ _ _).from _, HN.out, rfl⟩
          case stop =>
            rintro D cd pre W hD hSp ⟨⟨x, hx, hne⟩, _⟩ hKD
            exfalso
            have := hSp.subset hx
            exact hne (by simpa using this)
          case done =>
            rintro D3 ys V4 hD hys ⟨hbi, hbr, hkt, hbw⟩ hKD
            have stV4 := (stX3.keeps (u := 1) hkt hPi (by have h := hbi; rw [hys] at h; exact h) hbr hbw).more hKD (by omega) (fun d hd => by have := (Array.getElem?_eq_some_iff.1 (stX3.ds d hd)).1; omega)
            have hc1 := stV4.told.cell
            clear hbi hbr hkt hbw hKD hys hseq hOB1 hOB2 hOB3 hOB4 hOI hOX hPlt hPn1 hPi hnN hXl hs60 hnb hnp
            have hfz := stV4.res.frozen
            have hcz := stV4.res.cell
            go_wp2_with fail
            clear hc1 hfz hcz
            rw [rounds_succ]
            have hcz := stV4.res.cell
            have hfz := stV4.res.frozen
            go_wp2_with fail
            exact leaves_collected w (w.heap.size + 1) rfl rfl Try.underlying4 [D3, D2, D1, D0] _ stV4.nd (fun d hd => (Below.heap_setCell _ _ _ _ (by show d ≠ w.heap.size + 1; have := stV4.nD d hd; have := stV4.nN; omega)).trans (stV4.ds d hd)) (fun d hd => by have := stV4.nD d hd; have := stV4.nN; omega) (stV4.res.set _) (stV4.bel.setCell (p := ⟨w.heap.size + 1, 0, none⟩) (by show w.heap.size ≤ w.heap.size + 1; omega) _)
      case neg =>
        by_cases hi1 : lo ≤ key
        case pos =>
          have hi2 : ¬ key ≤ hi := fun h => hin ⟨hi1, h⟩
          go_wp2_with fail
          refine (TI.all_any V2 none).mono ?_
          rintro e U2 ⟨rfl, hU2⟩
          have hbU2 : Below V2.heap.size V2 U2 := by rw [hU2]; exact (Below.refl _ V2).alloc (Nat.le_refl _) _
          have cmU2 : U2.cell? ⟨V2.heap.size, 0, none⟩ = some (.pointer none) := by rw [hU2]; exact (Boxed.new V2 _ _).cell
          have stU2 := stV2.below hbU2
          clear hU2
          go_wp2_with fail
          refine (TI.between_any U2 (some ⟨M, 0, none⟩) lo hi).mono ?_
          rintro e U2b ⟨rfl, hU2b⟩
          have hbU2b : Below U2.heap.size U2 U2b := by rw [hU2b]; exact (((Below.refl _ U2).alloc (Nat.le_refl _) _).alloc (by simp) _).alloc (by simp; omega) _
          have cmU2b : U2b.cell? ⟨U2.heap.size, 0, none⟩ = some (.pointer (some ⟨M, 0, none⟩)) := by rw [hU2b]; exact (((Boxed.new U2 _ _).alloc _).alloc _).cell
          have clU2b : U2b.cell? ⟨U2.heap.size + 1, 0, none⟩ = some (.int .i64 lo) := by
            rw [hU2b]
            have := ((Boxed.new (U2.alloc (.cells #[.pointer (some ⟨M, 0, none⟩)] 22)) 3 (.int .i64 lo)).alloc (.cells #[.int .i64 hi] 3)).cell
            rwa [World.size_alloc] at this
          have chU2b : U2b.cell? ⟨U2.heap.size + 1 + 1, 0, none⟩ = some (.int .i64 hi) := by
            rw [hU2b]
            have := (Boxed.new ((U2.alloc (.cells #[.pointer (some ⟨M, 0, none⟩)] 22)).alloc (.cells #[.int .i64 lo] 3)) 3 (.int .i64 hi)).cell
            rwa [World.size_alloc, World.size_alloc] at this
          have stU2b := stU2.below hbU2b
          clear hU2b
          have hc1 := stU2b.told.cell
          have hf1 := stU2b.told.frozen
          have hc2 := stU2b.ky.cell
          have hlt1 := stU2b.told.lt
          have hnb := hbU2b.size
          have hnp := stU2.told.lt
          go_wp2_with fail
          obtain ⟨X2, hX2⟩ : ∃ X2, X2 = U2b.setCell ⟨N, 0, none⟩ (.int .i64 0) := ⟨_, rfl⟩
          rw [← hX2]
          have stX2 : NoSt w X2 N M 0 key T [D1, D0] := by rw [hX2]; exact stU2b.set 0
          have cmX2 : X2.cell? ⟨U2.heap.size, 0, none⟩ = some (.pointer (some ⟨M, 0, none⟩)) := by rw [hX2]; exact (World.cell?_setCell_other _ _ _ _ (by intro e; injection e with e; omega)).trans cmU2b
          have clX2 : X2.cell? ⟨U2.heap.size + 1, 0, none⟩ = some (.int .i64 lo) := by rw [hX2]; exact (World.cell?_setCell_other _ _ _ _ (by intro e; injection e with e; omega)).trans clU2b
          have chX2 : X2.cell? ⟨U2.heap.size + 1 + 1, 0, none⟩ = some (.int .i64 hi) := by rw [hX2]; exact (World.cell?_setCell_other _ _ _ _ (by intro e; injection e with e; omega)).trans chU2b
          clear hX2 hc1 hf1 hc2 hlt1
          obtain ⟨P, hP⟩ : ∃ P : Nat → Prop, P = fun x => x < X2.heap.size ∧ x ≠ N ∧ x ≠ w.heap.size + 1 := ⟨_, rfl⟩
          have hPlt : ∀ k, P k → k < X2.heap.size := fun k hk => by rw [hP] at hk; exact hk.1
          have hPn1 : ¬ P N := fun hk => by rw [hP] at hk; exact hk.2.1 rfl
          have hPi : ∀ k, k < X2.heap.size → k ≠ N → k ≠ w.heap.size + 1 → P k := fun k h1 h2 h3 => by rw [hP]; exact ⟨h1, h2, h3⟩
          clear hP
          have hnN := stX2.nN
          have hXl := stX2.told.lt
          have hs60 : w.heap.size ≤ X2.heap.size := by omega
          have hseq := TI.between_stops cmpI cmpI_ord 76 #[] (fun _ => True) cmp_fn.eg (fun w a b _ => compare_same w a b) (fun _ => trivial) 3 (U2.heap.size) (U2.heap.size + 1) (U2.heap.size + 1 + 1) M lo hi T P X2 cmX2 clX2 chX2 stX2.mp HUP.out (fun x hx => hPi x (stX2.mp.held.lt x hx) (stX2.nT x hx).2 (by have := (stX2.nT x hx).1; omega))
          rw [HTP.out, nine, if_neg hin] at hseq
          have hOB1 : OwnFrom X2.heap.size (fun (pre : List (Int × Int)) W => Boxed W N 3 (.int .i64 pre.length)) := Own.from (boxed_own _ _ (fun (pre : List (Int × Int)) => .int .i64 pre.length)) _
          have hOB2 : OwnFrom X2.heap.size (fun (_ : List (Int × Int)) W => Boxed W (w.heap.size + 1) 4 (.bool false)) := Own.from (boxed_own _ _ (fun _ => .bool false)) _
          have hOB3 : OwnFrom X2.heap.size (fun (_ : List (Int × Int)) W => KeepsT P X2 W) := ownFrom_keepsT (fun k hk => ⟨hPlt k hk, hPlt k hk⟩)
          have hOB4 : OwnFrom X2.heap.size (fun (_ : List (Int × Int)) W => Below w.heap.size w W) := ownFrom_below (Nat.le_refl _) hs60
          have hOI := OwnFrom.and hOB1 (OwnFrom.and hOB2 (OwnFrom.and hOB3 hOB4))
          have hOX := fun cd : Code => ownFrom_pure X2.heap.size (fun (pre : List (Int × Int)) => (∃ x ∈ pre, x ≠ (key, 5)) ∧ cd = .ret)
          refine (wpIn_wide (n := 4)).1 ?_
          refine' wpIn_rangeFunc_ownG rfl (by omega) (gf := 80) (lb := #[.pointer (some ⟨U2.heap.size, 0, none⟩), .pointer (some ⟨U2.heap.size + 1, 0, none⟩), .pointer (some ⟨U2.heap.size + 1 + 1, 0, none⟩)]) rfl trivial (enters_of Try.func80 (by kernel_rfl) rfl)
            hseq keepsT_t (keepsT_b hPlt) (Below.refl _ _) (fun _ => rfl)
            (fun (pre : List (Int × Int)) W => Boxed W N 3 (.int .i64 pre.length) ∧ Boxed W (w.heap.size + 1) 4 (.bool false) ∧ KeepsT P X2 W ∧ Below w.heap.size w W)
            (fun cd (pre : List (Int × Int)) W => (∃ x ∈ pre, x ≠ (key, 5)) ∧ cd = .ret)
            hOI hOX ⟨stX2.told, stX2.res, keepsT_refl _ _, stX2.bel⟩ _ ?assign ?body ?done ?stop
          case assign =>
            intro l1 x W K hK
            gi_wp2
            exact hK
          case body =>
            intro l1 pre x W _ hlt
            exact absurd hlt (Nat.not_lt_zero _)
          case stop =>
            rintro D cd pre W hD hSp ⟨⟨x, hx, hne⟩, _⟩ hKD
            exfalso
            have := hSp.subset hx
            cases this
          case done =>
            rintro D2 ys V3 hD hys ⟨hbi, hbr, hkt, hbw⟩ hKD
            have stV3 := (stX2.keeps (u := 0) hkt hPi (by have h := hbi; rw [hys] at h; exact h) hbr hbw).more hKD (by omega) (fun d hd => by have := (Array.getElem?_eq_some_iff.1 (stX2.ds d hd)).1; omega)
            have hc1 := stV3.told.cell
            clear hbi hbr hkt hbw hKD hys hseq hOB1 hOB2 hOB3 hOB4 hOI hOX hPlt hPn1 hPi hnN hXl hs60 hnb hnp
            have hfz := stV3.res.frozen
            have hcz := stV3.res.cell
            go_wp2_with fail
            clear hc1 hfz hcz
            clear hin
            rw [rounds_succ]
            go_wp2_with fail
            refine (TI.all_any V3 none).mono ?_
            rintro e U3 ⟨rfl, hU3⟩
            have hbU3 : Below V3.heap.size V3 U3 := by rw [hU3]; exact (Below.refl _ V3).alloc (Nat.le_refl _) _
            have cmU3 : U3.cell? ⟨V3.heap.size, 0, none⟩ = some (.pointer none) := by rw [hU3]; exact (Boxed.new V3 _ _).cell
            have stU3 := stV3.below hbU3
            clear hU3
            go_wp2_with fail
            refine (TI.all_any U3 (some ⟨M, 0, none⟩)).mono ?_
            rintro e U3b ⟨rfl, hU3b⟩
            have hbU3b : Below U3.heap.size U3 U3b := by rw [hU3b]; exact (Below.refl _ U3).alloc (Nat.le_refl _) _
            have cmU3b : U3b.cell? ⟨U3.heap.size, 0, none⟩ = some (.pointer (some ⟨M, 0, none⟩)) := by rw [hU3b]; exact (Boxed.new U3 _ _).cell
            have stU3b := stU3.below hbU3b
            clear hU3b
            have hc1 := stU3b.told.cell
            have hf1 := stU3b.told.frozen
            have hc2 := stU3b.ky.cell
            have hlt1 := stU3b.told.lt
            have hnb := hbU3b.size
            have hnp := stU3.told.lt
            go_wp2_with fail
            obtain ⟨X3, hX3⟩ : ∃ X3, X3 = U3b.setCell ⟨N, 0, none⟩ (.int .i64 0) := ⟨_, rfl⟩
            rw [← hX3]
            have stX3 : NoSt w X3 N M 0 key T [D2, D1, D0] := by rw [hX3]; exact stU3b.set 0
            have cmX3 : X3.cell? ⟨U3.heap.size, 0, none⟩ = some (.pointer (some ⟨M, 0, none⟩)) := by rw [hX3]; exact (World.cell?_setCell_other _ _ _ _ (by intro e; injection e with e; omega)).trans cmU3b
            clear hX3 hc1 hf1 hc2 hlt1
            obtain ⟨P, hP⟩ : ∃ P : Nat → Prop, P = fun x => x < X3.heap.size ∧ x ≠ N ∧ x ≠ w.heap.size + 1 := ⟨_, rfl⟩
            have hPlt : ∀ k, P k → k < X3.heap.size := fun k hk => by rw [hP] at hk; exact hk.1
            have hPn1 : ¬ P N := fun hk => by rw [hP] at hk; exact hk.2.1 rfl
            have hPi : ∀ k, k < X3.heap.size → k ≠ N → k ≠ w.heap.size + 1 → P k := fun k h1 h2 h3 => by rw [hP]; exact ⟨h1, h2, h3⟩
            clear hP
            have hnN := stX3.nN
            have hXl := stX3.told.lt
            have hs60 : w.heap.size ≤ X3.heap.size := by omega
            have hseq := TI.all_stops 3 (U3.heap.size) M 76 #[] T P X3 cmX3 stX3.mp (fun x hx => hPi x (stX3.mp.held.lt x hx) (stX3.nT x hx).2 (by have := (stX3.nT x hx).1; omega))
            rw [HTP.out] at hseq
            have hOB1 : OwnFrom X3.heap.size (fun (pre : List (Int × Int)) W => Boxed W N 3 (.int .i64 pre.length)) := Own.from (boxed_own _ _ (fun (pre : List (Int × Int)) => .int .i64 pre.length)) _
            have hOB2 : OwnFrom X3.heap.size (fun (_ : List (Int × Int)) W => Boxed W (w.heap.size + 1) 4 (.bool false)) := Own.from (boxed_own _ _ (fun _ => .bool false)) _
            have hOB3 : OwnFrom X3.heap.size (fun (_ : List (Int × Int)) W => KeepsT P X3 W) := ownFrom_keepsT (fun k hk => ⟨hPlt k hk, hPlt k hk⟩)
            have hOB4 : OwnFrom X3.heap.size (fun (_ : List (Int × Int)) W => Below w.heap.size w W) := ownFrom_below (Nat.le_refl _) hs60
            have hOI := OwnFrom.and hOB1 (OwnFrom.and hOB2 (OwnFrom.and hOB3 hOB4))
            have hOX := fun cd : Code => ownFrom_pure X3.heap.size (fun (pre : List (Int × Int)) => (∃ x ∈ pre, x ≠ (key, 5)) ∧ cd = .ret)
            refine (wpIn_wide (n := 4)).1 ?_
            refine' wpIn_rangeFunc_ownG rfl (by omega) (gf := 78) (lb := #[.pointer (some ⟨U3.heap.size, 0, none⟩)]) rfl trivial (enters_of Try.func78 (by kernel_rfl) rfl)
              hseq keepsT_t (keepsT_b hPlt) (Below.refl _ _) (fun _ => rfl)
              (fun (pre : List (Int × Int)) W => Boxed W N 3 (.int .i64 pre.length) ∧ Boxed W (w.heap.size + 1) 4 (.bool false) ∧ KeepsT P X3 W ∧ Below w.heap.size w W)
              (fun cd (pre : List (Int × Int)) W => (∃ x ∈ pre, x ≠ (key, 5)) ∧ cd = .ret)
              hOI hOX ⟨stX3.told, stX3.res, keepsT_refl _ _, stX3.bel⟩ _ ?assign ?body ?done ?stop
            case assign =>
              intro l1 x W K hK
              gi_wp2
              exact hK
            case body =>
              rintro l1 pre ⟨x1, x2⟩ W ⟨hbi, hbr, hkt, hbw⟩ hlt
              have hlt2 : pre.length < 1 := hlt
              have hci := hbi.cell
              have hfi := hbi.frozen
              have hcr := hbr.cell
              have hfr := hbr.frozen
              have hck : W.cell? ⟨w.heap.size, 0, none⟩ = some (.int .i64 key) := (keepsT_cell hkt (p := ⟨w.heap.size, 0, none⟩) (hPi w.heap.size (by omega) (by omega) (by omega))).trans stX3.ky.cell
              have hwi : IntKind.i64.wrap ((pre.length : Int) + 1) = (pre.length : Int) + 1 := wrap_small _ (by omega) (by omega)
              have HBI := hid hbi
              have HBR := hid hbr
              have HKT := hid hkt
              have HBW := hid hbw
              have HLN : Hid (((pre ++ [(x1, x2)]).length : Int) = (pre.length : Int) + 1) := by show _ = _; simp
              clear hbi hbr hkt hbw hseq hOB1 hOB2 hOB3 hOB4 hOI hOX
              by_cases h1 : x1 = key
              · by_cases h2 : x2 = 5
                · have e1 : (x1 != key) = false := by simp [h1]
                  have e2 : (x2 != 5) = false := by simp [h2]
                  clear h1 h2
                  gi_wp2_with fail
                  refine ⟨(KeepsOthers.setCell _ _ _).from _, keepsT_set (keepsT_refl _ _) (p := ⟨N, 0, none⟩) hPn1 _, ?_, HBR.out.other (by omega) _, keepsT_set HKT.out (p := ⟨N, 0, none⟩) hPn1 _, HBW.out.setCell (p := ⟨N, 0, none⟩) (by show w.heap.size ≤ N; omega) _⟩
                  rw [HLN.out]; exact HBI.out.set _
                · have e1 : (x1 != key) = false := by simp [h1]
                  have e2 : (x2 != 5) = true := by simp [h2]
                  have HN : Hid (∃ x ∈ pre ++ [(x1, x2)], x ≠ (key, 5)) := ⟨(x1, x2), by simp, fun e => h2 (by injection e)⟩
                  clear h1 h2
                  gi_wp2_with fail
                  exact ⟨(KeepsOthers.setCell _ _ _).from _, HN.out, rfl⟩
              · have e1 : (x1 != key) = true := by simp [h1]
                have HN : Hid (∃ x ∈ pre ++ [(x1, x2)], x ≠ (key, 5)) := ⟨(x1, x2), by simp, fun e => h1 (by injection e)⟩
                clear h1
                gi_wp2_with fail
                exact ⟨(KeepsOthers.setCell _ _ _).from _, HN.out, rfl⟩
            case stop =>
              rintro D cd pre W hD hSp ⟨⟨x, hx, hne⟩, _⟩ hKD
              exfalso
              have := hSp.subset hx
              exact hne (by simpa using this)
            case done =>
              rintro D3 ys V4 hD hys ⟨hbi, hbr, hkt, hbw⟩ hKD
              have stV4 := (stX3.keeps (u := 1) hkt hPi (by have h := hbi; rw [hys] at h; exact h) hbr hbw).more hKD (by omega) (fun d hd => by have := (Array.getElem?_eq_some_iff.1 (stX3.ds d hd)).1; omega)
              have hc1 := stV4.told.cell
              clear hbi hbr hkt hbw hKD hys hseq hOB1 hOB2 hOB3 hOB4 hOI hOX hPlt hPn1 hPi hnN hXl hs60 hnb hnp
              have hfz := stV4.res.frozen
              have hcz := stV4.res.cell
              go_wp2_with fail
              clear hc1 hfz hcz
              rw [rounds_succ]
              have hcz := stV4.res.cell
              have hfz := stV4.res.frozen
              go_wp2_with fail
              exact leaves_collected w (w.heap.size + 1) rfl rfl Try.underlying4 [D3, D2, D1, D0] _ stV4.nd (fun d hd => (Below.heap_setCell _ _ _ _ (by show d ≠ w.heap.size + 1; have := stV4.nD d hd; have := stV4.nN; omega)).trans (stV4.ds d hd)) (fun d hd => by have := stV4.nD d hd; have := stV4.nN; omega) (stV4.res.set _) (stV4.bel.setCell (p := ⟨w.heap.size + 1, 0, none⟩) (by show w.heap.size ≤ w.heap.size + 1; omega) _)
        case neg =>
          go_wp2_with fail
          refine (TI.all_any V2 none).mono ?_
          rintro e U2 ⟨rfl, hU2⟩
          have hbU2 : Below V2.heap.size V2 U2 := by rw [hU2]; exact (Below.refl _ V2).alloc (Nat.le_refl _) _
          have cmU2 : U2.cell? ⟨V2.heap.size, 0, none⟩ = some (.pointer none) := by rw [hU2]; exact (Boxed.new V2 _ _).cell
          have stU2 := stV2.below hbU2
          clear hU2
          go_wp2_with fail
          refine (TI.between_any U2 (some ⟨M, 0, none⟩) lo hi).mono ?_
          rintro e U2b ⟨rfl, hU2b⟩
          have hbU2b : Below U2.heap.size U2 U2b := by rw [hU2b]; exact (((Below.refl _ U2).alloc (Nat.le_refl _) _).alloc (by simp) _).alloc (by simp; omega) _
          have cmU2b : U2b.cell? ⟨U2.heap.size, 0, none⟩ = some (.pointer (some ⟨M, 0, none⟩)) := by rw [hU2b]; exact (((Boxed.new U2 _ _).alloc _).alloc _).cell
          have clU2b : U2b.cell? ⟨U2.heap.size + 1, 0, none⟩ = some (.int .i64 lo) := by
            rw [hU2b]
            have := ((Boxed.new (U2.alloc (.cells #[.pointer (some ⟨M, 0, none⟩)] 22)) 3 (.int .i64 lo)).alloc (.cells #[.int .i64 hi] 3)).cell
            rwa [World.size_alloc] at this
          have chU2b : U2b.cell? ⟨U2.heap.size + 1 + 1, 0, none⟩ = some (.int .i64 hi) := by
            rw [hU2b]
            have := (Boxed.new ((U2.alloc (.cells #[.pointer (some ⟨M, 0, none⟩)] 22)).alloc (.cells #[.int .i64 lo] 3)) 3 (.int .i64 hi)).cell
            rwa [World.size_alloc, World.size_alloc] at this
          have stU2b := stU2.below hbU2b
          clear hU2b
          have hc1 := stU2b.told.cell
          have hf1 := stU2b.told.frozen
          have hc2 := stU2b.ky.cell
          have hlt1 := stU2b.told.lt
          have hnb := hbU2b.size
          have hnp := stU2.told.lt
          go_wp2_with fail
          obtain ⟨X2, hX2⟩ : ∃ X2, X2 = U2b.setCell ⟨N, 0, none⟩ (.int .i64 0) := ⟨_, rfl⟩
          rw [← hX2]
          have stX2 : NoSt w X2 N M 0 key T [D1, D0] := by rw [hX2]; exact stU2b.set 0
          have cmX2 : X2.cell? ⟨U2.heap.size, 0, none⟩ = some (.pointer (some ⟨M, 0, none⟩)) := by rw [hX2]; exact (World.cell?_setCell_other _ _ _ _ (by intro e; injection e with e; omega)).trans cmU2b
          have clX2 : X2.cell? ⟨U2.heap.size + 1, 0, none⟩ = some (.int .i64 lo) := by rw [hX2]; exact (World.cell?_setCell_other _ _ _ _ (by intro e; injection e with e; omega)).trans clU2b
          have chX2 : X2.cell? ⟨U2.heap.size + 1 + 1, 0, none⟩ = some (.int .i64 hi) := by rw [hX2]; exact (World.cell?_setCell_other _ _ _ _ (by intro e; injection e with e; omega)).trans chU2b
          clear hX2 hc1 hf1 hc2 hlt1
          obtain ⟨P, hP⟩ : ∃ P : Nat → Prop, P = fun x => x < X2.heap.size ∧ x ≠ N ∧ x ≠ w.heap.size + 1 := ⟨_, rfl⟩
          have hPlt : ∀ k, P k → k < X2.heap.size := fun k hk => by rw [hP] at hk; exact hk.1
          have hPn1 : ¬ P N := fun hk => by rw [hP] at hk; exact hk.2.1 rfl
          have hPi : ∀ k, k < X2.heap.size → k ≠ N → k ≠ w.heap.size + 1 → P k := fun k h1 h2 h3 => by rw [hP]; exact ⟨h1, h2, h3⟩
          clear hP
          have hnN := stX2.nN
          have hXl := stX2.told.lt
          have hs60 : w.heap.size ≤ X2.heap.size := by omega
          have hseq := TI.between_stops cmpI cmpI_ord 76 #[] (fun _ => True) cmp_fn.eg (fun w a b _ => compare_same w a b) (fun _ => trivial) 3 (U2.heap.size) (U2.heap.size + 1) (U2.heap.size + 1 + 1) M lo hi T P X2 cmX2 clX2 chX2 stX2.mp HUP.out (fun x hx => hPi x (stX2.mp.held.lt x hx) (stX2.nT x hx).2 (by have := (stX2.nT x hx).1; omega))
          rw [HTP.out, nine, if_neg hin] at hseq
          have hOB1 : OwnFrom X2.heap.size (fun (pre : List (Int × Int)) W => Boxed W N 3 (.int .i64 pre.length)) := Own.from (boxed_own _ _ (fun (pre : List (Int × Int)) => .int .i64 pre.length)) _
          have hOB2 : OwnFrom X2.heap.size (fun (_ : List (Int × Int)) W => Boxed W (w.heap.size + 1) 4 (.bool false)) := Own.from (boxed_own _ _ (fun _ => .bool false)) _
          have hOB3 : OwnFrom X2.heap.size (fun (_ : List (Int × Int)) W => KeepsT P X2 W) := ownFrom_keepsT (fun k hk => ⟨hPlt k hk, hPlt k hk⟩)
          have hOB4 : OwnFrom X2.heap.size (fun (_ : List (Int × Int)) W => Below w.heap.size w W) := ownFrom_below (Nat.le_refl _) hs60
          have hOI := OwnFrom.and hOB1 (OwnFrom.and hOB2 (OwnFrom.and hOB3 hOB4))
          have hOX := fun cd : Code => ownFrom_pure X2.heap.size (fun (pre : List (Int × Int)) => (∃ x ∈ pre, x ≠ (key, 5)) ∧ cd = .ret)
          refine (wpIn_wide (n := 4)).1 ?_
          refine' wpIn_rangeFunc_ownG rfl (by omega) (gf := 80) (lb := #[.pointer (some ⟨U2.heap.size, 0, none⟩), .pointer (some ⟨U2.heap.size + 1, 0, none⟩), .pointer (some ⟨U2.heap.size + 1 + 1, 0, none⟩)]) rfl trivial (enters_of Try.func80 (by kernel_rfl) rfl)
            hseq keepsT_t (keepsT_b hPlt) (Below.refl _ _) (fun _ => rfl)
            (fun (pre : List (Int × Int)) W => Boxed W N 3 (.int .i64 pre.length) ∧ Boxed W (w.heap.size + 1) 4 (.bool false) ∧ KeepsT P X2 W ∧ Below w.heap.size w W)
            (fun cd (pre : List (Int × Int)) W => (∃ x ∈ pre, x ≠ (key, 5)) ∧ cd = .ret)
            hOI hOX ⟨stX2.told, stX2.res, keepsT_refl _ _, stX2.bel⟩ _ ?assign ?body ?done ?stop
          case assign =>
            intro l1 x W K hK
            gi_wp2
            exact hK
          case body =>
            intro l1 pre x W _ hlt
            exact absurd hlt (Nat.not_lt_zero _)
          case stop =>
            rintro D cd pre W hD hSp ⟨⟨x, hx, hne⟩, _⟩ hKD
            exfalso
            have := hSp.subset hx
            cases this
          case done =>
            rintro D2 ys V3 hD hys ⟨hbi, hbr, hkt, hbw⟩ hKD
            have stV3 := (stX2.keeps (u := 0) hkt hPi (by have h := hbi; rw [hys] at h; exact h) hbr hbw).more hKD (by omega) (fun d hd => by have := (Array.getElem?_eq_some_iff.1 (stX2.ds d hd)).1; omega)
            have hc1 := stV3.told.cell
            clear hbi hbr hkt hbw hKD hys hseq hOB1 hOB2 hOB3 hOB4 hOI hOX hPlt hPn1 hPi hnN hXl hs60 hnb hnp
            have hfz := stV3.res.frozen
            have hcz := stV3.res.cell
            go_wp2_with fail
            clear hc1 hfz hcz
            clear hin
            rw [rounds_succ]
            go_wp2_with fail
            refine (TI.all_any V3 none).mono ?_
            rintro e U3 ⟨rfl, hU3⟩
            have hbU3 : Below V3.heap.size V3 U3 := by rw [hU3]; exact (Below.refl _ V3).alloc (Nat.le_refl _) _
            have cmU3 : U3.cell? ⟨V3.heap.size, 0, none⟩ = some (.pointer none) := by rw [hU3]; exact (Boxed.new V3 _ _).cell
            have stU3 := stV3.below hbU3
            clear hU3
            go_wp2_with fail
            refine (TI.all_any U3 (some ⟨M, 0, none⟩)).mono ?_
            rintro e U3b ⟨rfl, hU3b⟩
            have hbU3b : Below U3.heap.size U3 U3b := by rw [hU3b]; exact (Below.refl _ U3).alloc (Nat.le_refl _) _
            have cmU3b : U3b.cell? ⟨U3.heap.size, 0, none⟩ = some (.pointer (some ⟨M, 0, none⟩)) := by rw [hU3b]; exact (Boxed.new U3 _ _).cell
            have stU3b := stU3.below hbU3b
            clear hU3b
            have hc1 := stU3b.told.cell
            have hf1 := stU3b.told.frozen
            have hc2 := stU3b.ky.cell
            have hlt1 := stU3b.told.lt
            have hnb := hbU3b.size
            have hnp := stU3.told.lt
            go_wp2_with fail
            obtain ⟨X3, hX3⟩ : ∃ X3, X3 = U3b.setCell ⟨N, 0, none⟩ (.int .i64 0) := ⟨_, rfl⟩
            rw [← hX3]
            have stX3 : NoSt w X3 N M 0 key T [D2, D1, D0] := by rw [hX3]; exact stU3b.set 0
            have cmX3 : X3.cell? ⟨U3.heap.size, 0, none⟩ = some (.pointer (some ⟨M, 0, none⟩)) := by rw [hX3]; exact (World.cell?_setCell_other _ _ _ _ (by intro e; injection e with e; omega)).trans cmU3b
            clear hX3 hc1 hf1 hc2 hlt1
            obtain ⟨P, hP⟩ : ∃ P : Nat → Prop, P = fun x => x < X3.heap.size ∧ x ≠ N ∧ x ≠ w.heap.size + 1 := ⟨_, rfl⟩
            have hPlt : ∀ k, P k → k < X3.heap.size := fun k hk => by rw [hP] at hk; exact hk.1
            have hPn1 : ¬ P N := fun hk => by rw [hP] at hk; exact hk.2.1 rfl
            have hPi : ∀ k, k < X3.heap.size → k ≠ N → k ≠ w.heap.size + 1 → P k := fun k h1 h2 h3 => by rw [hP]; exact ⟨h1, h2, h3⟩
            clear hP
            have hnN := stX3.nN
            have hXl := stX3.told.lt
            have hs60 : w.heap.size ≤ X3.heap.size := by omega
            have hseq := TI.all_stops 3 (U3.heap.size) M 76 #[] T P X3 cmX3 stX3.mp (fun x hx => hPi x (stX3.mp.held.lt x hx) (stX3.nT x hx).2 (by have := (stX3.nT x hx).1; omega))
            rw [HTP.out] at hseq
            have hOB1 : OwnFrom X3.heap.size (fun (pre : List (Int × Int)) W => Boxed W N 3 (.int .i64 pre.length)) := Own.from (boxed_own _ _ (fun (pre : List (Int × Int)) => .int .i64 pre.length)) _
            have hOB2 : OwnFrom X3.heap.size (fun (_ : List (Int × Int)) W => Boxed W (w.heap.size + 1) 4 (.bool false)) := Own.from (boxed_own _ _ (fun _ => .bool false)) _
            have hOB3 : OwnFrom X3.heap.size (fun (_ : List (Int × Int)) W => KeepsT P X3 W) := ownFrom_keepsT (fun k hk => ⟨hPlt k hk, hPlt k hk⟩)
            have hOB4 : OwnFrom X3.heap.size (fun (_ : List (Int × Int)) W => Below w.heap.size w W) := ownFrom_below (Nat.le_refl _) hs60
            have hOI := OwnFrom.and hOB1 (OwnFrom.and hOB2 (OwnFrom.and hOB3 hOB4))
            have hOX := fun cd : Code => ownFrom_pure X3.heap.size (fun (pre : List (Int × Int)) => (∃ x ∈ pre, x ≠ (key, 5)) ∧ cd = .ret)
            refine (wpIn_wide (n := 4)).1 ?_
            refine' wpIn_rangeFunc_ownG rfl (by omega) (gf := 78) (lb := #[.pointer (some ⟨U3.heap.size, 0, none⟩)]) rfl trivial (enters_of Try.func78 (by kernel_rfl) rfl)
              hseq keepsT_t (keepsT_b hPlt) (Below.refl _ _) (fun _ => rfl)
              (fun (pre : List (Int × Int)) W => Boxed W N 3 (.int .i64 pre.length) ∧ Boxed W (w.heap.size + 1) 4 (.bool false) ∧ KeepsT P X3 W ∧ Below w.heap.size w W)
              (fun cd (pre : List (Int × Int)) W => (∃ x ∈ pre, x ≠ (key, 5)) ∧ cd = .ret)
              hOI hOX ⟨stX3.told, stX3.res, keepsT_refl _ _, stX3.bel⟩ _ ?assign ?body ?done ?stop
            case assign =>
              intro l1 x W K hK
              gi_wp2
              exact hK
            case body =>
              rintro l1 pre ⟨x1, x2⟩ W ⟨hbi, hbr, hkt, hbw⟩ hlt
              have hlt2 : pre.length < 1 := hlt
              have hci := hbi.cell
              have hfi := hbi.frozen
              have hcr := hbr.cell
              have hfr := hbr.frozen
              have hck : W.cell? ⟨w.heap.size, 0, none⟩ = some (.int .i64 key) := (keepsT_cell hkt (p := ⟨w.heap.size, 0, none⟩) (hPi w.heap.size (by omega) (by omega) (by omega))).trans stX3.ky.cell
              have hwi : IntKind.i64.wrap ((pre.length : Int) + 1) = (pre.length : Int) + 1 := wrap_small _ (by omega) (by omega)
              have HBI := hid hbi
              have HBR := hid hbr
              have HKT := hid hkt
              have HBW := hid hbw
              have HLN : Hid (((pre ++ [(x1, x2)]).length : Int) = (pre.length : Int) + 1) := by show _ = _; simp
              clear hbi hbr hkt hbw hseq hOB1 hOB2 hOB3 hOB4 hOI hOX
              by_cases h1 : x1 = key
              · by_cases h2 : x2 = 5
                · have e1 : (x1 != key) = false := by simp [h1]
                  have e2 : (x2 != 5) = false := by simp [h2]
                  clear h1 h2
                  gi_wp2_with fail
                  refine ⟨(KeepsOthers.setCell _ _ _).from _, keepsT_set (keepsT_refl _ _) (p := ⟨N, 0, none⟩) hPn1 _, ?_, HBR.out.other (by omega) _, keepsT_set HKT.out (p := ⟨N, 0, none⟩) hPn1 _, HBW.out.setCell (p := ⟨N, 0, none⟩) (by show w.heap.size ≤ N; omega) _⟩
                  rw [HLN.out]; exact HBI.out.set _
                · have e1 : (x1 != key) = false := by simp [h1]
                  have e2 : (x2 != 5) = true := by simp [h2]
                  have HN : Hid (∃ x ∈ pre ++ [(x1, x2)], x ≠ (key, 5)) := ⟨(x1, x2), by simp, fun e => h2 (by injection e)⟩
                  clear h1 h2
                  gi_wp2_with fail
                  exact ⟨(KeepsOthers.setCell _ _ _).from _, HN.out, rfl⟩
              · have e1 : (x1 != key) = true := by simp [h1]
                have HN : Hid (∃ x ∈ pre ++ [(x1, x2)], x ≠ (key, 5)) := ⟨(x1, x2), by simp, fun e => h1 (by injection e)⟩
                clear h1
                gi_wp2_with fail
                exact ⟨(KeepsOthers.setCell _ _ _).from _, HN.out, rfl⟩
            case stop =>
              rintro D cd pre W hD hSp ⟨⟨x, hx, hne⟩, _⟩ hKD
              exfalso
              have := hSp.subset hx
              exact hne (by simpa using this)
            case done =>
              rintro D3 ys V4 hD hys ⟨hbi, hbr, hkt, hbw⟩ hKD
              have stV4 := (stX3.keeps (u := 1) hkt hPi (by have h := hbi; rw [hys] at h; exact h) hbr hbw).more hKD (by omega) (fun d hd => by have := (Array.getElem?_eq_some_iff.1 (stX3.ds d hd)).1; omega)
              have hc1 := stV4.told.cell
              clear hbi hbr hkt hbw hKD hys hseq hOB1 hOB2 hOB3 hOB4 hOI hOX hPlt hPn1 hPi hnN hXl hs60 hnb hnp
              have hfz := stV4.res.frozen
              have hcz := stV4.res.cell
              go_wp2_with fail
              clear hc1 hfz hcz
              rw [rounds_succ]
              have hcz := stV4.res.cell
              have hfz := stV4.res.frozen
              go_wp2_with fail
              exact leaves_collected w (w.heap.size + 1) rfl rfl Try.underlying4 [D3, D2, D1, D0] _ stV4.nd (fun d hd => (Below.heap_setCell _ _ _ _ (by show d ≠ w.heap.size + 1; have := stV4.nD d hd; have := stV4.nN; omega)).trans (stV4.ds d hd)) (fun d hd => by have := stV4.nD d hd; have := stV4.nN; omega) (stV4.res.set _) (stV4.bel.setCell (p := ⟨w.heap.size + 1, 0, none⟩) (by show w.heap.size ≤ w.heap.size + 1; omega) _)
end Go.Proofs.Ytfjeagffdijcoaa
