/- Layer 7: the walk of StoreBetween. -/
import Derived.Test.YtfjeagffdijcoaaRb
import Derived.Test.YtfjeagffdijcoaaIt
namespace Go.Proofs.Ytfjeagffdijcoaa
open Go.RowKit Go.Shelf
attribute [local go_sem] Oper.semAt_some

theorem ownFrom_keepsT {β : Type} {B : Nat} {P : Nat → Prop} {W0 : World} (hP : ∀ k, P k → k < B ∧ k < W0.heap.size) : OwnFrom B (fun (_ : β) W => KeepsT P W0 W) := fun _ X Y row hs hg hr k hk => by
  have h1 := hs k hk
  have hlt := (hP k hk).2
  have h2 : W0.heap[k]? = some (W0.heap[k]'hlt) := Array.getElem?_eq_getElem hlt
  have h3 : k < X.heap.size := by
    rw [h2] at h1
    exact (Array.getElem?_eq_some_iff.1 h1).1
  refine (hg.block k h3 (fun e => ?_)).trans h1
  have := (hr k e.symm).1
  have := (hP k hk).1
  omega
theorem OwnFrom.or {β : Type} {B : Nat} {I I' : β → World → Prop} (h : OwnFrom B I) (h' : OwnFrom B I') : OwnFrom B (fun s W => I s W ∨ I' s W) := fun s W W' row hs hg hr => hs.imp (fun x => h s W W' row x hg hr) (fun x => h' s W W' row x hg hr)
theorem keepsT_b {P : Nat → Prop} {B : Nat} (hP : ∀ k, P k → k < B) : ∀ (W : World) (l : Nat) (o o' : Obj), B ≤ l → W.heap[l]? = some o → o.isCells = false → o.isWalk = false → KeepsT P W (W.putObj l o') := fun W l o o' hl _ _ _ k hk => World.putObj_heap_other (by have := hP k hk; omega)
theorem keepsT_set {P : Nat → Prop} {A B : World} (h : KeepsT P A B) {p : Addr} (hp : ¬ P p.block) (u : Value) : KeepsT P A (B.setCell p u) := fun k hk => (Below.heap_setCell _ _ _ _ (fun e => hp (e ▸ hk))).trans (h k hk)
theorem prefix_snoc {α : Type} {pre L : List α} (h : pre <+: L) (x : α) : pre ++ [x] <+: L ↔ L[pre.length]? = some x := by
  obtain ⟨t, rfl⟩ := h
  constructor
  · rintro ⟨s, hs⟩
    rw [List.append_assoc] at hs
    have := List.append_cancel_left hs
    rw [← this]
    simp
  · intro he
    rw [List.getElem?_append_right (Nat.le_refl _), Nat.sub_self] at he
    cases t with
    | nil => simp at he
    | cons y t =>
      simp at he
      subst he
      exact ⟨t, by simp⟩

theorem results_cell1 {P : Program} {fn : Func} {q : Tmp} {ty : TypeId} (h : fn.results = #[.cell q ty]) (tmps : Array Value) (w : World) (g : Nat) (v : Value) (hp : tmps.getD q undef = .pointer (some ⟨g, 0, none⟩)) (hu : P.underlying ty = some .bool) (hc : w.cell? ⟨g, 0, none⟩ = some v) :
    (results fn tmps).run P w = .ok v w := by
  have hp' : tmps[q]?.getD undef = .pointer (some ⟨g, 0, none⟩) := by simpa using hp
  simp [go_sem, results, h, hp', asAddr, loadVar, isAgg, run_underlying hu, hc, Result.andThen]

theorem IsMap_keeps {P : Nat → Prop} {A B : World} {M g : Nat} {cb : Array Value} {T : Tr Int Int} (h : TI.IsMap A M g cb T) (hk : KeepsT P A B) (hM : P M) (hT : ∀ x ∈ T.blocks, P x) : TI.IsMap B M g cb T :=
  ⟨(keepsT_cell hk (p := ⟨M, 0, none⟩) hM).trans h.ord, (keepsT_cell hk (p := ⟨M, 1, none⟩) hM).trans h.root, (World.frozen?_of_block (a := ⟨M, 1, none⟩) (hk M hM)).trans h.fz, h.held.keeps hk hT, h.nodup, h.bal, h.out⟩

set_option maxRecDepth 100000 in
set_option maxHeartbeats 4000000 in
theorem storeBetween_walk (w : World) (A : Option Addr) (n c : Nat) (ks : List Int) (A' : Option Addr) (n' c' : Nat) (os : List Int) (lo hi stop : Int)
    (hl : ks.length = n) (_ : n ≤ c) (_ : c ≤ maxLen) (_ : ∀ x ∈ ks, (Lit.int .i64 x).wf = true) (hn : n * 8 ≤ 140737488351232) (hR : Reads w.heap.size w i64 1 A ks)
    (hl' : os.length = n') (_ : n' ≤ c') (_ : c' ≤ maxLen) (_ : ∀ x ∈ os, (Lit.int .i64 x).wf = true) (hn' : n' * 8 ≤ 140737488351232) (hR' : Reads w.heap.size w i64 1 A' os)
    (_ : (Lit.int .i64 lo).wf = true) (_ : (Lit.int .i64 hi).wf = true) (_ : (Lit.int .i64 stop).wf = true) :
    Calls Try.prog 6 #[.slice A n c, .slice A' n' c', .int .i64 lo, .int .i64 hi, .int .i64 stop] w fun e w' => e = .returned (.bool true) ∧ Below w.heap.size w w' := by
  have hord : TI.OrdFn 76 #[] (ordI 0) (fun _ => True) (fun _ => False) := by rw [ordI0]; exact TI.cmp_fn
  have hcall : ∀ w a b, True → Calls Try.prog 76 (#[.int .i64 a, .int .i64 b] ++ #[]) w fun e w' => e = .returned (.int .i64 (ordI 0 a b)) ∧ w' = w := fun w a b _ => by rw [ordI0]; exact TI.compare_same w a b
  have hfn := fun w f a c => run_eql_func_nil (P := Try.prog) w 27 f a c Try.underlying27
  have HORD := hid hord
  have HCALL := hid hcall
  obtain ⟨wA, hwA⟩ : ∃ wA, wA = (w.alloc (.cells #[.int .i64 stop] 3)).alloc (.cells #[.bool false] 4) := ⟨_, rfl⟩
  have hbA : Below w.heap.size w wA := by rw [hwA]; exact ((Below.refl _ w).alloc (Nat.le_refl _) _).alloc (by simp) _
  have hszA : wA.heap.size = w.heap.size + 1 + 1 := by rw [hwA]; simp
  have hfl := filled_any wA A n c ks A' n' c' os hl hn ((hR.below hbA).mono (by omega)) hl' hn' ((hR'.below hbA).mono (by omega))
  have hs1 : Boxed wA w.heap.size 3 (.int .i64 stop) := by rw [hwA]; exact (Boxed.new w _ _).alloc _
  have hr1 : Boxed wA (w.heap.size + 1) 4 (.bool false) := by rw [hwA]; have := Boxed.new (w.alloc (.cells #[.int .i64 stop] 3)) 4 (.bool false); rwa [World.size_alloc] at this
  have HFL := hid hfl
  have HWA := hid hwA
  have HBA := hid hbA
  have HSZ := hid hszA
  have HS1 := hid hs1
  have HR1 := hid hr1
  clear hord hcall hfl hwA hbA hszA hs1 hr1 hR hR'
  refine (callsIn_wide (n := 4)).1 ?_
  refine callsIn_of_wp_marks Try.func6 rfl trivial ?_ rfl
  simp only [Try.ntmps6, List.size_toArray, List.length_cons, List.length_nil, Nat.reduceAdd, Nat.reduceSub, Array.replicate_succ, Array.replicate_zero, List.push_toArray, List.append_toArray, List.nil_append, List.cons_append]
  refine wpIn_wide.2 ?_
  go_wp2_with fail
  rw [← HWA.out]
  refine HFL.out.mono ?_
  rintro e w2 ⟨M, T, R, kv, vv, l, rfl, hB, hb2, hln⟩
  have hrb := refBetween_any w2 wA.heap.size R 0 kv vv l lo hi hB.rf (by omega)
  have HRB := hid hrb
  have HB := hid hB
  have HB2 := hid hb2
  clear hrb hB hb2 HFL
  go_wp2_with fail
  refine HRB.out.mono ?_
  rintro e w3 ⟨v1, v2, rfl, hTw, hb3⟩
  obtain ⟨Ak, nk, ck, Av, nv, cv, rfl, rfl⟩ := hTw.slices
  have HTW := hid hTw
  have HB3 := hid hb3
  clear hTw hb3 HRB
  go_wp2_with fail
  obtain ⟨N3, hN3⟩ : ∃ N3, N3 = w3.heap.size := ⟨_, rfl⟩
  obtain ⟨W5, hW5⟩ : ∃ W5, W5 = ((w3.alloc (.cells #[.slice Ak nk ck] 31)).alloc (.cells #[.slice Av nv cv] 31)).alloc (.cells #[.int .i64 0] 3) := ⟨_, rfl⟩
  have hs5 : W5.heap.size = N3 + 1 + 1 + 1 := by rw [hW5, hN3]; simp
  have hb5 : Below N3 w3 W5 := by rw [hW5, hN3]; exact (((Below.refl _ w3).alloc (Nat.le_refl _) _).alloc (by simp) _).alloc (by simp; omega) _
  have bk5 : Boxed W5 N3 31 (.slice Ak nk ck) := by rw [hW5, hN3]; exact ((Boxed.new w3 _ _).alloc _).alloc _
  have bv5 : Boxed W5 (N3 + 1) 31 (.slice Av nv cv) := by
    rw [hW5, hN3]
    have := (Boxed.new (w3.alloc (.cells #[.slice Ak nk ck] 31)) 31 (.slice Av nv cv)).alloc (.cells #[.int .i64 0] 3)
    rwa [World.size_alloc] at this
  have bi5 : Boxed W5 (N3 + 1 + 1) 3 (.int .i64 0) := by
    rw [hW5, hN3]
    have := Boxed.new ((w3.alloc (.cells #[.slice Ak nk ck] 31)).alloc (.cells #[.slice Av nv cv] 31)) 3 (.int .i64 0)
    rwa [World.size_alloc, World.size_alloc] at this
  rw [← hW5, ← hN3]
  have HW5 := hid hW5
  have HN3 := hid hN3
  clear hW5 hN3
  refine (TI.between_any W5 (some ⟨M, 0, none⟩) lo hi).mono ?_
  rintro e w6 ⟨rfl, hw6⟩
  have hb6 : Below (N3 + 1 + 1 + 1) W5 w6 := by rw [hw6, ← hs5]; exact (((Below.refl _ W5).alloc (Nat.le_refl _) _).alloc (by simp) _).alloc (by simp; omega) _
  have hs6 : w6.heap.size = N3 + 1 + 1 + 1 + 1 + 1 + 1 := by rw [hw6]; simp; omega
  have cm6 : w6.cell? ⟨N3 + 1 + 1 + 1, 0, none⟩ = some (.pointer (some ⟨M, 0, none⟩)) := by
    rw [hw6, ← hs5]
    exact (((Boxed.new W5 _ _).alloc _).alloc _).cell
  have cl6 : w6.cell? ⟨N3 + 1 + 1 + 1 + 1, 0, none⟩ = some (.int .i64 lo) := by
    rw [hw6, ← hs5]
    have := ((Boxed.new (W5.alloc (.cells #[.pointer (some ⟨M, 0, none⟩)] 22)) 3 (.int .i64 lo)).alloc (.cells #[.int .i64 hi] 3)).cell
    rwa [World.size_alloc] at this
  have ch6 : w6.cell? ⟨N3 + 1 + 1 + 1 + 1 + 1, 0, none⟩ = some (.int .i64 hi) := by
    rw [hw6, ← hs5]
    have := (Boxed.new ((W5.alloc (.cells #[.pointer (some ⟨M, 0, none⟩)] 22)).alloc (.cells #[.int .i64 lo] 3)) 3 (.int .i64 hi)).cell
    rwa [World.size_alloc, World.size_alloc] at this
  rw [hs5]
  have hsA := HSZ.out
  have hs2 := HB2.out.size
  have hs3 := HB3.out.size
  have hn3 := HN3.out
  have hb36 : Below N3 w3 w6 := hb5.trans (hb6.mono (by omega))
  have hb26 : Below w2.heap.size w2 w6 := HB3.out.trans (hb36.mono (by omega))
  have hbA6 : Below wA.heap.size wA w6 := HB2.out.trans (hb26.mono (by omega))
  have hb06 : Below w.heap.size w w6 := HBA.out.trans (hbA6.mono (by omega))
  have hstop6 : Boxed w6 w.heap.size 3 (.int .i64 stop) := (hbA6.block w.heap.size (by omega)).trans HS1.out
  have hres6 : Boxed w6 (w.heap.size + 1) 4 (.bool false) := (hbA6.block _ (by omega)).trans HR1.out
  have hk6 : Boxed w6 N3 31 (.slice Ak nk ck) := (hb6.block _ (by omega)).trans bk5
  have hv6 : Boxed w6 (N3 + 1) 31 (.slice Av nv cv) := (hb6.block _ (by omega)).trans bv5
  have hi6 : Boxed w6 (N3 + 1 + 1) 3 (.int .i64 0) := (hb6.block _ (by omega)).trans bi5
  have hBo6 := HB.out.below hb26
  have hTw6 : Two w6 w2.heap.size (.slice Ak nk ck) (.slice Av nv cv) ((l.filter (inR (ordI 0) lo hi)).map Prod.fst) ((l.filter (inR (ordI 0) lo hi)).map Prod.snd) := by
    have hb : Wrote (fun _ => False) w3 w6 := by have := hb36; rw [hn3] at this; exact Wrote.below this
    exact ⟨ownsRow_wrote HTW.out.ks hb (fun _ _ => id), ownsRow_wrote HTW.out.vs hb (fun _ _ => id), HTW.out.ne⟩
  obtain ⟨L, hL⟩ : ∃ L, L = l.filter (inR (ordI 0) lo hi) := ⟨_, rfl⟩
  have hLl : L.length ≤ l.length := by rw [hL]; exact List.length_filter_le _ _
  rw [← hL] at hTw6
  have hTw3 := HTW.out
  rw [← hL] at hTw3
  obtain ⟨_, A2, c2, e1, _, _, hRk⟩ := owns_reads i64_len hTw3.ks (by decide)
  obtain ⟨_, A3, c3, e2, _, _, hRv⟩ := owns_reads i64_len hTw3.vs (by decide)
  cases e1
  cases e2
  rw [List.length_map] at hk6 hv6
  have HAT : Hid (∀ i, i < L.length → ∃ b off b' off' x y, Hid (L[i]? = some (x, y)) ∧ Ak = some ⟨b, off, none⟩ ∧ Av = some ⟨b', off', none⟩ ∧ (w2.heap.size ≤ b ∧ b < N3) ∧ (w2.heap.size ≤ b' ∧ b' < N3) ∧ w6.cell? ⟨b, off + i, none⟩ = some (.int .i64 x) ∧ w6.cell? ⟨b', off' + i, none⟩ = some (.int .i64 y)) := fun i hi => by
    obtain ⟨b, off, b', off', x, y, hxy, hA, hA', hb, hb', g1, g2⟩ := ref_at hRk hRv i hi
    rw [← hn3] at hb hb'
    refine ⟨b, off, b', off', x, y, hxy, hA, hA', ⟨(hTw3.ks.lt b (by rw [hA]; rfl)).1, hb⟩, ⟨(hTw3.vs.lt b' (by rw [hA']; rfl)).1, hb'⟩, Tfact' hb36 (a := ⟨b, _, none⟩) hb g1, Tfact' hb36 (a := ⟨b', _, none⟩) hb' g2⟩
  have hTp := hBo6.pr
  have hPt : ∀ x ∈ T.blocks, x < w6.heap.size ∧ x ≠ N3 + 1 + 1 ∧ x ≠ w.heap.size + 1 := fun x hx => by
    have g1 := HB.out.mp.held.lt x hx
    have g2 := HB.out.tB x hx
    omega
  obtain ⟨P, hP⟩ : ∃ P : Nat → Prop, P = fun x => x < w6.heap.size ∧ x ≠ N3 + 1 + 1 ∧ x ≠ w.heap.size + 1 := ⟨_, rfl⟩
  have hseq := TI.between_stops (ordI 0) (ordI_ord 0) 76 #[] (fun _ => True) HORD.out.eg HCALL.out (fun _ => trivial) 3 (N3 + 1 + 1 + 1) (N3 + 1 + 1 + 1 + 1) (N3 + 1 + 1 + 1 + 1 + 1) M lo hi T P w6 cm6 cl6 ch6 hBo6.mp (by rw [hTp]; exact hBo6.up) (fun x hx => by rw [hP]; exact hPt x hx)
  rw [hTp, ← hL] at hseq
  have hPlt : ∀ k, P k → k < w6.heap.size := fun k hk => by rw [hP] at hk; exact hk.1
  have hPn1 : ¬ P (N3 + 1 + 1) := fun hk => by rw [hP] at hk; exact hk.2.1 rfl
  have hPn2 : ¬ P (w.heap.size + 1) := fun hk => by rw [hP] at hk; exact hk.2.2 rfl
  have hPi : ∀ k, k < w6.heap.size → k ≠ N3 + 1 + 1 → k ≠ w.heap.size + 1 → P k := fun k h1 h2 h3 => by rw [hP]; exact ⟨h1, h2, h3⟩
  have hMP : P M := hPi M (by have := HB.out.mp.lt; omega) (by have := HB.out.mp.lt; omega) (by have := HB.out.mB; omega)
  have hTP : ∀ x ∈ T.blocks, P x := fun x hx => hPi x (hPt x hx).1 (hPt x hx).2.1 (hPt x hx).2.2
  have hRP : P R := hPi R (by have := HB.out.rf.lt; omega) (by have := HB.out.rf.lt; omega) (by have := HB.out.rB R (.inl rfl); omega)
  have hmany : T.many = l.length := HB.out.many
  have hll4 : l.length ≤ 17592186043904 := by omega
  have HBo6 := hid hBo6
  have HSEQ := hid hseq
  have HL := hid hL
  have hLn : L.length ≤ 17592186043904 := by omega
  have hW2s : w.heap.size + 1 + 1 ≤ w2.heap.size := by omega
  have hN3s : w2.heap.size ≤ N3 := by omega
  have hs60 : w.heap.size ≤ w6.heap.size := by omega
  have HB06 := hid hb06
  clear hP hseq hTp hPt hBo6 hTw6 hTw3 hRk hRv hb6 hb36 hb26 hbA6 hb06 bk5 bv5 bi5 hb5 cm6 cl6 ch6 hLl hL hsA hs2 hs3 hn3 HTW HB HB2 HB3 HN3 HW5 HSZ HBA HS1 HR1 HWA hw6 hs5 hl hl' hln hn hn'
  have hOB1 : OwnFrom w6.heap.size (fun (pre : List (Int × Int)) W => Boxed W (N3 + 1 + 1) 3 (.int .i64 pre.length)) := Own.from (boxed_own _ _ (fun (pre : List (Int × Int)) => .int .i64 pre.length)) _
  have hOB2 : OwnFrom w6.heap.size (fun (_ : List (Int × Int)) W => Boxed W (w.heap.size + 1) 4 (.bool false)) := Own.from (boxed_own _ _ (fun _ => .bool false)) _
  have hOB3 : OwnFrom w6.heap.size (fun (_ : List (Int × Int)) W => KeepsT P w6 W) := ownFrom_keepsT (fun k hk => ⟨hPlt k hk, hPlt k hk⟩)
  have hOB4 : OwnFrom w6.heap.size (fun (_ : List (Int × Int)) W => Below w.heap.size w W) := ownFrom_below (Nat.le_refl _) hs60
  have hOI := OwnFrom.and hOB1 (OwnFrom.and hOB2 (OwnFrom.and hOB3 (OwnFrom.and hOB4 (ownFrom_pure _ (fun (pre : List (Int × Int)) => pre <+: L ∧ ∀ k : Nat, 1 ≤ k → k ≤ pre.length → (k : Int) ≠ stop)))))
  have hOX := fun cd : Code => OwnFrom.or (ownFrom_pure w6.heap.size (fun (pre : List (Int × Int)) => ¬ pre <+: L ∧ cd = .ret)) (OwnFrom.and hOB1 (OwnFrom.and hOB2 (OwnFrom.and hOB3 (OwnFrom.and hOB4 (ownFrom_pure _ (fun (pre : List (Int × Int)) => pre <+: L ∧ 1 ≤ pre.length ∧ (pre.length : Int) = stop ∧ cd = .exit 0))))))
  go_wp2_with fail
  refine (wpIn_wide (n := 4)).1 ?_
  refine wpIn_rangeFunc_ownH rfl (by omega) (gf := 80) (lb := #[.pointer (some ⟨N3 + 1 + 1 + 1, 0, none⟩), .pointer (some ⟨N3 + 1 + 1 + 1 + 1, 0, none⟩), .pointer (some ⟨N3 + 1 + 1 + 1 + 1 + 1, 0, none⟩)]) rfl trivial (enters_of Try.func80 (by kernel_rfl) rfl)
    HSEQ.out keepsT_t (keepsT_b hPlt) (Below.refl _ _) (fun _ => rfl)
    (fun (pre : List (Int × Int)) W => Boxed W (N3 + 1 + 1) 3 (.int .i64 pre.length) ∧ Boxed W (w.heap.size + 1) 4 (.bool false) ∧ KeepsT P w6 W ∧ Below w.heap.size w W ∧ (pre <+: L ∧ ∀ k : Nat, 1 ≤ k → k ≤ pre.length → (k : Int) ≠ stop))
    (fun cd (pre : List (Int × Int)) W => (¬ pre <+: L ∧ cd = .ret) ∨ (Boxed W (N3 + 1 + 1) 3 (.int .i64 pre.length) ∧ Boxed W (w.heap.size + 1) 4 (.bool false) ∧ KeepsT P w6 W ∧ Below w.heap.size w W ∧ (pre <+: L ∧ 1 ≤ pre.length ∧ (pre.length : Int) = stop ∧ cd = .exit 0)))
    hOI hOX
    ⟨hi6, hres6, keepsT_refl _ _, HB06.out, List.nil_prefix, fun k h1 h2 => absurd h2 (by simp; omega)⟩
    (fun x a' _ => a' = { tmps := #[.slice A n c, .slice A' n' c', .int .i64 lo, .int .i64 hi, .int .i64 stop, undef, undef, undef, undef, .pointer (some { block := w.heap.size, off := 0 }), .pointer (some { block := w.heap.size + 1, off := 0 }), .pointer (some { block := M, off := 0 }), .pointer (some { block := R, off := 0 }), .pointer (some { block := N3, off := 0 }), .pointer (some { block := N3 + 1, off := 0 }), .pointer (some { block := N3 + 1 + 1, off := 0 }), .func (.func 80) #[] #[.pointer (some { block := N3 + 1 + 1 + 1, off := 0 }), .pointer (some { block := N3 + 1 + 1 + 1 + 1, off := 0 }), .pointer (some { block := N3 + 1 + 1 + 1 + 2, off := 0 })], .int .i64 x.1, .int .i64 x.2, undef, .tuple #[.pointer (some { block := M, off := 0 }), .pointer (some { block := R, off := 0 })], .slice A n c, .slice A' n' c', .tuple #[.pointer (some { block := M, off := 0 }), .pointer (some { block := R, off := 0 })], .pointer (some { block := M, off := 0 }), .pointer (some { block := R, off := 0 }), .tuple #[.slice Ak L.length ck, .slice Av L.length cv], .pointer (some { block := R, off := 0 }), .int .i64 lo, .int .i64 hi, .tuple #[.slice Ak L.length ck, .slice Av L.length cv], .slice Ak L.length ck, .slice Av L.length cv, .pointer (some { block := M, off := 0 }), .int .i64 lo, .int .i64 hi, .func (.func 80) #[] #[.pointer (some { block := N3 + 1 + 1 + 1, off := 0 }), .pointer (some { block := N3 + 1 + 1 + 1 + 1, off := 0 }), .pointer (some { block := N3 + 1 + 1 + 1 + 2, off := 0 })], .func (.func 80) #[] #[.pointer (some { block := N3 + 1 + 1 + 1, off := 0 }), .pointer (some { block := N3 + 1 + 1 + 1 + 1, off := 0 }), .pointer (some { block := N3 + 1 + 1 + 1 + 2, off := 0 })], .bool false, .func (.func 80) #[] #[.pointer (some { block := N3 + 1 + 1 + 1, off := 0 }), .pointer (some { block := N3 + 1 + 1 + 1 + 1, off := 0 }), .pointer (some { block := N3 + 1 + 1 + 1 + 2, off := 0 })], .int .i64 x.1, .int .i64 x.2, undef, undef, undef, undef, undef, undef, undef, undef, undef, undef, undef, undef, undef, undef, undef, undef, undef, undef, undef, undef, undef, undef, undef, undef, undef, undef, undef, undef, undef, undef, undef, undef, undef, undef, undef, undef, undef, undef, undef, undef, undef, undef, undef, undef, undef, undef, undef, undef], defers := [] })
    (fun _ _ _ _ _ _ hs _ _ => hs)
    ?assign ?body ?done ?stop
  case assign =>
    intro l1 pre x W K hI hK
    gi_wp2
    exact hK _ _ (KeepsFrom.refl _ _) (keepsT_refl _ _) hI rfl
  case body =>
    rintro l1 pre ⟨x1, x2⟩ a' W hl1 ⟨r, hr⟩ ⟨hbi, hbr, hkt, hbw, hpre, hns⟩ rfl hlt
    obtain ⟨b, off, b', off', y1, y2, hxy, hA, hA', ⟨hb1, hb2⟩, ⟨hb1', hb2'⟩, g1, g2⟩ := HAT.out pre.length hlt
    have hci := hbi.cell
    have hfi := hbi.frozen
    have hcr := hbr.cell
    have hfr := hbr.frozen
    have hck : W.cell? ⟨N3, 0, none⟩ = some (.slice Ak L.length ck) := (keepsT_cell hkt (p := ⟨N3, 0, none⟩) (hPi N3 (by omega) (by omega) (by omega))).trans hk6.cell
    have hcv : W.cell? ⟨N3 + 1, 0, none⟩ = some (.slice Av L.length cv) := (keepsT_cell hkt (p := ⟨N3 + 1, 0, none⟩) (hPi (N3 + 1) (by omega) (by omega) (by omega))).trans hv6.cell
    have hcs : W.cell? ⟨w.heap.size, 0, none⟩ = some (.int .i64 stop) := (keepsT_cell hkt (p := ⟨w.heap.size, 0, none⟩) (hPi w.heap.size (by omega) (by omega) (by omega))).trans hstop6.cell
    have he1 : W.cell? ⟨b, off + pre.length, none⟩ = some (.int .i64 y1) := (keepsT_cell hkt (p := ⟨b, _, none⟩) (hPi b (by omega) (by omega) (by omega))).trans g1
    have he2 : W.cell? ⟨b', off' + pre.length, none⟩ = some (.int .i64 y2) := (keepsT_cell hkt (p := ⟨b', _, none⟩) (hPi b' (by omega) (by omega) (by omega))).trans g2
    subst hA
    subst hA'
    have hii : (pre.length : Int) < (L.length : Int) := by omega
    have hge : decide ((L.length : Int) ≤ (pre.length : Int)) = false := by simp; omega
    have hwi : IntKind.i64.wrap ((pre.length : Int) + 1) = (pre.length : Int) + 1 := wrap_small _ (by omega) (by omega)
    have HBI := hid hbi
    have HBRx := hid hbr
    have HKT := hid hkt
    have HBW := hid hbw
    have HPRE : Hid (∀ x, pre ++ [x] <+: L ↔ x = (y1, y2)) := fun x => by
      rw [prefix_snoc hpre, hxy.out]
      exact ⟨fun h => by injection h with h; exact h.symm, fun h => by rw [h]⟩
    have HNS := hid hns
    have hlen1 : ((pre ++ [(x1, x2)]).length : Int) = (pre.length : Int) + 1 := by simp
    have HLN := hid hlen1
    clear hbi hbr hkt hbw hpre hns hxy g1 g2 hb1 hb2 hb1' hb2' hlen1 HSEQ hOB1 hOB2 hOB3 hOB4 hOI hOX
    by_cases h1 : x1 = y1
    · by_cases h2 : x2 = y2
      · have e1 : (x1 != y1) = false := by simp [h1]
        have e2 : (x2 != y2) = false := by simp [h2]
        have HP2 : Hid (pre ++ [(x1, x2)] <+: L) := (HPRE.out _).2 (by rw [h1, h2])
        clear h1 h2
        by_cases h3 : (pre.length : Int) + 1 = stop
        · have e3 : ((pre.length : Int) + 1 == stop) = true := by simp [h3]
          have H3 := hid h3
          clear h3
          gi_wp2_with fail
          refine ⟨(KeepsOthers.setCell _ _ _).from _, .inr ⟨?_, HBRx.out.other (by omega) _, keepsT_set HKT.out (p := ⟨N3 + 1 + 1, 0, none⟩) hPn1 _, ?_, HP2.out, by simp, by rw [HLN.out]; exact H3.out, rfl⟩⟩
          · rw [HLN.out]; exact HBI.out.set _
          · exact HBW.out.setCell (p := ⟨N3 + 1 + 1, 0, none⟩) (by show w.heap.size ≤ N3 + 1 + 1; omega) _
        · have e3 : ((pre.length : Int) + 1 == stop) = false := by simp [h3]
          have H3 := hid h3
          clear h3
          gi_wp2_with fail
          refine ⟨(KeepsOthers.setCell _ _ _).from _, keepsT_set (keepsT_refl _ _) (p := ⟨N3 + 1 + 1, 0, none⟩) hPn1 _, ?_, HBRx.out.other (by omega) _, keepsT_set HKT.out (p := ⟨N3 + 1 + 1, 0, none⟩) hPn1 _, ?_, HP2.out, ?_⟩
          · rw [HLN.out]; exact HBI.out.set _
          · exact HBW.out.setCell (p := ⟨N3 + 1 + 1, 0, none⟩) (by show w.heap.size ≤ N3 + 1 + 1; omega) _
          · intro k h1 h2
            rw [List.length_append, List.length_singleton] at h2
            rcases Nat.lt_or_ge pre.length k with h | h
            · obtain rfl : k = pre.length + 1 := by omega
              have := H3.out
              omega
            · exact HNS.out k h1 h
      · have e1 : (x1 != y1) = false := by simp [h1]
        have e2 : (x2 != y2) = true := by simp [h2]
        have HN : Hid (¬ pre ++ [(x1, x2)] <+: L) := fun h => h2 (by have := (HPRE.out _).1 h; injection this)
        clear h1 h2
        gi_wp2_with fail
        exact ⟨(KeepsOthers.setCell _ _ _).from _, .inl ⟨HN.out, rfl⟩⟩
    · have e1 : (x1 != y1) = true := by simp [h1]
      have HN : Hid (¬ pre ++ [(x1, x2)] <+: L) := fun h => h1 (by have := (HPRE.out _).1 h; injection this)
      clear h1
      gi_wp2_with fail
      exact ⟨(KeepsOthers.setCell _ _ _).from _, .inl ⟨HN.out, rfl⟩⟩
  case done =>
    rintro D ys W hD hys ⟨hbi, hbr, hkt, hbw, hpre, hns⟩ hKD
    obtain rfl : L = ys := hys.symm
    have hci := hbi.cell
    have hfi := hbi.frozen
    have hcr := hbr.cell
    have hfr := hbr.frozen
    have hck : W.cell? ⟨N3, 0, none⟩ = some (.slice Ak L.length ck) := (keepsT_cell hkt (p := ⟨N3, 0, none⟩) (hPi N3 (by omega) (by omega) (by omega))).trans hk6.cell
    have hcs : W.cell? ⟨w.heap.size, 0, none⟩ = some (.int .i64 stop) := (keepsT_cell hkt (p := ⟨w.heap.size, 0, none⟩) (hPi w.heap.size (by omega) (by omega) (by omega))).trans hstop6.cell
    obtain ⟨Ar, cr, Ar', cr', hkve, _, _, _, _, _, _, _⟩ := HBo6.out.rf.read
    have hcR : W.cell? ⟨R, 1, none⟩ = some (.slice Ar l.length cr) := by rw [← hkve]; exact (keepsT_cell hkt (p := ⟨R, 1, none⟩) hRP).trans HBo6.out.rf.c1
    have hlen := TI.mapLen_any W.drew M _ _ T ((IsMap_keeps HBo6.out.mp hkt hMP hTP).drewN 1)
    rw [hmany] at hlen
    have HLEN := hid hlen
    have HBI := hid hbi
    have HBRx := hid hbr
    have HKT := hid hkt
    have HBW := hid hbw
    have HKD := hid hKD
    have hll : ((l.length : Int) == (l.length : Int)) = true := by simp
    clear hbi hbr hkt hbw hKD hlen hkve HSEQ hOB1 hOB2 hOB3 hOB4 hOI hOX hPlt hPn1 hPn2 hPi hMP hTP hRP
    have hLL : ((L.length : Int) == (L.length : Int)) = true := by simp
    by_cases h1 : 0 < stop
    · have h2 : ¬ stop < (L.length : Int) := fun h2 => hns stop.toNat (by omega) (by omega) (by omega)
      clear hns
      go_wp2_with fail
      go_still_tail 13, (by kernel_rfl)
      still_call (HLEN.out)
      repeat still_step
      refine wpStill_nil ?_
      change wpList _ _ _ _ _ (World.drew W)
      go_wp2_with fail
      have hX : Boxed ((World.drew (W.setCell ⟨w.heap.size + 1, 0, none⟩ (.bool true)))) (w.heap.size + 1) 4 (.bool true) := Boxed.set (v := .bool false) _ HBRx.out
      have hKX : ((World.drew (W.setCell ⟨w.heap.size + 1, 0, none⟩ (.bool true)))).heap[D]? = some (.deferred (some [])) := (Below.heap_setCell _ _ _ _ (by show D ≠ w.heap.size + 1; omega)).trans HKD.out
      have hBX : Below w.heap.size w ((World.drew (W.setCell ⟨w.heap.size + 1, 0, none⟩ (.bool true)))) := (HBW.out.setCell (p := ⟨w.heap.size + 1, 0, none⟩) (by show w.heap.size ≤ w.heap.size + 1; omega) _).drew
      generalize (World.drew (W.setCell ⟨w.heap.size + 1, 0, none⟩ (.bool true))) = X at *
      refine ⟨by simp, .inl ⟨_, _, rfl, run_takeDeferred hKX, ?_⟩⟩
      exact ⟨_, results_cell1 rfl _ _ (w.heap.size + 1) (.bool true) rfl Try.underlying4 (hX.kept (grownBy_putObj' X D _) (fun e => by injection e with e; omega)).cell, rfl, hBX.trans (belowK_b (w := w) (Nat.le_refl _) X D _ _ (by omega) hKX rfl rfl)⟩
    · clear hns
      go_wp2_with fail
      go_still_tail 13, (by kernel_rfl)
      still_call (HLEN.out)
      repeat still_step
      refine wpStill_nil ?_
      change wpList _ _ _ _ _ (World.drew W)
      go_wp2_with fail
      have hX : Boxed ((World.drew (W.setCell ⟨w.heap.size + 1, 0, none⟩ (.bool true)))) (w.heap.size + 1) 4 (.bool true) := Boxed.set (v := .bool false) _ HBRx.out
      have hKX : ((World.drew (W.setCell ⟨w.heap.size + 1, 0, none⟩ (.bool true)))).heap[D]? = some (.deferred (some [])) := (Below.heap_setCell _ _ _ _ (by show D ≠ w.heap.size + 1; omega)).trans HKD.out
      have hBX : Below w.heap.size w ((World.drew (W.setCell ⟨w.heap.size + 1, 0, none⟩ (.bool true)))) := (HBW.out.setCell (p := ⟨w.heap.size + 1, 0, none⟩) (by show w.heap.size ≤ w.heap.size + 1; omega) _).drew
      generalize (World.drew (W.setCell ⟨w.heap.size + 1, 0, none⟩ (.bool true))) = X at *
      refine ⟨by simp, .inl ⟨_, _, rfl, run_takeDeferred hKX, ?_⟩⟩
      exact ⟨_, results_cell1 rfl _ _ (w.heap.size + 1) (.bool true) rfl Try.underlying4 (hX.kept (grownBy_putObj' X D _) (fun e => by injection e with e; omega)).cell, rfl, hBX.trans (belowK_b (w := w) (Nat.le_refl _) X D _ _ (by omega) hKX rfl rfl)⟩
  case stop =>
    rintro D cd pre W hD hSp (⟨hn, _⟩ | ⟨hbi, hbr, hkt, hbw, hpre, h1, hst, rfl⟩) hKD
    · exact absurd hSp hn
    · have hpl := hpre.length_le
      have hci := hbi.cell
      have hfi := hbi.frozen
      have hcr := hbr.cell
      have hfr := hbr.frozen
      have hck : W.cell? ⟨N3, 0, none⟩ = some (.slice Ak L.length ck) := (keepsT_cell hkt (p := ⟨N3, 0, none⟩) (hPi N3 (by omega) (by omega) (by omega))).trans hk6.cell
      have hcs : W.cell? ⟨w.heap.size, 0, none⟩ = some (.int .i64 stop) := (keepsT_cell hkt (p := ⟨w.heap.size, 0, none⟩) (hPi w.heap.size (by omega) (by omega) (by omega))).trans hstop6.cell
      obtain ⟨Ar, cr, Ar', cr', hkve, _, _, _, _, _, _, _⟩ := HBo6.out.rf.read
      have hcR : W.cell? ⟨R, 1, none⟩ = some (.slice Ar l.length cr) := by rw [← hkve]; exact (keepsT_cell hkt (p := ⟨R, 1, none⟩) hRP).trans HBo6.out.rf.c1
      have hlen := TI.mapLen_any W.drew M _ _ T ((IsMap_keeps HBo6.out.mp hkt hMP hTP).drewN 1)
      rw [hmany] at hlen
      have HLEN := hid hlen
      have HBI := hid hbi
      have HBRx := hid hbr
      have HKT := hid hkt
      have HBW := hid hbw
      have HKD := hid hKD
      have hll : ((l.length : Int) == (l.length : Int)) = true := by simp
      clear hbi hbr hkt hbw hKD hlen hkve HSEQ hOB1 hOB2 hOB3 hOB4 hOI hOX hPlt hPn1 hPn2 hPi hMP hTP hRP
      clear hpre hSp
      refine (wpIn_wide (n := 4)).2 ?_
      have h0 : 0 < stop := by omega
      by_cases h2 : stop < (L.length : Int)
      · have h3 : ((pre.length : Int) == stop) = true := by simp [hst]
        clear hst
        go_wp2_with fail
        go_still_tail 13, (by kernel_rfl)
        still_call (HLEN.out)
        repeat still_step
        refine wpStill_nil ?_
        change wpList _ _ _ _ _ (World.drew W)
        go_wp2_with fail
        have hX : Boxed ((World.drew (W.setCell ⟨w.heap.size + 1, 0, none⟩ (.bool true)))) (w.heap.size + 1) 4 (.bool true) := Boxed.set (v := .bool false) _ HBRx.out
        have hKX : ((World.drew (W.setCell ⟨w.heap.size + 1, 0, none⟩ (.bool true)))).heap[D]? = some (.deferred (some [])) := (Below.heap_setCell _ _ _ _ (by show D ≠ w.heap.size + 1; omega)).trans HKD.out
        have hBX : Below w.heap.size w ((World.drew (W.setCell ⟨w.heap.size + 1, 0, none⟩ (.bool true)))) := (HBW.out.setCell (p := ⟨w.heap.size + 1, 0, none⟩) (by show w.heap.size ≤ w.heap.size + 1; omega) _).drew
        generalize (World.drew (W.setCell ⟨w.heap.size + 1, 0, none⟩ (.bool true))) = X at *
        refine ⟨by simp, .inl ⟨_, _, rfl, run_takeDeferred hKX, ?_⟩⟩
        exact ⟨_, results_cell1 rfl _ _ (w.heap.size + 1) (.bool true) rfl Try.underlying4 (hX.kept (grownBy_putObj' X D _) (fun e => by injection e with e; omega)).cell, rfl, hBX.trans (belowK_b (w := w) (Nat.le_refl _) X D _ _ (by omega) hKX rfl rfl)⟩
      · have h3 : ((pre.length : Int) == (L.length : Int)) = true := by simp; omega
        clear hst
        go_wp2_with fail
        go_still_tail 13, (by kernel_rfl)
        still_call (HLEN.out)
        repeat still_step
        refine wpStill_nil ?_
        change wpList _ _ _ _ _ (World.drew W)
        go_wp2_with fail
        have hX : Boxed ((World.drew (W.setCell ⟨w.heap.size + 1, 0, none⟩ (.bool true)))) (w.heap.size + 1) 4 (.bool true) := Boxed.set (v := .bool false) _ HBRx.out
        have hKX : ((World.drew (W.setCell ⟨w.heap.size + 1, 0, none⟩ (.bool true)))).heap[D]? = some (.deferred (some [])) := (Below.heap_setCell _ _ _ _ (by show D ≠ w.heap.size + 1; omega)).trans HKD.out
        have hBX : Below w.heap.size w ((World.drew (W.setCell ⟨w.heap.size + 1, 0, none⟩ (.bool true)))) := (HBW.out.setCell (p := ⟨w.heap.size + 1, 0, none⟩) (by show w.heap.size ≤ w.heap.size + 1; omega) _).drew
        generalize (World.drew (W.setCell ⟨w.heap.size + 1, 0, none⟩ (.bool true))) = X at *
        refine ⟨by simp, .inl ⟨_, _, rfl, run_takeDeferred hKX, ?_⟩⟩
        exact ⟨_, results_cell1 rfl _ _ (w.heap.size + 1) (.bool true) rfl Try.underlying4 (hX.kept (grownBy_putObj' X D _) (fun e => by injection e with e; omega)).cell, rfl, hBX.trans (belowK_b (w := w) (Nat.le_refl _) X D _ _ (by omega) hKX rfl rfl)⟩
end Go.Proofs.Ytfjeagffdijcoaa
